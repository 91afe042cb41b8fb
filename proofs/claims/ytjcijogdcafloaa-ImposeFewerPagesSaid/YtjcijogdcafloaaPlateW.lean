/- The walk of impose.Plate. -/
import Derived.Test.YtjcijogdcafloaaRasTurn
import Derived.Test.YtjcijogdcafloaaMarksW
import Derived.Test.YtjcijogdcafloaaImpE
namespace Go.Proofs.Ytjcijogdcafloaa
open Go.RowKit
/-- The cells of a slice of plates of one size. -/
def plateCells (W H : Int) (vals : List Value) : List Value := vals.flatMap fun v => [.int .i64 W, .int .i64 H, v]
theorem plateCells_at (W H : Int) (vals : List Value) (i : Nat) (hi : i < vals.length) : (plateCells W H vals)[i * 3]? = some (.int .i64 W) ∧ (plateCells W H vals)[i * 3 + 1]? = some (.int .i64 H) ∧ (plateCells W H vals)[i * 3 + 2]? = some (vals.getD i undef) := by
  induction vals generalizing i with
  | nil => simp at hi
  | cons p l ih =>
    cases i with
    | zero => simp [plateCells]
    | succ i =>
      obtain ⟨a, b, c⟩ := ih i (by simpa using hi)
      have e : ∀ j, (plateCells W H (p :: l))[(i + 1) * 3 + j]? = (plateCells W H l)[i * 3 + j]? := fun j => by
        simp only [plateCells, List.flatMap_cons]
        rw [List.getElem?_append_right (by simp; omega)]
        congr 1; simp; omega
      exact ⟨(e 0).trans a, (e 1).trans b, (e 2).trans (by simpa using c)⟩
/-- A slice of plates that holds pages of one size. -/
structure PgV (w : World) (ok : Nat → Prop) (vp : Value) (W H : Int) (vals : List Value) (pages : List (List UInt8)) : Prop where
  sl : SlM w ok vp pages.length (plateCells W H vals)
  len : vals.length = pages.length
  px : ∀ i, i < pages.length → Sl w ok (vals.getD i undef) (byts (pcN pages i))
  sz : ∀ i, i < pages.length → (pcN pages i).length = W.toNat * H.toNat
theorem PgV.later {w w' : World} {ok : Nat → Prop} {vp : Value} {W H : Int} {vals : List Value} {pages : List (List UInt8)} (h : PgV w ok vp W H vals pages) (hb : Below w.heap.size w w') : PgV w' ok vp W H vals pages :=
  ⟨h.sl.later hb, h.len, fun i hi => (h.px i hi).later hb, h.sz⟩
/-- What Plate has in memory at first. -/
structure P0M (cs : Array Value) (w wr : World) : Prop where
  bl : Blk wr w.heap.size 26 cs
  br : Blk wr (w.heap.size + 1) 52 #[.int .i64 0, .int .i64 0, .slice none 0 0]
  be : Below w.heap.size w wr
theorem P0M.later {cs : Array Value} {w wr wa : World} (h : P0M cs w wr) (hb : Below wr.heap.size wr wa) : P0M cs w wa :=
  ⟨h.bl.below hb h.bl.lt, h.br.below hb h.br.lt, h.be.trans (hb.mono h.be.size)⟩
/-- What Plate has in memory at its two pasting loops. -/
structure PlM (cs : Array Value) (pw ph : Int) (w wr : World) (G : Nat) (vo : Value) (img : List UInt8) : Prop where
  bl : Blk wr w.heap.size 26 cs
  br : Blk wr (w.heap.size + 1) 52 #[.int .i64 0, .int .i64 0, .slice none 0 0]
  bg : Blk wr G 93 #[.int .i64 pw, .int .i64 ph, vo]
  sl : Sl wr (fun b => b ≠ G) vo (byts img)
  be : Below w.heap.size w wr
  hG : w.heap.size + 1 < G
section
variable {cs : Array Value} {pw ph : Int} {w wr wa : World} {G : Nat} {vo v1 : Value} {img img1 : List UInt8}
theorem PlM.later (h : PlM cs pw ph w wr G vo img) (hb : Below wr.heap.size wr wa) : PlM cs pw ph w wa G vo img :=
  ⟨h.bl.below hb h.bl.lt, h.br.below hb h.br.lt, h.bg.below hb h.bg.lt, h.sl.later hb, h.be.trans (hb.mono h.be.size), h.hG⟩
/-- The new raster is stored. -/
theorem PlM.stored (h : PlM cs pw ph w wr G vo img) (hs : Sl wr (fun b => b ≠ G) v1 (byts img1)) : PlM cs pw ph w (((wr.setCell ⟨G, 0, none⟩ (.int .i64 pw)).setCell ⟨G, 1, none⟩ (.int .i64 ph)).setCell ⟨G, 2, none⟩ v1) G v1 img1 := by
  have hG := h.hG
  have hlt := h.be.size
  refine ⟨((h.bl.far (by simp; omega) _).far (by simp; omega) _).far (by simp; omega) _, ((h.br.far (by simp; omega) _).far (by simp; omega) _).far (by simp; omega) _, ?_, ((hs.far (by simp) _).far (by simp) _).far (by simp) _, ((h.be.setCell (by show w.heap.size ≤ G; omega) _).setCell (by show w.heap.size ≤ G; omega) _).setCell (by show w.heap.size ≤ G; omega) _, hG⟩
  have := ((h.bg.put 0 (.int .i64 pw)).put 1 (.int .i64 ph)).put 2 v1
  simpa using this
end
/-- A new box of a raster. -/
theorem cut26 {w2 wA : World} {k base wh c2 : Nat} {tw th : Int} {A2 : Option Addr} {bs : List Value} (hb : Blk w2 k 93 #[.int .i64 0, .int .i64 0, .slice none 0 0]) (ho : w2.ownsRow base 5 1 (.slice A2 wh c2) wh bs) (hk : k < base) (hA : wA.heap.size ≤ k) (hbe : Below wA.heap.size wA w2) :
    Blk (((w2.setCell ⟨k, 0, none⟩ (.int .i64 tw)).setCell ⟨k, 1, none⟩ (.int .i64 th)).setCell ⟨k, 2, none⟩ (.slice A2 wh c2)) k 93 #[.int .i64 tw, .int .i64 th, .slice A2 wh c2] ∧
    Sl (((w2.setCell ⟨k, 0, none⟩ (.int .i64 tw)).setCell ⟨k, 1, none⟩ (.int .i64 th)).setCell ⟨k, 2, none⟩ (.slice A2 wh c2)) (fun _ => True) (.slice A2 wh c2) bs ∧
    Below wA.heap.size wA (((w2.setCell ⟨k, 0, none⟩ (.int .i64 tw)).setCell ⟨k, 1, none⟩ (.int .i64 th)).setCell ⟨k, 2, none⟩ (.slice A2 wh c2)) := by
  refine ⟨?_, ?_, ((hbe.setCell (by show wA.heap.size ≤ k; exact hA) _).setCell (by show wA.heap.size ≤ k; exact hA) _).setCell (by show wA.heap.size ≤ k; exact hA) _⟩
  · have := ((hb.put 0 (.int .i64 tw)).put 1 (.int .i64 th)).put 2 (.slice A2 wh c2)
    simpa using this
  · have h := (Sl.of_own ho).mono (ok' := fun b => base ≤ b) fun b _ hb => hb.2
    exact (((h.far (p := ⟨k, 0, none⟩) (by show ¬ base ≤ k; omega) _).far (p := ⟨k, 1, none⟩) (by show ¬ base ≤ k; omega) _).far (p := ⟨k, 2, none⟩) (by show ¬ base ≤ k; omega) _).mono fun _ _ _ => trivial
theorem cut26a {w2 wA : World} {base wh c2 : Nat} {tw th : Int} {A2 : Option Addr} {bs : List Value} (ho : w2.ownsRow base 5 1 (.slice A2 wh c2) wh bs) (hbe : Below wA.heap.size wA w2) :
    Blk (w2.alloc (Obj.cells #[.int .i64 tw, .int .i64 th, .slice A2 wh c2] 93)) w2.heap.size 93 #[.int .i64 tw, .int .i64 th, .slice A2 wh c2] ∧
    Sl (w2.alloc (Obj.cells #[.int .i64 tw, .int .i64 th, .slice A2 wh c2] 93)) (fun _ => True) (.slice A2 wh c2) bs ∧
    Below wA.heap.size wA (w2.alloc (Obj.cells #[.int .i64 tw, .int .i64 th, .slice A2 wh c2] 93)) :=
  ⟨Blk.new w2 _ _, ((Sl.of_own ho).alloc _).mono fun _ _ _ => trivial, hbe.alloc hbe.size _⟩
def mk0 : Mk := ⟨0, 0, 0, 0⟩
def mkN (l : List Mk) (i : Nat) : Mk := l.getD i mk0
theorem mkN_get (l : List Mk) {i : Nat} (h : i < l.length) : l[i]? = some (mkN l i) := by
  unfold mkN; rw [List.getD_eq_getElem?_getD, List.getElem?_eq_getElem h]; rfl
theorem mkN_mem (l : List Mk) {i : Nat} (h : i < l.length) : mkN l i ∈ l := List.mem_of_getElem? (mkN_get l h)
theorem mkcells_at (l : List Mk) (i j : Nat) (hi : i < l.length) (hj : j < 4) : (mkcells l)[i * 4 + j]? = (mkcell (mkN l i))[j]? := by
  induction l generalizing i with
  | nil => simp at hi
  | cons p l ih =>
    cases i with
    | zero =>
      have : mkN (p :: l) 0 = p := rfl
      rw [this]
      simp only [mkcells, List.flatMap_cons]
      rw [List.getElem?_append_left (by simp [mkcell]; omega)]; simp
    | succ i =>
      have e : mkN (p :: l) (i + 1) = mkN l i := rfl
      rw [e, ← ih i (by simpa using hi)]
      simp only [mkcells, List.flatMap_cons]
      rw [List.getElem?_append_right (by simp [mkcell]; omega)]
      congr 1; simp [mkcell]; omega
theorem MkV.cells {w : World} {ok : Nat → Prop} {v : Value} {l : List Mk} (h : MkV w ok v l) (hn : 0 < l.length) : ∃ b off cap, v = .slice (some ⟨b, off, none⟩) l.length cap ∧ ok b ∧ b < w.heap.size ∧ l.length ≤ cap ∧ cap ≤ maxLen ∧
    ∀ i, i < l.length → w.cell? ⟨b, off + i * 4, none⟩ = some (.int .i64 (mkN l i).x) ∧ w.cell? ⟨b, off + i * 4 + 1, none⟩ = some (.int .i64 (mkN l i).y) ∧ w.cell? ⟨b, off + i * 4 + 2, none⟩ = some (.int .i64 (mkN l i).w) ∧ w.cell? ⟨b, off + i * 4 + 3, none⟩ = some (.int .i64 (mkN l i).h) := by
  obtain ⟨b, off, cap, hv, hb, hl, h1, h2, hc⟩ := SlM.open_ h hn
  refine ⟨b, off, cap, hv, hb, hl, h1, h2, fun i hi => ?_⟩
  have key : ∀ j u, j < 4 → (mkcell (mkN l i))[j]? = some u → w.cell? ⟨b, off + i * 4 + j, none⟩ = some u := fun j u hj hu => by
    rw [Nat.add_assoc]; exact hc _ u ((mkcells_at l i j hi hj).trans hu)
  exact ⟨key 0 _ (by omega) rfl, key 1 _ (by omega) rfl, key 2 _ (by omega) rfl, key 3 _ (by omega) rfl⟩
theorem MkV.form {w : World} {ok : Nat → Prop} {v : Value} {l : List Mk} (h : MkV w ok v l) : ∃ A cap, v = .slice A l.length cap := SlM.form h
def PlateOk (a b : Int) (img : List UInt8) (w : World) (e : Ending) (w' : World) : Prop :=
  ∃ v', e = .returned (.tuple #[.agg #[.int .i64 a, .int .i64 b, v'], .int .i64 0]) ∧ w'.ownsRow w.heap.size 5 1 v' img.length (byts img) ∧ Below w.heap.size w w'
theorem take_snoc' {α : Type} (l : List α) {i : Nat} {x : α} (h : l[i]? = some x) : l.take (i + 1) = l.take i ++ [x] := by
  rw [List.take_add_one, h]; rfl
set_option maxRecDepth 100000 in
set_option maxHeartbeats 8000000 in
theorem plate_ok {L : Lay} {v : Value} {l : List Step} (h : LB L v l) (ok : L.Ok) (hpw : L.pw ≤ 1024) (hph : L.ph ≤ 1024) (w : World) (hI : Sv w v l)
    (HChk : ∀ w', Below w.heap.size w w' → Calls Try.prog 29 #[layV L v] w' fun e w'' => e = .returned (.int .i64 0) ∧ Below w'.heap.size w' w'')
    (vp : Value) (okp : Nat → Prop) (vals : List Value) (pages : List (List UInt8)) (hpg : PgV w okp vp L.W L.H vals pages) (hk : pages.length ≤ (psOf L l).length) (back : Bool)
    (pl : List Pla) (hpl : pl = if back then L.backTo (psOf L l) pages.length else L.frontTo (psOf L l) pages.length) :
    Calls Try.prog 17 #[layV L v, vp, .bool back, .bool true] w (PlateOk L.pw L.ph (L.pgs L.pw.toNat L.ph.toNat pages (imgM L.pw.toNat L.ph.toNat L.marksL) pl) w) := by
  have c1 := ok.c1
  have r1 := ok.r1
  have hlw1 : 1 ≤ L.lw ∧ 1 ≤ L.lh := by
    have := ok.w1; have := ok.h1; have := ok.head0; have := ok.fore0; have := ok.spine0
    unfold Lay.lw Lay.lh Lay.fw Lay.fh; split <;> omega
  have hP0 : 1 ≤ L.pw ∧ 1 ≤ L.ph := by
    have a := Int.mul_le_mul_of_nonneg_right (show (1 : Int) ≤ L.C by omega) (show 0 ≤ L.lw by omega)
    have b := Int.mul_le_mul_of_nonneg_right (show (1 : Int) ≤ L.R by omega) (show 0 ≤ L.lh by omega)
    have := ok.margin0
    unfold Lay.pw Lay.ph Lay.sw Lay.sh; constructor <;> split <;> omega
  obtain ⟨PW, hPW⟩ := Int.eq_ofNat_of_zero_le (show 0 ≤ L.pw by omega)
  obtain ⟨PH, hPH⟩ := Int.eq_ofNat_of_zero_le (show 0 ≤ L.ph by omega)
  have ePW : L.pw.toNat = PW := by rw [hPW]; exact Int.toNat_natCast _
  have ePH : L.ph.toNat = PH := by rw [hPH]; exact Int.toNat_natCast _
  rw [ePW, ePH, hPW, hPH]
  have hP1 : 1 ≤ PW ∧ PW ≤ 1024 ∧ 1 ≤ PH ∧ PH ≤ 1024 := by omega
  have HI := Lib.hid hI
  have HPg := Lib.hid hpg
  have HC := Lib.hid HChk
  have HSh : Hid (∀ w', Below w.heap.size w w' → Calls Try.prog 10 #[layV L v, .int .i64 (pages.length : Int)] w' (SheetOk PW PH (L.frontTo (psOf L l) pages.length) (L.backTo (psOf L l) pages.length) w')) := fun w' hb => hPW ▸ hPH ▸ sheet_ok h ok hpw hph pages.length hk w' (SlM.later HI.out hb) fun w'' hb2 => HC.out w'' (hb.trans (hb2.mono hb.size))
  have HMk : Hid (∀ w', Below w.heap.size w w' → Calls Try.prog 13 #[layV L v] w' (MarksOk L.marksL w')) := fun w' hb => marks_ok h ok hpw hph w' (SlM.later HI.out hb) fun w'' hb2 => HC.out w'' (hb.trans (hb2.mono hb.size))
  have hwh1 := h.w1
  have hwh2 := h.w2
  have hwh3 := h.h1
  have hwh4 := h.h2
  have hlen := psOf_length h
  have hcr := ok.cr
  have hps := psOf_pages h
  have hMi : Hid (∀ i, i < L.marksL.length → L.MkIn (mkN L.marksL i)) := fun i hi => Lay.marks_in ok.margin0 h.mg1 hlw1.1 hlw1.2 ok.c1 ok.r1 (mkN_mem _ hi)
  have hPl : Hid (∀ i, i < pl.length → 0 ≤ (plN pl i).x ∧ (plN pl i).x ≤ 1024 ∧ 0 ≤ (plN pl i).y ∧ (plN pl i).y ≤ 1024 ∧ 0 ≤ (plN pl i).turn ∧ (plN pl i).turn < 4 ∧ 1 ≤ (plN pl i).page ∧ (plN pl i).page ≤ pages.length) := fun i hi => by
    have hm := List.mem_of_getElem? (plN_get pl hi)
    obtain ⟨p, hp⟩ : ∃ p, plN pl i = p := ⟨_, rfl⟩
    rw [hp] at hm ⊢
    rw [hpl] at hm
    clear hp
    have key : ∀ g : Pg → Bool, (p ∈ (List.range pages.length).flatMap fun i => if g ((psOf L l).getD i ⟨false, 0, 0, 0⟩) then [L.plc i ((psOf L l).getD i ⟨false, 0, 0, 0⟩)] else []) → 0 ≤ p.x ∧ p.x ≤ 1024 ∧ 0 ≤ p.y ∧ p.y ≤ 1024 ∧ 0 ≤ p.turn ∧ p.turn < 4 ∧ 1 ≤ p.page ∧ p.page ≤ pages.length := by
      intro g hp
      obtain ⟨i, hi, hx⟩ := List.mem_flatMap.1 hp
      have hik : i < pages.length := List.mem_range.1 hi
      have hm : (psOf L l).getD i ⟨false, 0, 0, 0⟩ ∈ psOf L l := by rw [List.getD_eq_getElem?_getD, List.getElem?_eq_getElem (by omega)]; exact List.getElem_mem _
      obtain ⟨d1, d2, d3, d4⟩ := hps.inn _ hm
      split at hx
      · obtain rfl : p = L.plc i ((psOf L l).getD i ⟨false, 0, 0, 0⟩) := by simpa using hx
        obtain ⟨e1, e2, e3, e4⟩ := plc_in ok (i := i) (by omega) d1 d2 d3 d4
        have b1 : 1 ≤ L.bw (L.plc i ((psOf L l).getD i ⟨false, 0, 0, 0⟩)).turn ∧ 1 ≤ L.bh (L.plc i ((psOf L l).getD i ⟨false, 0, 0, 0⟩)).turn := by unfold Lay.bw Lay.bh; split <;> omega
        have ht : 0 ≤ (L.plc i ((psOf L l).getD i ⟨false, 0, 0, 0⟩)).turn ∧ (L.plc i ((psOf L l).getD i ⟨false, 0, 0, 0⟩)).turn < 4 ∧ (L.plc i ((psOf L l).getD i ⟨false, 0, 0, 0⟩)).page = (i : Int) + 1 := by
          unfold Lay.plc; split
          · dsimp only; omega
          · split
            · dsimp only; omega
            · dsimp only; omega
        omega
      · cases hx
    cases back
    · rw [if_neg (by simp)] at hm; exact key L.inF hm
    · rw [if_pos rfl] at hm; exact key L.inB hm
  have hBw : Hid (∀ t, L.bw t = (if t % 2 = 1 then L.H else L.W) ∧ L.bh t = (if t % 2 = 1 then L.W else L.H)) := fun _ => ⟨rfl, rfl⟩
  have hPs : Hid (∀ img p, L.pg1 PW PH pages img p = pasL PW PH img p.x p.y (L.bw p.turn).toNat (L.bh p.turn).toNat (trnL L.W.toNat L.H.toNat (pcN pages (p.page - 1).toNat) p.turn.toNat)) := fun _ _ => rfl
  have hPn : Hid ((∀ img, L.pgs PW PH pages img [] = img) ∧ ∀ img l p, L.pgs PW PH pages img (l ++ [p]) = L.pg1 PW PH pages (L.pgs PW PH pages img l) p) := ⟨fun _ => rfl, fun img l p => pgs_snoc L _ _ pages img l p⟩
  have hPgl : Hid (∀ img l, img.length = PW * PH → (L.pgs PW PH pages img l).length = PW * PH) := fun img l hl => pgs_length L _ _ pages img hl l
  have HE : Hid (∀ e w', PlateOk PW PH (L.pgs PW PH pages (imgM PW PH L.marksL) pl) w e w' = ∃ v', e = .returned (.tuple #[.agg #[.int .i64 PW, .int .i64 PH, v'], .int .i64 0]) ∧ w'.ownsRow w.heap.size 5 1 v' (L.pgs PW PH pages (imgM PW PH L.marksL) pl).length (byts (L.pgs PW PH pages (imgM PW PH L.marksL) pl)) ∧ Below w.heap.size w w') := fun _ _ => rfl
  generalize PlateOk PW PH (L.pgs PW PH pages (imgM PW PH L.marksL) pl) w = Post at *
  obtain ⟨Av, cv, ev⟩ := SlM.form hI
  obtain ⟨Ap, cp, ep⟩ := SlM.form hpg.sl
  have hcrl : (2 : Int) * (L.C : Int) * (L.R : Int) = ((psOf L l).length : Int) := by rw [hlen, Int.mul_assoc]; simp
  have c8 := h.good.c8
  have r8 := h.good.r8
  have hnp9 : (psOf L l).length ≤ 64 := by rw [hlen]; omega
  clear hI HChk h ok hlen hps hlw1 hpg
  generalize L.frontTo (psOf L l) pages.length = F at *
  generalize L.backTo (psOf L l) pages.length = Bk at *
  generalize (psOf L l).length = np at *
  generalize L.marksL = ms at *
  generalize L.pgs = pgs at *
  generalize L.pg1 = pg1 at *
  generalize L.bw = BW at *
  generalize L.bh = BH at *
  have hMi2 : Hid (∀ i, i < ms.length → 0 ≤ (mkN ms i).x ∧ 0 ≤ (mkN ms i).y ∧ (mkN ms i).x + (mkN ms i).w ≤ PW ∧ (mkN ms i).y + (mkN ms i).h ≤ PH ∧ 1 ≤ (mkN ms i).w ∧ (mkN ms i).w ≤ 32 ∧ 1 ≤ (mkN ms i).h ∧ (mkN ms i).h ≤ 32) := fun i hi => by
    have := hMi.out i hi
    rw [← hPW, ← hPH]
    exact ⟨this.x0, this.y0, this.x1, this.y1, this.w1, this.w2, this.h1, this.h2⟩
  clear hMi
  have hpw9 := hpw
  have hph9 := hph
  clear hpw hph hP0 ePW ePH hpw9 hph9 hPW hPH c1 r1 hcr
  unfold layV at *
  obtain ⟨C, R, W', H', hd, fo, sp, mg, cr, sty, od⟩ := L
  dsimp only at *
  obtain ⟨W, rfl⟩ := Int.eq_ofNat_of_zero_le (show 0 ≤ W' by omega)
  obtain ⟨H, rfl⟩ := Int.eq_ofNat_of_zero_le (show 0 ≤ H' by omega)
  subst ev ep
  generalize l.length = n at *
  generalize hnpg : pages.length = k at *
  have HNk := Lib.hid hnpg
  clear hnpg
  obtain ⟨wh, hwh⟩ : ∃ wh, W * H = wh := ⟨_, rfl⟩
  have hmul : (W : Int) * (H : Int) = (wh : Int) := by rw [← hwh]; simp
  have hwh9 : wh ≤ 65536 := by rw [← hwh]; exact Nat.mul_le_mul (show W ≤ 256 by omega) (show H ≤ 256 by omega)
  have HWH := Lib.hid hwh
  clear hwh
  have g0 : P0M #[.int .i64 (C : Int), .int .i64 (R : Int), .slice Av n cv, .int .i64 (W : Int), .int .i64 (H : Int), .int .i64 hd, .int .i64 fo, .int .i64 sp, .int .i64 mg, .int .i64 cr, .int .i64 sty] w ((w.alloc (Obj.cells #[.int .i64 (C : Int), .int .i64 (R : Int), .slice Av n cv, .int .i64 (W : Int), .int .i64 (H : Int), .int .i64 hd, .int .i64 fo, .int .i64 sp, .int .i64 mg, .int .i64 cr, .int .i64 sty] 26)).alloc (Obj.cells #[.int .i64 0, .int .i64 0, .slice none 0 0] 52)) := by
    have x := Blk.new (w.alloc (Obj.cells #[.int .i64 (C : Int), .int .i64 (R : Int), .slice Av n cv, .int .i64 (W : Int), .int .i64 (H : Int), .int .i64 hd, .int .i64 fo, .int .i64 sp, .int .i64 mg, .int .i64 cr, .int .i64 sty] 26)) 52 #[.int .i64 0, .int .i64 0, .slice none 0 0]
    rw [World.size_alloc] at x
    exact ⟨(Blk.new w _ _).alloc _, x, ((Below.refl _ _).alloc (Nat.le_refl _) _).alloc (by simp) _⟩
  have G0 := Lib.hid g0
  clear g0
  go_enter Try.func17, Try.ntmps17
  go_wp2_with fail
  refine (HC.out _ G0.out.be).mono ?_; rintro e wa ⟨rfl, hba⟩
  have G1 := Lib.hid (G0.out.later hba)
  clear hba G0
  have xa0 := G1.out.bl.cell 0
  have xa1 := G1.out.bl.cell 1
  have xa2 := G1.out.bl.cell 2
  have xa3 := G1.out.bl.cell 3
  have xa4 := G1.out.bl.cell 4
  have xa5 := G1.out.bl.cell 5
  have xa6 := G1.out.bl.cell 6
  have xa7 := G1.out.bl.cell 7
  have xa8 := G1.out.bl.cell 8
  have xa9 := G1.out.bl.cell 9
  have xa10 := G1.out.bl.cell 10
  simp only [List.getElem?_toArray, List.getElem?_cons_zero, List.getElem?_cons_succ] at xa0 xa1 xa2 xa3 xa4 xa5 xa6 xa7 xa8 xa9 xa10
  have hkn : (k : Int) ≤ np := by omega
  have hcap := (SlM.caps HPg.out.sl).2
  unfold maxLen at hcap
  go_wp2
  clear xa0 xa1 xa2 xa3 xa4 xa5 xa6 xa7 xa8 xa9 xa10
  go_loopw [48] (fun v48 wr => ∃ i : Nat, v48 = .int .i64 (i : Int) ∧ i ≤ k ∧ P0M #[.int .i64 (C : Int), .int .i64 (R : Int), .slice Av n cv, .int .i64 (W : Int), .int .i64 (H : Int), .int .i64 hd, .int .i64 fo, .int .i64 sp, .int .i64 mg, .int .i64 cr, .int .i64 sty] w wr) (fun v48 _ => k - (intOf v48).toNat)
  case atStart => exact ⟨0, rfl, by omega, G1.out⟩
  case round =>
    obtain ⟨i, rfl, hi, hm⟩ := hrel
    by_cases hik : i < k
    · obtain ⟨pb, po, rfl, _, hpb, hpc⟩ := SlM.addr (HPg.out.sl.later hm.be) (by rw [HNk.out]; omega)
      obtain ⟨y0, y1, y2⟩ := plateCells_at W H vals i (by rw [HPg.out.len, HNk.out]; exact hik)
      have d0 := hpc _ _ y0
      have d1 := hpc _ _ y1
      have d2 := hpc _ _ y2
      rw [← Nat.add_assoc] at d1 d2
      obtain ⟨Aq, cq, ev⟩ := (HPg.out.px i (by rw [HNk.out]; exact hik)).form
      rw [byts_length, HPg.out.sz i (by rw [HNk.out]; exact hik), Int.toNat_natCast, Int.toNat_natCast, HWH.out] at ev
      rw [ev] at d2
      have x3 := hm.bl.cell 3
      have x4 := hm.bl.cell 4
      simp only [List.getElem?_toArray, List.getElem?_cons_zero, List.getElem?_cons_succ] at x3 x4
      have lz := hm.bl.lt
      have HM := Lib.hid hm
      clear hm hpc y0 y1 y2 ev
      go_wp2
      go_roundw
      case rel => exact ⟨i + 1, by go_num, by omega, HM.out.later ((Below.refl _ _).alloc (Nat.le_refl _) _)⟩
      case measure => simp [intOf]; omega
    · have HM := Lib.hid hm
      have xa0 := hm.bl.cell 0
      have xa1 := hm.bl.cell 1
      have xa2 := hm.bl.cell 2
      have xa3 := hm.bl.cell 3
      have xa4 := hm.bl.cell 4
      have xa5 := hm.bl.cell 5
      have xa6 := hm.bl.cell 6
      have xa7 := hm.bl.cell 7
      have xa8 := hm.bl.cell 8
      have xa9 := hm.bl.cell 9
      have xa10 := hm.bl.cell 10
      simp only [List.getElem?_toArray, List.getElem?_cons_zero, List.getElem?_cons_succ] at xa0 xa1 xa2 xa3 xa4 xa5 xa6 xa7 xa8 xa9 xa10
      clear hm
      obtain rfl : i = k := by omega
      go_wp2_with fail
      refine (HSh.out _ HM.out.be).mono ?_; rintro e wb ⟨vf, vb, rfl, hf, hb, hbe⟩
      have HM1 := Lib.hid (HM.out.later hbe)
      have hFv : PlV wb (fun g => g < wb.heap.size) vf F := hf.mono fun b hb _ => hb
      have hBv : PlV wb (fun g => g < wb.heap.size) vb Bk := hb.mono fun b hb _ => hb
      have HVs : Hid (PlV wb (fun g => g < wb.heap.size) (if back then vb else vf) pl) := by
        rw [hpl]; cases back
        · exact hFv
        · exact hBv
      obtain ⟨Af, cf, ef⟩ := hFv.form
      obtain ⟨Ab, cb, eb⟩ := hBv.form
      generalize F.length = nf at *
      generalize Bk.length = nb at *
      subst ef eb
      clear hf hb hbe hFv hBv xa0 xa1 xa2 xa3 xa4 xa5 xa6 xa7 xa8 xa9 xa10 HM hpl hkn
      have HB2 := Lib.hid (Blk.new wb 30 #[.int .i64 (PW : Int), .int .i64 (PH : Int), .slice Af nf cf, .slice Ab nb cb])
      have HM2 := Lib.hid (HM1.out.later ((Below.refl _ _).alloc (Nat.le_refl _) (Obj.cells #[.int .i64 (PW : Int), .int .i64 (PH : Int), .slice Af nf cf, .slice Ab nb cb] 30)))
      obtain ⟨wq, hwq⟩ : ∃ wq, wq = wb.alloc (Obj.cells #[.int .i64 (PW : Int), .int .i64 (PH : Int), .slice Af nf cf, .slice Ab nb cb] 30) := ⟨_, rfl⟩
      rw [← hwq] at HB2 HM2
      have HQ := Lib.hid hwq
      clear hwq
      go_upto_if 86 with (fail)
      go_cut [15] (fun v15 wx => v15 = (if back then .slice Ab nb cb else .slice Af nf cf) ∧ wx = wq)
      case first =>
        cases back
        · go_wp2
          go_meet
          exact ⟨rfl, HQ.out.symm⟩
        · go_wp2
          go_meet
          exact ⟨rfl, HQ.out.symm⟩
      case rest =>
      obtain ⟨rfl, rfl⟩ := hcut
      obtain ⟨Al, cl, el⟩ := HVs.out.form
      have HBs : Hid (Blk wc wb.heap.size 30 #[.int .i64 (PW : Int), .int .i64 (PH : Int), .slice Af nf cf, .slice Ab nb cb]) := HB2.out
      have HV2 : Hid (PlV wc (fun g => g < wb.heap.size) (.slice Al pl.length cl) pl) := by rw [← el, HQ.out]; exact SlM.alloc HVs.out _
      have hszq : wb.heap.size < wc.heap.size := by rw [HQ.out]; simp
      have HM3 : Hid (P0M #[.int .i64 (C : Int), .int .i64 (R : Int), .slice Av n cv, .int .i64 (W : Int), .int .i64 (H : Int), .int .i64 hd, .int .i64 fo, .int .i64 sp, .int .i64 mg, .int .i64 cr, .int .i64 sty] w wc) := HM2.out
      generalize (if back then Value.slice Ab nb cb else Value.slice Af nf cf) = vl at *
      subst el
      have x0 := HBs.out.cell 0
      have x1 := HBs.out.cell 1
      simp only [List.getElem?_toArray, List.getElem?_cons_zero, List.getElem?_cons_succ] at x0 x1
      clear HVs HQ HM1 HM2 HB2
      generalize hnl : pl.length = nl at *
      have HNl := Lib.hid hnl
      clear hnl
      go_wp2_with fail
      refine (make_ok PW PH 0 wc hP1.1 hP1.2.1 hP1.2.2.1 hP1.2.2.2).mono ?_; rintro e w1 ⟨vg, rfl, ho1, hb1⟩
      obtain ⟨Ag, cg, eg⟩ := own_form ho1
      subst eg
      generalize hpn : PW * PH = pn at *
      have hpn9 : pn ≤ 1048576 := by rw [← hpn]; exact Nat.mul_le_mul hP1.2.1 hP1.2.2.2
      have HPn := Lib.hid hpn
      have g2 : PlM #[.int .i64 (C : Int), .int .i64 (R : Int), .slice Av n cv, .int .i64 (W : Int), .int .i64 (H : Int), .int .i64 hd, .int .i64 fo, .int .i64 sp, .int .i64 mg, .int .i64 cr, .int .i64 sty] PW PH w (w1.alloc (Obj.cells #[.int .i64 (PW : Int), .int .i64 (PH : Int), .slice Ag pn cg] 93)) w1.heap.size (.slice Ag pn cg) (imgM PW PH []) := by
        have hm := HM3.out.later hb1
        have hl := hm.br.lt
        refine ⟨hm.bl.alloc _, hm.br.alloc _, Blk.new w1 _ _, ?_, hm.be.alloc hm.be.size _, hl⟩
        rw [imgM_nil, hpn]
        refine (Sl.of_own (own_below ho1 ((Below.refl _ _).alloc (Nat.le_refl _) _))).mono fun b _ hb => ?_
        have := (own_lt ho1 b hb.1.symm).2
        omega
      have hV3 : PlV (w1.alloc (Obj.cells #[.int .i64 (PW : Int), .int .i64 (PH : Int), .slice Ag pn cg] 93)) (fun g => g ≠ w1.heap.size) (.slice Al nl cl) pl := by
        have hs := hb1.size
        exact SlM.alloc (SlM.mono (SlM.later HV2.out hb1) fun b _ hb => by omega) _
      have G2 := Lib.hid g2
      have HV3 := Lib.hid hV3
      have hG : wc.heap.size ≤ w1.heap.size := hb1.size
      clear g2 hV3 ho1 hb1 HV2 HM3 hpn x0 x1 HBs
      have xa0 := G2.out.bl.cell 0
      have xa1 := G2.out.bl.cell 1
      have xa2 := G2.out.bl.cell 2
      have xa3 := G2.out.bl.cell 3
      have xa4 := G2.out.bl.cell 4
      have xa5 := G2.out.bl.cell 5
      have xa6 := G2.out.bl.cell 6
      have xa7 := G2.out.bl.cell 7
      have xa8 := G2.out.bl.cell 8
      have xa9 := G2.out.bl.cell 9
      have xa10 := G2.out.bl.cell 10
      simp only [List.getElem?_toArray, List.getElem?_cons_zero, List.getElem?_cons_succ] at xa0 xa1 xa2 xa3 xa4 xa5 xa6 xa7 xa8 xa9 xa10
      go_wp2_with fail
      refine (HMk.out _ G2.out.be).mono ?_; rintro e w2 ⟨vm, rfl, hmk, hb2⟩
      obtain ⟨Am, cm, em⟩ := hmk.form
      subst em
      have G3 := Lib.hid (G2.out.later hb2)
      have HV4 : Hid (PlV w2 (fun g => g ≠ w1.heap.size) (.slice Al nl cl) pl) := SlM.later HV3.out hb2
      have HK4 : Hid (MkV w2 (fun g => g ≠ w1.heap.size) (.slice Am ms.length cm) ms) := hmk.mono fun b _ hb => by simp at hb; omega
      generalize hnm : ms.length = nm at *
      have HNm := Lib.hid hnm
      generalize w1.heap.size = G at *
      clear hnm hmk hb2 HV3 xa0 xa1 xa2 xa3 xa4 xa5 xa6 xa7 xa8 xa9 xa10 G2
      have hcm : nm ≤ cm ∧ cm ≤ 9223372036854775807 := by
        have := (SlM.caps HK4.out).2
        unfold maxLen at this
        rw [HNm.out] at this; omega
      go_wp2
      go_loopw [105] (fun v105 wr => ∃ (i : Nat) (vo : Value), v105 = .int .i64 (i : Int) ∧ i ≤ nm ∧ PlM #[.int .i64 (C : Int), .int .i64 (R : Int), .slice Av n cv, .int .i64 (W : Int), .int .i64 (H : Int), .int .i64 hd, .int .i64 fo, .int .i64 sp, .int .i64 mg, .int .i64 cr, .int .i64 sty] PW PH w wr G vo (imgM PW PH (ms.take i)) ∧ PlV wr (fun g => g ≠ G) (.slice Al nl cl) pl ∧ MkV wr (fun g => g ≠ G) (.slice Am nm cm) ms) (fun v105 _ => nm - (intOf v105).toNat)
      case atStart => exact ⟨0, _, rfl, by omega, by rw [List.take_zero]; exact G3.out, HV4.out, HK4.out⟩
      case round =>
        obtain ⟨i2, vo, rfl, hi2, hm, hv, hk4⟩ := hrel
        by_cases hin : i2 < nm
        · obtain ⟨mb, mo, capm, em, _, hmlt, _, _, hmc⟩ := hk4.cells (by rw [HNm.out]; omega)
          injection em with em1 em2 em3
          subst em1
          obtain ⟨d0, d1, d2, d3⟩ := hmc i2 (by rw [HNm.out]; exact hin)
          have hr := hMi2.out i2 hin
          have hts := take_snoc' ms (mkN_get ms (by rw [HNm.out]; exact hin))
          obtain ⟨m, hm0⟩ : ∃ m, mkN ms i2 = m := ⟨_, rfl⟩
          rw [hm0] at d0 d1 d2 d3 hr hts
          obtain ⟨mx, my, mw, mh⟩ := m
          dsimp only at d0 d1 d2 d3 hr
          obtain ⟨r1, r2, r3, r4, r5, r6, r7, r8⟩ := hr
          obtain ⟨ww, rfl⟩ := Int.eq_ofNat_of_zero_le (show 0 ≤ mw by omega)
          obtain ⟨hh, rfl⟩ := Int.eq_ofNat_of_zero_le (show 0 ≤ mh by omega)
          have hink := pas_ink (W := PW) (H := PH) (ms.take i2) (m := ⟨mx, my, (ww : Int), (hh : Int)⟩) (by dsimp only; omega)
          dsimp only at hink
          rw [Int.toNat_natCast, Int.toNat_natCast, ← hts] at hink
          obtain ⟨Ao, co, eo⟩ := hm.sl.form
          have hil : (imgM PW PH (ms.take i2)).length = PW * PH := by unfold imgM; exact imgP_length _ _
          rw [byts_length, hil, HPn.out] at eo
          subst eo
          have hb21 := (Below.refl wr.heap.size wr).alloc (Nat.le_refl _) (Obj.cells #[.int .i64 mx, .int .i64 my, .int .i64 (ww : Int), .int .i64 (hh : Int)] 48)
          have B21 := Lib.hid (Blk.new wr 48 #[.int .i64 mx, .int .i64 my, .int .i64 (ww : Int), .int .i64 (hh : Int)])
          have M21 := Lib.hid (hm.later hb21)
          have V21 : Hid (PlV _ _ _ _) := Lib.hid (SlM.later hv hb21)
          have K21 : Hid (MkV _ _ _ _) := Lib.hid (SlM.later hk4 hb21)
          have HInk := Lib.hid hink
          have HIl := Lib.hid hil
          have hGl := hm.bg.lt
          clear hm hv hk4 hb21 hts hink hil hmc hm0 em2 em3
          go_wp2_with fail
          refine (make_ok ww hh 255 _ (by omega) (by omega) (by omega) (by omega)).mono ?_; rintro e w5 ⟨vi, rfl, ho5, hb5⟩
          obtain ⟨Ai, ci, ei⟩ := own_form ho5
          subst ei
          generalize hq : ww * hh = q at *
          have hb5' := hb5.trans ((Below.refl w5.heap.size w5).mono hb5.size |>.alloc (by have := hb5.size; exact this) (Obj.cells #[.int .i64 (ww : Int), .int .i64 (hh : Int), .slice Ai q ci] 93))
          have B22 := Lib.hid ((B21.out.below hb5 B21.out.lt).alloc (Obj.cells #[.int .i64 (ww : Int), .int .i64 (hh : Int), .slice Ai q ci] 93))
          have M22 := Lib.hid (M21.out.later hb5')
          have V22 : Hid (PlV _ _ _ _) := Lib.hid (SlM.later V21.out hb5')
          have K22 : Hid (MkV _ _ _ _) := Lib.hid (SlM.later K21.out hb5')
          have S22 := Lib.hid (Sl.of_own (own_below ho5 ((Below.refl w5.heap.size w5).alloc (Nat.le_refl _) (Obj.cells #[.int .i64 (ww : Int), .int .i64 (hh : Int), .slice Ai q ci] 93))))
          have HQq := Lib.hid hq
          have hq9 : q ≤ 1024 := by rw [← hq]; exact Nat.mul_le_mul (show ww ≤ 32 by omega) (show hh ≤ 32 by omega)
          have hw5 : wr.heap.size < w5.heap.size := by have := hb5.size; simp at this; omega
          clear ho5 hb5 hb5' hq
          have e0 := M22.out.bg.cell 0
          have e1 := M22.out.bg.cell 1
          have e2 := M22.out.bg.cell 2
          have e3 := B22.out.cell 0
          have e4 := B22.out.cell 1
          have e5 := B22.out.cell 2
          have e6 := B22.out.cell 3
          simp only [List.getElem?_toArray, List.getElem?_cons_zero, List.getElem?_cons_succ] at e0 e1 e2 e3 e4 e5 e6
          go_wp2_with fail
          refine (paste_ok PW PH _ (imgM PW PH (ms.take i2)) mx my ww hh _ (List.replicate q 255) _ _ _ hP1.1 hP1.2.1 hP1.2.2.1 hP1.2.2.2 (by omega) (by omega) (by omega) (by omega) (by omega) (by omega) (by omega) (by omega) HIl.out (by rw [List.length_replicate, HQq.out]) M22.out.sl S22.out).mono ?_; rintro e w6 ⟨v6, rfl, ho6, hb6⟩
          rw [HInk.out, show (imgM PW PH (ms.take (i2 + 1))).length = pn from by unfold imgM; rw [imgP_length]; exact HPn.out] at ho6
          obtain ⟨A6, c6, e6'⟩ := own_form ho6
          subst e6'
          have hm6 := M22.out.later hb6
          have hs6 : Sl w6 (fun b => b ≠ G) (.slice A6 pn c6) (byts (imgM PW PH (ms.take (i2 + 1)))) := (Sl.of_own ho6).mono fun b _ hb => by
            have := M22.out.bg.lt
            omega
          have M7 := Lib.hid (hm6.stored hs6)
          have V7 : Hid (PlV _ _ _ _) := Lib.hid (SlM.far (p := ⟨G, 2, none⟩) (SlM.far (p := ⟨G, 1, none⟩) (SlM.far (p := ⟨G, 0, none⟩) (SlM.later V22.out hb6) (by simp) (.int .i64 (PW : Int))) (by simp) (.int .i64 (PH : Int))) (by simp) (.slice A6 pn c6))
          have K7 : Hid (MkV _ _ _ _) := Lib.hid (SlM.far (p := ⟨G, 2, none⟩) (SlM.far (p := ⟨G, 1, none⟩) (SlM.far (p := ⟨G, 0, none⟩) (SlM.later K22.out hb6) (by simp) (.int .i64 (PW : Int))) (by simp) (.int .i64 (PH : Int))) (by simp) (.slice A6 pn c6))
          have f0 := hm6.bg.cell 0
          have f1 := hm6.bg.cell 1
          have f2 := hm6.bg.cell 2
          simp only [List.getElem?_toArray, List.getElem?_cons_zero, List.getElem?_cons_succ] at f0 f1 f2
          have f3 := hm6.bg.frozen 0
          have f4 := hm6.bg.frozen 1
          have f5 := hm6.bg.frozen 2
          have f6 := hm6.bg.lt
          clear hm6 hs6 ho6 hb6 e0 e1 e2 e3 e4 e5 e6
          go_wp2
          go_roundw
          case rel => exact ⟨i2 + 1, .slice A6 pn c6, by go_num, by omega, M7.out, V7.out, K7.out⟩
          case measure => simp [intOf]; omega
        · obtain rfl : i2 = nm := by omega
          have himg : imgM PW PH (ms.take i2) = imgM PW PH ms := by rw [← HNm.out, List.take_length]
          rw [himg] at hm
          have HMm := Lib.hid hm
          have HVv : Hid (PlV _ _ _ _) := Lib.hid hv
          clear hm hv hk4 himg
          have hil0 : (imgM PW PH ms).length = PW * PH := by unfold imgM; exact imgP_length _ _
          have HIl0 := Lib.hid hil0
          clear hil0
          have hcl : nl ≤ cl ∧ cl ≤ 9223372036854775807 := by
            have := (SlM.caps HVv.out).2
            unfold maxLen at this
            rw [HNl.out] at this; omega
          go_wp2
          go_loopw [130] (fun v130 wr3 => ∃ (i : Nat) (vo : Value), v130 = .int .i64 (i : Int) ∧ i ≤ nl ∧ PlM #[.int .i64 (C : Int), .int .i64 (R : Int), .slice Av n cv, .int .i64 (W : Int), .int .i64 (H : Int), .int .i64 hd, .int .i64 fo, .int .i64 sp, .int .i64 mg, .int .i64 cr, .int .i64 sty] PW PH w wr3 G vo (pgs PW PH pages (imgM PW PH ms) (pl.take i)) ∧ PlV wr3 (fun g => g ≠ G) (.slice Al nl cl) pl) (fun v130 _ => nl - (intOf v130).toNat)
          case atStart => exact ⟨0, _, rfl, by omega, by rw [List.take_zero, hPn.out.1]; exact HMm.out, HVv.out⟩
          case round =>
            obtain ⟨i3, vo3, rfl, hi3, hm, hv⟩ := hrel
            by_cases hin3 : i3 < nl
            · obtain ⟨lb, lo, capl, em, _, hmlt, _, _, hmc⟩ := hv.cells (by rw [HNl.out]; omega)
              injection em with em1 em2 em3
              subst em1
              obtain ⟨d0, d1, d2, d3⟩ := hmc i3 (by rw [HNl.out]; exact hin3)
              have hr := hPl.out i3 hin3
              have hts := take_snoc' pl (plN_get pl (by rw [HNl.out]; exact hin3))
              obtain ⟨m, hm0⟩ : ∃ m, plN pl i3 = m := ⟨_, rfl⟩
              rw [hm0] at d0 d1 d2 d3 hr hts
              obtain ⟨pg, px, py, pt⟩ := m
              dsimp only at d0 d1 d2 d3 hr
              obtain ⟨r1, r2, r3, r4, r5, r6, r7, r8⟩ := hr
              obtain ⟨tn, rfl⟩ := Int.eq_ofNat_of_zero_le r5
              obtain ⟨j, rfl⟩ : ∃ j : Nat, pg = (j : Int) + 1 := ⟨(pg - 1).toNat, by omega⟩
              have hjk : j < i := by omega
              have hnext := hPn.out.2 (imgM PW PH ms) (pl.take i3) ⟨(j : Int) + 1, px, py, (tn : Int)⟩
              rw [← hts, hPs.out] at hnext
              dsimp only at hnext
              rw [show ((j : Int) + 1 - 1).toNat = j from by omega, Int.toNat_natCast, Int.toNat_natCast, Int.toNat_natCast, (hBw.out tn).1, (hBw.out tn).2] at hnext
              obtain ⟨pb, po, rfl, _, hpb, hpc⟩ := SlM.addr HPg.out.sl (by rw [HNk.out]; omega)
              obtain ⟨y0, y1, y2⟩ := plateCells_at W H vals j (by rw [HPg.out.len, HNk.out]; exact hjk)
              have q0 := (hm.be.cell (p := ⟨pb, po + j * 3, none⟩) hpb).trans (hpc _ _ y0)
              have p1 := hpc _ _ y1
              have p2 := hpc _ _ y2
              rw [← Nat.add_assoc] at p1 p2
              have q1 := (hm.be.cell (p := ⟨pb, po + j * 3 + 1, none⟩) hpb).trans p1
              have q2 := (hm.be.cell (p := ⟨pb, po + j * 3 + 2, none⟩) hpb).trans p2
              clear p1 p2
              have hpx := HPg.out.px j (by rw [HNk.out]; exact hjk)
              have hpl9 := HPg.out.sz j (by rw [HNk.out]; exact hjk)
              rw [Int.toNat_natCast, Int.toNat_natCast] at hpl9
              obtain ⟨Aq, cq, ev⟩ := hpx.form
              rw [byts_length, hpl9, HWH.out] at ev
              rw [ev] at q2 hpx
              obtain ⟨Ao, co, eo⟩ := hm.sl.form
              have hil : (pgs PW PH pages (imgM PW PH ms) (pl.take i3)).length = PW * PH := by
                have := hPgl.out (imgM PW PH ms) (pl.take i3) (by rw [HIl0.out]; exact HPn.out)
                rw [this]; exact HPn.out.symm
              rw [byts_length, hil, HPn.out] at eo
              subst eo
              generalize himg : pgs PW PH pages (imgM PW PH ms) (pl.take i3) = img at *
              generalize himg2 : pgs PW PH pages (imgM PW PH ms) (pl.take (i3 + 1)) = img2 at *
              generalize hpage : pcN pages j = page at *
              have HNx := Lib.hid hnext
              have HIm := Lib.hid (And.intro himg himg2)
              have HIl := Lib.hid hil
              have HPL := Lib.hid hpl9
              have HPx : Hid (∀ w', Below wr.heap.size wr w' → Sl w' okp (.slice Aq wh cq) (byts page)) := fun w' hb => hpx.later (hm.be.trans (hb.mono hm.be.size))
              have hbA := (Below.refl wr.heap.size wr).alloc (Nat.le_refl _) (Obj.cells #[.int .i64 ((j : Int) + 1), .int .i64 px, .int .i64 py, .int .i64 (tn : Int)] 36)
              have BA := Lib.hid (Blk.new wr 36 #[.int .i64 ((j : Int) + 1), .int .i64 px, .int .i64 py, .int .i64 (tn : Int)])
              have HBA := Lib.hid hbA
              have MA := Lib.hid (hm.later hbA)
              have VA : Hid (PlV _ _ _ _) := Lib.hid (SlM.later hv hbA)
              have hGl := hm.bg.lt
              have hpb3 : pb < wr.heap.size := Nat.lt_of_lt_of_le hpb hm.be.size
              clear hm hv hbA hts hnext hil hpl9 hpx hmc hm0 em2 em3 himg himg2 hpage hpc y0 y1 y2 ev
              go_wp2
              generalize hwA : wr.alloc (Obj.cells #[.int .i64 ((j : Int) + 1), .int .i64 px, .int .i64 py, .int .i64 (tn : Int)] 36) = wA at *
              generalize hB25 : wr.heap.size = B25 at *
              have hBA0 := HBA.out
              have hlA : B25 < wA.heap.size := BA.out.lt
              have hq0 := (hBA0.cell (p := ⟨pb, po + j * 3, none⟩) hpb3).trans q0
              have hq1 := (hBA0.cell (p := ⟨pb, po + j * 3 + 1, none⟩) hpb3).trans q1
              have hq2 := (hBA0.cell (p := ⟨pb, po + j * 3 + 2, none⟩) hpb3).trans q2
              have HPx2 : Hid (∀ w', Below wA.heap.size wA w' → Sl w' okp (.slice Aq wh cq) (byts page)) := fun w' hb => HPx.out w' (hBA0.trans (hb.mono (Nat.le_of_lt hlA)))
              have HPLn : Hid (page.length = W * H ∧ page.length = wh) := ⟨HPL.out, HPL.out.trans HWH.out⟩
              have hWH : Hid (1 ≤ W ∧ W ≤ 1024 ∧ 1 ≤ H ∧ H ≤ 1024) := ⟨by omega, by omega, by omega, by omega⟩
              have HOf : Hid (∀ w', Below wA.heap.size wA w' → Calls Try.prog 41 #[.agg #[.int .i64 (W : Int), .int .i64 (H : Int), .slice Aq wh cq]] w' fun e w'' => ∃ A' c', e = .returned (.agg #[.int .i64 (W : Int), .int .i64 (H : Int), .slice A' wh c']) ∧ w''.ownsRow w'.heap.size 5 1 (.slice A' wh c') wh (byts page) ∧ Below w'.heap.size w' w'') := fun w' hb => (of_any (W : Int) (H : Int) _ page okp w' (HPx2.out w' hb) (by rw [HPLn.out.2]; omega)).mono fun e w'' h => by
                obtain ⟨v', he, ho, hb⟩ := h
                rw [HPLn.out.2] at ho
                obtain ⟨A', c', rfl⟩ := own_form ho
                exact ⟨A', c', he, ho, hb⟩
              have HTu : Hid (∀ (w' : World) (A' : Option Addr) (c' : Nat) (ok' : Nat → Prop), Sl w' ok' (.slice A' wh c') (byts page) → Calls Try.prog 42 #[.agg #[.int .i64 (W : Int), .int .i64 (H : Int), .slice A' wh c'], .int .i64 (tn : Int)] w' fun e w'' => ∃ A'' c'', e = .returned (.tuple #[.agg #[.int .i64 ((if tn % 2 = 1 then H else W : Nat) : Int), .int .i64 ((if tn % 2 = 1 then W else H : Nat) : Int), .slice A'' wh c''], .int .i64 0]) ∧ w''.ownsRow w'.heap.size 5 1 (.slice A'' wh c'') wh (byts (trnL W H page tn)) ∧ Below w'.heap.size w' w'') := fun w' A' c' ok' hs => (turn_ok W H _ page tn (by omega) ok' w' hWH.out.1 hWH.out.2.1 hWH.out.2.2.1 hWH.out.2.2.2 HPLn.out.1 hs).mono fun e w'' h => by
                obtain ⟨v', he, ho, hb⟩ := h
                rw [HWH.out, Nat.mod_eq_of_lt (by omega)] at ho
                obtain ⟨A', c', rfl⟩ := own_form ho
                exact ⟨A', c', he, ho, hb⟩
              obtain ⟨tw, htw⟩ : ∃ tw, (if tn % 2 = 1 then H else W : Nat) = tw := ⟨_, rfl⟩
              obtain ⟨th, hth⟩ : ∃ th, (if tn % 2 = 1 then W else H : Nat) = th := ⟨_, rfl⟩
              rw [htw, hth] at HTu
              have HTw := Lib.hid (And.intro htw hth)
              have hu0 := BA.out.cell 0
              have hu3 := BA.out.cell 3
              simp only [List.getElem?_toArray, List.getElem?_cons_zero, List.getElem?_cons_succ] at hu0 hu3
              have HQ : Hid (∀ w' w'' : World, (w'.cell? ⟨B25, 0, none⟩ = some (.int .i64 ((j : Int) + 1)) ∧ w'.cell? ⟨B25, 3, none⟩ = some (.int .i64 (tn : Int)) ∧ w'.cell? ⟨pb, po + j * 3, none⟩ = some (.int .i64 (W : Int)) ∧ w'.cell? ⟨pb, po + j * 3 + 1, none⟩ = some (.int .i64 (H : Int)) ∧ w'.cell? ⟨pb, po + j * 3 + 2, none⟩ = some (.slice Aq wh cq) ∧ Below wA.heap.size wA w') → Below w'.heap.size w' w'' → (w''.cell? ⟨B25, 0, none⟩ = some (.int .i64 ((j : Int) + 1)) ∧ w''.cell? ⟨B25, 3, none⟩ = some (.int .i64 (tn : Int)) ∧ w''.cell? ⟨pb, po + j * 3, none⟩ = some (.int .i64 (W : Int)) ∧ w''.cell? ⟨pb, po + j * 3 + 1, none⟩ = some (.int .i64 (H : Int)) ∧ w''.cell? ⟨pb, po + j * 3 + 2, none⟩ = some (.slice Aq wh cq) ∧ Below wA.heap.size wA w'')) := by
                rintro w' w'' ⟨a0, a1, a2, a3, a4, a5⟩ hb
                have h1 : B25 < w'.heap.size := Nat.lt_of_lt_of_le hlA a5.size
                have h2 : pb < w'.heap.size := by omega
                exact ⟨(hb.cell (p := ⟨B25, 0, none⟩) h1).trans a0, (hb.cell (p := ⟨B25, 3, none⟩) h1).trans a1, (hb.cell (p := ⟨pb, po + j * 3, none⟩) h2).trans a2, (hb.cell (p := ⟨pb, po + j * 3 + 1, none⟩) h2).trans a3, (hb.cell (p := ⟨pb, po + j * 3 + 2, none⟩) h2).trans a4, a5.trans (hb.mono a5.size)⟩
              have HSt : Hid (∀ (w' : World) (kk : Nat) (z0 z1 z2 : Value), wA.heap.size ≤ kk → (w'.cell? ⟨B25, 0, none⟩ = some (.int .i64 ((j : Int) + 1)) ∧ w'.cell? ⟨B25, 3, none⟩ = some (.int .i64 (tn : Int)) ∧ w'.cell? ⟨pb, po + j * 3, none⟩ = some (.int .i64 (W : Int)) ∧ w'.cell? ⟨pb, po + j * 3 + 1, none⟩ = some (.int .i64 (H : Int)) ∧ w'.cell? ⟨pb, po + j * 3 + 2, none⟩ = some (.slice Aq wh cq) ∧ Below wA.heap.size wA w') → ((((w'.setCell ⟨kk, 0, none⟩ z0).setCell ⟨kk, 1, none⟩ z1).setCell ⟨kk, 2, none⟩ z2).cell? ⟨B25, 0, none⟩ = some (.int .i64 ((j : Int) + 1)) ∧ (((w'.setCell ⟨kk, 0, none⟩ z0).setCell ⟨kk, 1, none⟩ z1).setCell ⟨kk, 2, none⟩ z2).cell? ⟨B25, 3, none⟩ = some (.int .i64 (tn : Int)) ∧ (((w'.setCell ⟨kk, 0, none⟩ z0).setCell ⟨kk, 1, none⟩ z1).setCell ⟨kk, 2, none⟩ z2).cell? ⟨pb, po + j * 3, none⟩ = some (.int .i64 (W : Int)) ∧ (((w'.setCell ⟨kk, 0, none⟩ z0).setCell ⟨kk, 1, none⟩ z1).setCell ⟨kk, 2, none⟩ z2).cell? ⟨pb, po + j * 3 + 1, none⟩ = some (.int .i64 (H : Int)) ∧ (((w'.setCell ⟨kk, 0, none⟩ z0).setCell ⟨kk, 1, none⟩ z1).setCell ⟨kk, 2, none⟩ z2).cell? ⟨pb, po + j * 3 + 2, none⟩ = some (.slice Aq wh cq) ∧ Below wA.heap.size wA (((w'.setCell ⟨kk, 0, none⟩ z0).setCell ⟨kk, 1, none⟩ z1).setCell ⟨kk, 2, none⟩ z2))) := by
                rintro w' kk z0 z1 z2 hk9 ⟨a0, a1, a2, a3, a4, a5⟩
                have oth : ∀ (U : World) (g o p : Nat) (u : Value), g < wA.heap.size → (U.setCell ⟨kk, p, none⟩ u).cell? ⟨g, o, none⟩ = U.cell? ⟨g, o, none⟩ := fun U g o p u hg => World.cell?_setCell_other U _ _ u (fun e => by injection e with e; omega)
                have h2 : pb < wA.heap.size := by omega
                refine ⟨?_, ?_, ?_, ?_, ?_, ((a5.setCell (by show wA.heap.size ≤ kk; omega) _).setCell (by show wA.heap.size ≤ kk; omega) _).setCell (by show wA.heap.size ≤ kk; omega) _⟩
                · rw [oth _ _ _ _ _ hlA, oth _ _ _ _ _ hlA, oth _ _ _ _ _ hlA]; exact a0
                · rw [oth _ _ _ _ _ hlA, oth _ _ _ _ _ hlA, oth _ _ _ _ _ hlA]; exact a1
                · rw [oth _ _ _ _ _ h2, oth _ _ _ _ _ h2, oth _ _ _ _ _ h2]; exact a2
                · rw [oth _ _ _ _ _ h2, oth _ _ _ _ _ h2, oth _ _ _ _ _ h2]; exact a3
                · rw [oth _ _ _ _ _ h2, oth _ _ _ _ _ h2, oth _ _ _ _ _ h2]; exact a4
              have hS0 : (fun w' : World => w'.cell? ⟨B25, 0, none⟩ = some (.int .i64 ((j : Int) + 1)) ∧ w'.cell? ⟨B25, 3, none⟩ = some (.int .i64 (tn : Int)) ∧ w'.cell? ⟨pb, po + j * 3, none⟩ = some (.int .i64 (W : Int)) ∧ w'.cell? ⟨pb, po + j * 3 + 1, none⟩ = some (.int .i64 (H : Int)) ∧ w'.cell? ⟨pb, po + j * 3 + 2, none⟩ = some (.slice Aq wh cq) ∧ Below wA.heap.size wA w') wA := ⟨hu0, hu3, hq0, hq1, hq2, Below.refl _ wA⟩
              dsimp only at hS0
              have HZC := Lib.hid (Blk.new wA 93 #[.int .i64 0, .int .i64 0, .slice none 0 0]).drew
              have hjc : (j : Int) < i := by omega
              have hsub : IntKind.i64.wrap ((j : Int) + 1 - 1) = (j : Int) := by rw [IntWalk.i64_in _ (by omega)]; omega
              have hsub2 : IntKind.i64.wrap (j : Int) = (j : Int) := IntWalk.i64_in _ (by omega)
              have hj0 : (0 : Int) ≤ (j : Int) := by omega
              clear hu0 hu3 hq0 hq1 hq2 q0 q1 q2 htw hth hBA0
              go_cut [26] (fun v26 wx => ∃ (B26 : Nat) (A2 : Option Addr) (c2 : Nat), v26 = .pointer (some ⟨B26, 0, none⟩) ∧ Blk wx B26 93 #[.int .i64 (tw : Int), .int .i64 (th : Int), .slice A2 wh c2] ∧ Sl wx (fun _ => True) (.slice A2 wh c2) (byts (trnL W H page tn)) ∧ Below wA.heap.size wA wx)
              case first =>
                go_region_held3 (fun w' => w'.cell? ⟨B25, 0, none⟩ = some (.int .i64 ((j : Int) + 1)) ∧ w'.cell? ⟨B25, 3, none⟩ = some (.int .i64 (tn : Int)) ∧ w'.cell? ⟨pb, po + j * 3, none⟩ = some (.int .i64 (W : Int)) ∧ w'.cell? ⟨pb, po + j * 3 + 1, none⟩ = some (.int .i64 (H : Int)) ∧ w'.cell? ⟨pb, po + j * 3 + 2, none⟩ = some (.slice Aq wh cq) ∧ Below wA.heap.size wA w')
                  (first | exact hS0 | exact HQ.out _ _ hS0 ((Below.refl _ _).alloc (Nat.le_refl _) _) | exact HQ.out _ _ hS0 (Below.refl _ _).drew | exact HQ.out _ _ hS0 ((Below.refl _ _).alloc (Nat.le_refl _) _).drew | exact HQ.out _ _ hS0 ((Below.refl _ _).drew.alloc (Nat.le_refl _) _) | exact hP2 | exact hP1 | exact HQ.out _ _ hP2 ((Below.refl _ _).alloc (Nat.le_refl _) _) | exact HQ.out _ _ hP1 ((Below.refl _ _).alloc (Nat.le_refl _) _) | (refine HSt.out _ _ _ _ _ ?_ hP2; first | exact Nat.le_refl _ | exact hL1 | omega))
                  (first
                    | (go_at_call 41; refine (HOf.out _ (by first | exact (Below.refl _ _).drew | exact ((Below.refl _ _).alloc (Nat.le_refl _) _).drew)).mono ?_; rintro e w1 ⟨A1, c1, rfl, ho1, hb1⟩; have hP1 := HQ.out _ _ (by first | exact HQ.out _ _ hS0 (Below.refl _ _).drew | exact HQ.out _ _ hS0 ((Below.refl _ _).alloc (Nat.le_refl _) _).drew) hb1; have hL1 : wA.heap.size ≤ w1.heap.size := hP1.2.2.2.2.2.size)
                    | (go_at_call 42; refine (HTu.out _ A1 c1 _ (by first | exact Sl.of_own ho1 | exact (Sl.of_own ho1).alloc _)).mono ?_; rintro e w2 ⟨A2, c2, rfl, ho2, hb2⟩; have hP2 := HQ.out _ _ (by first | exact hP1 | exact HQ.out _ _ hP1 ((Below.refl _ _).alloc (Nat.le_refl _) _)) hb2; (first | (have bz := (Blk.new w1 93 #[.int .i64 0, .int .i64 0, .slice none 0 0]).below hb2 (Blk.new w1 93 #[.int .i64 0, .int .i64 0, .slice none 0 0]).lt; have z0 := bz.cell 0; have z1 := bz.cell 1; have z2 := bz.cell 2; simp only [List.getElem?_toArray, List.getElem?_cons_zero, List.getElem?_cons_succ] at z0 z1 z2; have y0 := bz.frozen 0; have y1 := bz.frozen 1; have y2 := bz.frozen 2; have lz := bz.lt; have HBz := Lib.hid bz; clear bz) | (have bz := (HZC.out.below hb1 HZC.out.lt).below hb2 (HZC.out.below hb1 HZC.out.lt).lt; have z0 := bz.cell 0; have z1 := bz.cell 1; have z2 := bz.cell 2; simp only [List.getElem?_toArray, List.getElem?_cons_zero, List.getElem?_cons_succ] at z0 z1 z2; have y0 := bz.frozen 0; have y1 := bz.frozen 1; have y2 := bz.frozen 2; have lz := bz.lt; have HBz := Lib.hid bz; clear bz) | skip)))
                all_goals
                  go_wp2
                  go_meet
                  first
                    | exact ⟨_, _, _, rfl, cut26a ho2 hP2.2.2.2.2.2⟩
                    | exact ⟨_, _, _, rfl, cut26 HBz.out ho2 (by simp) hL1 hP2.2.2.2.2.2⟩
                    | exact ⟨_, _, _, rfl, cut26 HBz.out ho2 (by have h := hb1.size; have h2 : (wA.alloc (Obj.cells #[.int .i64 0, .int .i64 0, .slice none 0 0] 93)).heap.size ≤ w1.heap.size := h; simp at h2; omega) (Nat.le_refl _) hP2.2.2.2.2.2⟩
              case rest =>
              obtain ⟨B26, A2, c2, rfl, hb26, hs26, hbe⟩ := hcut
              have M8 := Lib.hid (MA.out.later hbe)
              have V8 : Hid (PlV _ _ _ _) := Lib.hid (SlM.later VA.out hbe)
              have e0 := M8.out.bg.cell 0
              have e1 := M8.out.bg.cell 1
              have e2 := M8.out.bg.cell 2
              have e3 := (BA.out.below hbe BA.out.lt).cell 1
              have e4 := (BA.out.below hbe BA.out.lt).cell 2
              have e5 := hb26.cell 0
              have e6 := hb26.cell 1
              have e7 := hb26.cell 2
              simp only [List.getElem?_toArray, List.getElem?_cons_zero, List.getElem?_cons_succ] at e0 e1 e2 e3 e4 e5 e6 e7
              have HS26 := Lib.hid hs26
              clear hS0 hb26 hs26 hbe hsub hsub2
              have htb : 1 ≤ tw ∧ tw ≤ 1024 ∧ 1 ≤ th ∧ th ≤ 1024 := by
                obtain ⟨a, b⟩ := HTw.out
                have := hWH.out
                rw [← a, ← b]; split <;> omega
              have htl : (trnL W H page tn).length = tw * th := by
                obtain ⟨a, b⟩ := HTw.out
                rw [trnL_length HPLn.out.1, ← a, ← b]
                split
                · exact Nat.mul_comm _ _
                · rfl
              have hpe : pasL PW PH img px py tw th (trnL W H page tn) = img2 := by
                obtain ⟨a, b⟩ := HTw.out
                have q1 : (if (tn : Int) % 2 = 1 then (H : Int) else (W : Int)).toNat = tw := by
                  rw [← a]; by_cases h : tn % 2 = 1
                  · rw [if_pos h, if_pos (by omega)]; simp
                  · rw [if_neg h, if_neg (by omega)]; simp
                have q2 : (if (tn : Int) % 2 = 1 then (W : Int) else (H : Int)).toNat = th := by
                  rw [← b]; by_cases h : tn % 2 = 1
                  · rw [if_pos h, if_pos (by omega)]; simp
                  · rw [if_neg h, if_neg (by omega)]; simp
                rw [HNx.out, q1, q2]
              have hil2 : img2.length = pn := by
                rw [← HIm.out.2]; exact hPgl.out _ _ (by rw [HIl0.out]; exact HPn.out)
              have HPe := Lib.hid hpe
              have HIl2 := Lib.hid hil2
              have HTl := Lib.hid htl
              obtain ⟨t1, t2, t3, t4⟩ := htb
              clear hpe hil2 htl
              go_wp2_with fail
              refine (paste_ok PW PH _ img px py tw th _ (trnL W H page tn) _ _ _ hP1.1 hP1.2.1 hP1.2.2.1 hP1.2.2.2 t1 t2 t3 t4 (by omega) (by omega) (by omega) (by omega) HIl.out HTl.out M8.out.sl HS26.out).mono ?_; rintro e w6 ⟨v6, rfl, ho6, hb6⟩
              rw [HPe.out, HIl2.out] at ho6
              obtain ⟨A6, c6, e6'⟩ := own_form ho6
              subst e6'
              have hm6 := M8.out.later hb6
              have hs6 : Sl w6 (fun b => b ≠ G) (.slice A6 pn c6) (byts img2) := (Sl.of_own ho6).mono fun b _ hb => by
                have := M8.out.bg.lt
                omega
              have M7 := Lib.hid (hm6.stored hs6)
              have V7 : Hid (PlV _ _ _ _) := Lib.hid (SlM.far (p := ⟨G, 2, none⟩) (SlM.far (p := ⟨G, 1, none⟩) (SlM.far (p := ⟨G, 0, none⟩) (SlM.later V8.out hb6) (by simp) (.int .i64 (PW : Int))) (by simp) (.int .i64 (PH : Int))) (by simp) (.slice A6 pn c6))
              have f0 := hm6.bg.cell 0
              have f1 := hm6.bg.cell 1
              have f2 := hm6.bg.cell 2
              simp only [List.getElem?_toArray, List.getElem?_cons_zero, List.getElem?_cons_succ] at f0 f1 f2
              have f3 := hm6.bg.frozen 0
              have f4 := hm6.bg.frozen 1
              have f5 := hm6.bg.frozen 2
              have f6 := hm6.bg.lt
              clear hm6 hs6 ho6 hb6 e0 e1 e2 e3 e4 e5 e6 e7
              go_wp2
              go_roundw
              case rel => exact ⟨i3 + 1, .slice A6 pn c6, by go_num, by omega, by rw [HIm.out.2]; exact M7.out, V7.out⟩
              case measure => simp [intOf]; omega
            · obtain rfl : i3 = nl := by omega
              have hfull : pl.take i3 = pl := by rw [← HNl.out, List.take_length]
              rw [hfull] at hm
              have hil : (pgs PW PH pages (imgM PW PH ms) pl).length = pn := hPgl.out _ _ (by rw [HIl0.out]; exact HPn.out)
              obtain ⟨Ao, co, eo⟩ := hm.sl.form
              rw [byts_length, hil] at eo
              subst eo
              have HM9 := Lib.hid hm
              have HIl := Lib.hid hil
              have e0 := hm.bg.cell 0
              have e1 := hm.bg.cell 1
              have e2 := hm.bg.cell 2
              simp only [List.getElem?_toArray, List.getElem?_cons_zero, List.getElem?_cons_succ] at e0 e1 e2
              clear hm hv hil hfull
              go_wp2_with fail
              refine (plate_any (PW : Int) (PH : Int) _ (pgs PW PH pages (imgM PW PH ms) pl) _ _ HM9.out.sl (by rw [HIl.out]; omega)).mono ?_; rintro e w6 ⟨v6, rfl, ho6, hb6⟩
              rw [HIl.out] at ho6
              obtain ⟨A6, c6, e6'⟩ := own_form ho6
              subst e6'
              have hm6 := HM9.out.later hb6
              have z0 := hm6.br.cell 0
              have z1 := hm6.br.cell 1
              have z2 := hm6.br.cell 2
              simp only [List.getElem?_toArray, List.getElem?_cons_zero, List.getElem?_cons_succ] at z0 z1 z2
              have f3 := hm6.br.frozen 0
              have f4 := hm6.br.frozen 1
              have f5 := hm6.br.frozen 2
              have f6 := hm6.br.lt
              have HM6 := Lib.hid hm6
              have HO6 := Lib.hid ho6
              have HLt : Hid (w.heap.size + 1 < wr.heap.size) := HM9.out.br.lt
              clear hm6 ho6 hb6 e0 e1 e2
              go_wp2
              refine bodyPost_ret (v := .tuple #[.agg #[.int .i64 PW, .int .i64 PH, .slice A6 pn c6], .int .i64 0]) (by simp [results, Try.results17, go_sem, z0, z1, z2, World.cell?_setCell_other, World.cell?_setCell_same]) rfl ?_
              rw [HE.out]
              refine ⟨_, rfl, ?_, ?_⟩
              · rw [HIl.out]
                exact own_base (own_setCell (own_setCell (own_setCell HO6.out (p := ⟨w.heap.size + 1, 0, none⟩) (.inl HLt.out) _) (p := ⟨w.heap.size + 1, 1, none⟩) (.inl HLt.out) _) (p := ⟨w.heap.size + 1, 2, none⟩) (.inl HLt.out) _) (by have := HLt.out; omega)
              · exact ((HM6.out.be.setCell (p := ⟨w.heap.size + 1, 0, none⟩) (by simp) _).setCell (p := ⟨w.heap.size + 1, 1, none⟩) (by simp) _).setCell (p := ⟨w.heap.size + 1, 2, none⟩) (by simp) _
end Go.Proofs.Ytjcijogdcafloaa
