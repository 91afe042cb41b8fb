/- The walk of the cursor's one. -/
import Derived.Test.YthbdhijkdldmoaaGreatDoorTokWord
import Derived.Deep.DeepCutAuto
import Derived.Deep.CutBlock
namespace Go.Proofs.YthbdhijkdldmoaaGreatDoor
open Go.RowKit Tk
/-- A token in memory that is being filled, and the cursor (its place, where it is known). -/
structure OS (w wq : World) (cb T : Nat) (S : ByteArray) (q : Option Nat) (k i : Int) (t : ByteArray) : Prop where
  blk : Blk wq T 53 #[.int .i64 k, .int .i64 i, .string t, .int .i64 0, .int .i64 0]
  cu : ∀ p, q = some p → Cu wq cb S p
  fr : FrS T (fun k => k = cb) w wq
  lt : cb < T
  lz : T < wq.heap.size
section
variable {w wq : World} {cb T p : Nat} {S : ByteArray} {q : Option Nat} {k i : Int} {t : ByteArray}
theorem OS.put (h : OS w wq cb T S q k i t) (j : Nat) (v : Value) {k2 i2 : Int} {t2 : ByteArray} (hj : #[Value.int .i64 k, .int .i64 i, .string t, .int .i64 0, .int .i64 0].setIfInBounds j v = #[.int .i64 k2, .int .i64 i2, .string t2, .int .i64 0, .int .i64 0]) : OS w (wq.setCell ⟨T, j, none⟩ v) cb T S q k2 i2 t2 :=
  ⟨by have := Blk.put h.blk j v; rw [hj] at this; exact this, fun p hp => Cu.fr (h.cu p hp) ((FrS.refl T (fun _ => False) _).put (p := ⟨T, j, none⟩) (.inl (Nat.le_refl _)) _) h.lt id, h.fr.put (.inl (Nat.le_refl _)) _, h.lt, by simpa using h.lz⟩
theorem OS.kind (h : OS w wq cb T S q k i t) (k2 : Int) : OS w (wq.setCell ⟨T, 0, none⟩ (.int .i64 k2)) cb T S q k2 i t := h.put 0 _ (by simp)
theorem OS.int (h : OS w wq cb T S q k i t) (i2 : Int) : OS w (wq.setCell ⟨T, 1, none⟩ (.int .i64 i2)) cb T S q k i2 t := h.put 1 _ (by simp)
theorem OS.text (h : OS w wq cb T S q k i t) (t2 : ByteArray) : OS w (wq.setCell ⟨T, 2, none⟩ (.string t2)) cb T S q k i t2 := h.put 2 _ (by simp)
theorem OS.next (h : OS w wq cb T S (some p) k i t) : OS w (wq.setCell ⟨cb, 1, none⟩ (.int .i64 ((p : Int) + 1))) cb T S (some (p + 1)) k i t :=
  ⟨((FrS.refl wq.heap.size (fun k => k = cb) wq).put (p := ⟨cb, 1, none⟩) (.inr rfl) _).blk h.blk h.lz (by have := h.lt; omega), fun q hq => by obtain rfl := Option.some.inj hq; exact Cu.put (h.cu p rfl) (p + 1), h.fr.put (.inr rfl) _, h.lt, by simpa using h.lz⟩
theorem OS.back (h : OS w wq cb T S q k i t) : OS w (((((wq.setCell ⟨T, 0, none⟩ (.int .i64 k)).setCell ⟨T, 1, none⟩ (.int .i64 i)).setCell ⟨T, 2, none⟩ (.string t)).setCell ⟨T, 3, none⟩ (.int .i64 0)).setCell ⟨T, 4, none⟩ (.int .i64 0)) cb T S q k i t :=
  OS.put (k2 := k) (i2 := i) (t2 := t) (OS.put (k2 := k) (i2 := i) (t2 := t) (((h.kind k).int i).text t) 3 _ (by simp)) 4 _ (by simp)
theorem OS.call (h : OS w wq cb T S q k i t) {w2 : World} {q2 : Option Nat} (hf : FrS wq.heap.size (fun k => k = cb) wq w2) (hc : ∀ p, q2 = some p → Cu w2 cb S p) : OS w w2 cb T S q2 k i t :=
  ⟨hf.blk h.blk h.lz (by have := h.lt; omega), hc, h.fr.trans (hf.weak (Nat.le_of_lt h.lz) fun _ _ e => e), h.lt, Nat.lt_of_lt_of_le h.lz hf.size⟩
theorem OS.calm (h : OS w wq cb T S q k i t) {w2 : World} (hb : Below wq.heap.size wq w2) : OS w w2 cb T S q k i t :=
  have hf : FrS wq.heap.size (fun _ => False) wq w2 := FrS.of_below hb (Nat.le_refl _)
  ⟨hf.blk h.blk h.lz id, fun p hp => Cu.fr (h.cu p hp) hf (Nat.lt_trans h.lt h.lz) id, h.fr.trans (hf.weak (Nat.le_of_lt h.lz) fun _ _ e => e.elim), h.lt, Nat.lt_of_lt_of_le h.lz hf.size⟩
theorem OS.drewN (h : OS w wq cb T S q k i t) (n : Nat) : OS w (wq.drewN n) cb T S q k i t := ⟨h.blk, h.cu, h.fr.drewN n, h.lt, h.lz⟩
theorem OS.cells (h : OS w wq cb T S q k i t) : (wq.cell? ⟨T, 0, none⟩ = some (.int .i64 k) ∧ wq.cell? ⟨T, 1, none⟩ = some (.int .i64 i) ∧ wq.cell? ⟨T, 2, none⟩ = some (.string t) ∧ wq.cell? ⟨T, 3, none⟩ = some (.int .i64 0) ∧ wq.cell? ⟨T, 4, none⟩ = some (.int .i64 0)) ∧ wq.frozen? ⟨T, 0, none⟩ = false ∧ wq.frozen? ⟨T, 1, none⟩ = false ∧ wq.frozen? ⟨T, 2, none⟩ = false ∧ wq.frozen? ⟨T, 3, none⟩ = false ∧ wq.frozen? ⟨T, 4, none⟩ = false := by
  refine ⟨⟨?_, ?_, ?_, ?_, ?_⟩, Blk.frozen h.blk 0, Blk.frozen h.blk 1, Blk.frozen h.blk 2, Blk.frozen h.blk 3, Blk.frozen h.blk 4⟩
  · have := Blk.cell h.blk 0; simpa using this
  · have := Blk.cell h.blk 1; simpa using this
  · have := Blk.cell h.blk 2; simpa using this
  · have := Blk.cell h.blk 3; simpa using this
  · have := Blk.cell h.blk 4; simpa using this
theorem OS.txt (h : OS w wq cb T S (some p) k i t) {r : Res Tk.Src} {e : Ending} {w2 : World} (hp : TxtPost S cb p r wq e w2) : ∃ t2 b q, e = .returned (.tuple #[.string ⟨List.toArray t2⟩, .int .i64 b]) ∧ OS w w2 cb T S q k i t ∧ ((∃ n, r = .ok (t2, n) ∧ b = 0 ∧ q = some (p + n)) ∨ r = .error b) := by
  obtain ⟨hf, hr⟩ := hp
  match r, hr with
  | .error er, hr => exact ⟨[], er, none, hr, h.call hf (fun _ e => by cases e), .inr rfl⟩
  | .ok (t2, n), hr => exact ⟨t2, 0, some (p + n), hr.1, h.call hf (fun _ e => by obtain rfl := Option.some.inj e; exact hr.2), .inl ⟨n, rfl, rfl, rfl⟩⟩
end
def tokV (k i : Int) (t : ByteArray) (a e : Int) : Value := .agg #[.int .i64 k, .int .i64 i, .string t, .int .i64 a, .int .i64 e]
/-- What one answers. -/
def OnePost (S : ByteArray) (cb p : Nat) (r : Res BTok) (w : World) (e : Ending) (w' : World) : Prop :=
  FrS w.heap.size (fun k => k = cb) w w' ∧ match r with
    | .error er => ∃ k i t, e = .returned (.tuple #[tokV k i t 0 0, .int .i64 er])
    | .ok (b, n) => e = .returned (.tuple #[tokV b.kind b.int ⟨b.text.toArray⟩ 0 0, .int .i64 0]) ∧ Cu w' cb S (p + n)
section
variable {S : ByteArray} {cb p p1 n : Nat} {b : BTok} {R : Res BTok} {w w' : World} {e : Ending}
theorem one_ok (h : R = .ok (b, n)) (ho : OS w w' cb w.heap.size S (some (p + n)) b.kind b.int ⟨b.text.toArray⟩) (he : e = .returned (.tuple #[tokV b.kind b.int ⟨b.text.toArray⟩ 0 0, .int .i64 0])) : OnePost S cb p R w e w' := by
  unfold OnePost; rw [h]; exact ⟨ho.fr, he, ho.cu _ rfl⟩
theorem one_bad {er k i : Int} {t : ByteArray} {q : Option Nat} (h : R = .error er) (ho : OS w w' cb w.heap.size S q k i t) (he : e = .returned (.tuple #[tokV k i t 0 0, .int .i64 er])) : OnePost S cb p R w e w' := by
  unfold OnePost; rw [h]; exact ⟨ho.fr, k, i, t, he⟩
theorem one_int {k a b : Int} {x : Except Int Int} (h : R = mapInt k n x) (hx : (x = .ok a ∧ b = 0) ∨ x = .error b) (ho : OS w w' cb w.heap.size S (some (p + n)) k a ⟨#[]⟩) : OnePost S cb p R w (.returned (.tuple #[tokV k a ⟨#[]⟩ 0 0, .int .i64 b])) w' := by
  rcases hx with ⟨hx, rfl⟩ | hx
  · exact one_ok (b := ⟨k, a, []⟩) (n := n) (by rw [h, hx]; rfl) ho rfl
  · exact one_bad (by rw [h, hx]; rfl) ho rfl
theorem one_wrd {k b : Int} {t : Tk.Src} {x : Except Int Tk.Src} (h : R = mapTxt k n x) (hx : (x = .ok t ∧ b = 0) ∨ x = .error b) (ho : OS w w' cb w.heap.size S (some (p + n)) k 0 ⟨t.toArray⟩) : OnePost S cb p R w (.returned (.tuple #[tokV k 0 ⟨t.toArray⟩ 0 0, .int .i64 b])) w' := by
  rcases hx with ⟨hx, rfl⟩ | hx
  · exact one_ok (b := ⟨k, 0, t⟩) (n := n) (by rw [h, hx]; rfl) ho rfl
  · exact one_bad (by rw [h, hx]; rfl) ho rfl
theorem one_txt {k b : Int} {t : Tk.Src} {q : Option Nat} {x : Res Tk.Src} (hp1 : p1 = p + 1) (h : R = mapRes k x) (hx : (∃ n, x = .ok (t, n) ∧ b = 0 ∧ q = some (p1 + n)) ∨ x = .error b) (ho : OS w w' cb w.heap.size S q k 0 ⟨t.toArray⟩) : OnePost S cb p R w (.returned (.tuple #[tokV k 0 ⟨t.toArray⟩ 0 0, .int .i64 b])) w' := by
  rcases hx with ⟨n, hx, rfl, rfl⟩ | hx
  · refine one_ok (b := ⟨k, 0, t⟩) (n := n + 1) (by rw [h, hx]; rfl) ?_ rfl
    rw [show p + (n + 1) = p1 + n by omega]; exact ho
  · exact one_bad (by rw [h, hx]; rfl) ho rfl
end
theorem int_two (l : Tk.Src) : ∃ a b, intR l = .tuple #[.int .i64 a, .int .i64 b] ∧ ((integer l = .ok a ∧ b = 0) ∨ integer l = .error b) := by
  unfold intR
  cases integer l with
  | ok v => exact ⟨v, 0, rfl, .inl ⟨rfl, rfl⟩⟩
  | error e => exact ⟨0, e, rfl, .inr rfl⟩
theorem ref_two (l : Tk.Src) : ∃ a b, refR l = .tuple #[.int .i64 a, .int .i64 b] ∧ ((reference l = .ok a ∧ b = 0) ∨ reference l = .error b) := by
  unfold refR
  cases reference l with
  | ok v => exact ⟨v, 0, rfl, .inl ⟨rfl, rfl⟩⟩
  | error e => exact ⟨0, e, rfl, .inr rfl⟩
theorem word_two (l : Tk.Src) : ∃ t b, wordR l = .tuple #[.string ⟨List.toArray t⟩, .int .i64 b] ∧ ((word l = .ok t ∧ b = 0) ∨ word l = .error b) := by
  unfold wordR
  cases word l with
  | ok v => exact ⟨v, 0, rfl, .inl ⟨rfl, rfl⟩⟩
  | error e => exact ⟨[], e, rfl, .inr rfl⟩
theorem one_num {x : UInt8} {r : Tk.Src} (h : (x == 43 || x == 45 || digit x) = true) : one (x :: r) = mapInt 1 (run (x :: r)).length (integer (run (x :: r))) := if_pos h
theorem one_reg {x : UInt8} {r : Tk.Src} (h : (x == 43 || x == 45 || digit x) = false) (h2 : regular x = true) : one (x :: r) = mapTxt 5 (run (x :: r)).length (word (run (x :: r))) := by
  rw [one, if_neg (by rw [h]; decide), if_pos h2]
theorem one_47 (r : Tk.Src) : one (47 :: r) = mapRes 2 (nameT r) := by
  show mapTxt 2 (1 + (run r).length) (nameW (run r)) = _
  unfold nameT
  cases nameW (run r) with
  | error e => rfl
  | ok t => show Except.ok _ = Except.ok _; rw [Nat.add_comm]
theorem one_64 (r : Tk.Src) : one (64 :: r) = mapInt 4 (1 + (run r).length) (reference (run r)) := rfl
theorem one_40 (r : Tk.Src) : one (40 :: r) = mapRes 3 (text r) := rfl
theorem one_91 (r : Tk.Src) : one (91 :: r) = .ok (⟨6, 0, []⟩, 1) := rfl
theorem one_93 (r : Tk.Src) : one (93 :: r) = .ok (⟨7, 0, []⟩, 1) := rfl
theorem one_60 (r : Tk.Src) : one (60 :: r) = if r.head? = some 60 then .ok (⟨8, 0, []⟩, 2) else mapRes 3 (hex r) := rfl
theorem one_62 (r : Tk.Src) : one (62 :: r) = if r.head? = some 62 then .ok (⟨9, 0, []⟩, 2) else .error 5 := rfl
theorem one_60b {r : Tk.Src} {d : Bool} (h : d = decide (r.head? = some 60)) : one (60 :: r) = if d = true then .ok (⟨8, 0, []⟩, 2) else mapRes 3 (hex r) := by
  rw [one_60]
  by_cases h2 : r.head? = some 60
  · rw [if_pos h2, h, decide_eq_true h2, if_pos rfl]
  · rw [if_neg h2, h, decide_eq_false h2, if_neg Bool.false_ne_true]
theorem one_62b {r : Tk.Src} {d : Bool} (h : d = decide (r.head? = some 62)) : one (62 :: r) = if d = true then .ok (⟨9, 0, []⟩, 2) else .error 5 := by
  rw [one_62]
  by_cases h2 : r.head? = some 62
  · rw [if_pos h2, h, decide_eq_true h2, if_pos rfl]
  · rw [if_neg h2, h, decide_eq_false h2, if_neg Bool.false_ne_true]
theorem one_no {x : UInt8} {r : Tk.Src} (h1 : (x == 43 || x == 45 || digit x) = false) (h2 : regular x = false) (h47 : x ≠ 47) (h64 : x ≠ 64) (h40 : x ≠ 40) (h91 : x ≠ 91) (h93 : x ≠ 93) (h60 : x ≠ 60) (h62 : x ≠ 62) : one (x :: r) = .error 5 := by
  rw [one, if_neg (by rw [h1]; decide), if_neg (by rw [h2]; decide), if_neg (by simpa using h47), if_neg (by simpa using h64), if_neg (by simpa using h40), if_neg (by simpa using h91), if_neg (by simpa using h93), if_neg (by simpa using h60), if_neg (by simpa using h62)]
theorem digit_reg {c : UInt8} (h : digit c = true) : regular c = true := by
  have := u8_all (fun c => !digit c || regular c) (by decide +kernel) c
  rw [h] at this
  simpa using this
set_option maxRecDepth 100000 in
set_option maxHeartbeats 16000000 in
theorem one_any (S : ByteArray) (cb p : Nat) (w : World) (h : Cu w cb S p) (hp : p < S.size) (hs : S.size ≤ 100000) :
    Calls Tryz.prog 90 #[.pointer (some ⟨cb, 0, none⟩)] w (OnePost S cb p (one ((bys S).drop p)) w) := by
  have hcl := h.cells.2.2.2
  have hos0 : OS w (w.alloc (.cells #[.int .i64 0, .int .i64 0, .string ⟨#[]⟩, .int .i64 0, .int .i64 0] 53)) cb w.heap.size S (some p) 0 0 ⟨#[]⟩ :=
    ⟨Blk.new w _ _, fun q hq => by obtain rfl := Option.some.inj hq; exact Blk.alloc h _, (FrS.refl _ _ w).alloc (Nat.le_refl _) _, hcl, by simp⟩
  have hi1 : (p : Int) < (S.size : Int) := by omega
  have hdr := drop_byte S p hp
  have hrl : ((bys S).drop (p + 1)).length ≤ 100000 := by rw [List.length_drop, bys_len]; omega
  have HHd : Hid (((bys S).drop (p + 1)).head? = if h : p + 1 < S.size then some (S[p + 1]'h) else none) := by
    unfold Hid
    split
    · rename_i h2; rw [drop_byte S (p + 1) h2]; rfl
    · rw [List.drop_eq_nil_of_le (by rw [bys_len]; omega)]; rfl
  generalize hR : one ((bys S).drop p) = R at *
  rw [hdr] at hR
  have HR := Lib.hid hR
  have HDr := Lib.hid hdr
  have HRn : Hid (∀ (W : World) (T p : Nat) (k i : Int) (t : ByteArray), OS w W cb T S (some p) k i t → p ≤ S.size → Calls Tryz.prog 106 #[.pointer (some ⟨cb, 0, none⟩)] W fun e w' => e = .returned (.string ⟨(run ((bys S).drop p)).toArray⟩) ∧ OS w w' cb T S (some (p + (run ((bys S).drop p)).length)) k i t) := fun W T p k i t h hp =>
    (run_any S cb p W (h.cu p rfl) hp (by omega)).mono fun e w' hh => ⟨hh.1, h.call hh.2.2 fun q hq => by obtain rfl := Option.some.inj hq; exact hh.2.1⟩
  clear h hR hdr
  have HDg := Lib.hid fun W => digit_any (S[p]'hp) W
  have HRg := Lib.hid fun W => regular_any (S[p]'hp) W
  have hxn := (bt_nn (S[p]'hp)).1
  by_cases h43 : S[p]'hp = 43
  · have hcase : (S[p]'hp == 43 || S[p]'hp == 45 || digit (S[p]'hp)) = true := by rw [h43]; rfl
    have hreg : regular (S[p]'hp) = true := by rw [h43]; rfl
    have q43 : (((S[p]'hp).toNat : Int) == 43) = true := by rw [h43]; rfl
    clear h43
    have hrun : run ((bys S).drop p) = S[p]'hp :: run ((bys S).drop (p + 1)) := by rw [HDr.out, run_step, if_pos hreg]
    have hrl2 : (run ((bys S).drop (p + 1))).length ≤ 100000 := Nat.le_trans (run_len _) hrl
    have HRn := Lib.hid fun W T k i t h => HRn.out W T p k i t h (by omega)
    have HR1 : Hid (R = mapInt 1 (run ((bys S).drop p)).length (integer (run ((bys S).drop p)))) := by
      unfold Hid
      rw [← HR.out, HDr.out]; exact one_num hcase
    have HIn := Lib.hid fun W => integer_any (S[p]'hp) (run ((bys S).drop (p + 1))) W hrl2
    rw [← hrun] at HIn
    generalize run ((bys S).drop p) = rr at *
    obtain ⟨V, hV⟩ : ∃ V : ByteArray, V = ⟨rr.toArray⟩ := ⟨_, rfl⟩
    rw [← hV] at HIn HRn
    clear hrun hcase hreg hV HR HDr HHd
    obtain ⟨ra, rb, hre, hrx⟩ := int_two rr
    rw [hre] at HIn
    have HRx := Lib.hid hrx
    clear hre hrx
    go_enter Tryz.func90, Tryz.ntmps90
    go_wp2_with fail
    generalize w.alloc (.cells #[.int .i64 0, .int .i64 0, .string ⟨#[]⟩, .int .i64 0, .int .i64 0] 53) = w0 at *
    obtain ⟨c0, c1, cf, cl⟩ := (hos0.cu _ rfl).cells
    go_quiet (fail)
    have hosa := hos0.drewN nq
    clear hos0 c0 c1 cf cl
    generalize w0.drewN nq = wa at *
    obtain ⟨⟨t0, t1, t2, t3, t4⟩, f0, f1, f2, f3, f4⟩ := hosa.cells
    have tl := hosa.lz
    obtain ⟨c0, c1, cf, cl⟩ := (hosa.cu _ rfl).cells
    have HOa := Lib.hid hosa
    clear hosa
    go_wp2_with fail
    have hosb := HOa.out.kind 1
    refine (HRn.out _ _ _ _ _ hosb).mono ?_
    rintro e w2 ⟨rfl, hosc⟩
    clear hosb
    clear t0 t1 t2 t3 t4 f0 f1 f2 f3 f4 tl c0 c1 cf cl
    have HOc := Lib.hid hosc
    obtain ⟨⟨t0, t1, t2, t3, t4⟩, f0, f1, f2, f3, f4⟩ := hosc.cells
    have tl := hosc.lz
    clear hosc
    go_wp2_with fail
    refine (HIn.out _).mono ?_
    rintro e w3 ⟨rfl, hb3⟩
    have hosd := HOc.out.calm hb3
    clear hb3
    clear t0 t1 t2 t3 t4 f0 f1 f2 f3 f4 tl
    have HOd := Lib.hid hosd
    obtain ⟨⟨t0, t1, t2, t3, t4⟩, f0, f1, f2, f3, f4⟩ := hosd.cells
    have tl := hosd.lz
    clear hosd
    go_wp2_with fail
    have hos9 := (HOd.out.int ra).back
    refine bodyPost_ret (v := .tuple #[tokV 1 ra ⟨#[]⟩ 0 0, .int .i64 rb]) ?_ rfl ?_
    · obtain ⟨⟨z0, z1, z2, z3, z4⟩, -⟩ := hos9.cells
      have hz := hos9.lz
      clear hos9 
      generalize World.setCell _ _ _ = W at *
      simp [results, Tryz.results90, go_sem, tokV, z0, z1, z2, z3, z4]
    · exact one_int HR1.out HRx.out hos9
  · have q43 : (((S[p]'hp).toNat : Int) == 43) = false := bt_ne (S[p]'hp) 43 h43
    by_cases h45 : S[p]'hp = 45
    · have hcase : (S[p]'hp == 43 || S[p]'hp == 45 || digit (S[p]'hp)) = true := by rw [h45]; rfl
      have hreg : regular (S[p]'hp) = true := by rw [h45]; rfl
      have q45 : (((S[p]'hp).toNat : Int) == 45) = true := by rw [h45]; rfl
      clear h43 h45
      have hrun : run ((bys S).drop p) = S[p]'hp :: run ((bys S).drop (p + 1)) := by rw [HDr.out, run_step, if_pos hreg]
      have hrl2 : (run ((bys S).drop (p + 1))).length ≤ 100000 := Nat.le_trans (run_len _) hrl
      have HRn := Lib.hid fun W T k i t h => HRn.out W T p k i t h (by omega)
      have HR1 : Hid (R = mapInt 1 (run ((bys S).drop p)).length (integer (run ((bys S).drop p)))) := by
        unfold Hid
        rw [← HR.out, HDr.out]; exact one_num hcase
      have HIn := Lib.hid fun W => integer_any (S[p]'hp) (run ((bys S).drop (p + 1))) W hrl2
      rw [← hrun] at HIn
      generalize run ((bys S).drop p) = rr at *
      obtain ⟨V, hV⟩ : ∃ V : ByteArray, V = ⟨rr.toArray⟩ := ⟨_, rfl⟩
      rw [← hV] at HIn HRn
      clear hrun hcase hreg hV HR HDr HHd
      obtain ⟨ra, rb, hre, hrx⟩ := int_two rr
      rw [hre] at HIn
      have HRx := Lib.hid hrx
      clear hre hrx
      go_enter Tryz.func90, Tryz.ntmps90
      go_wp2_with fail
      generalize w.alloc (.cells #[.int .i64 0, .int .i64 0, .string ⟨#[]⟩, .int .i64 0, .int .i64 0] 53) = w0 at *
      obtain ⟨c0, c1, cf, cl⟩ := (hos0.cu _ rfl).cells
      go_quiet (fail)
      have hosa := hos0.drewN nq
      clear hos0 c0 c1 cf cl
      generalize w0.drewN nq = wa at *
      obtain ⟨⟨t0, t1, t2, t3, t4⟩, f0, f1, f2, f3, f4⟩ := hosa.cells
      have tl := hosa.lz
      obtain ⟨c0, c1, cf, cl⟩ := (hosa.cu _ rfl).cells
      have HOa := Lib.hid hosa
      clear hosa
      go_wp2_with fail
      have hosb := HOa.out.kind 1
      refine (HRn.out _ _ _ _ _ hosb).mono ?_
      rintro e w2 ⟨rfl, hosc⟩
      clear hosb
      clear t0 t1 t2 t3 t4 f0 f1 f2 f3 f4 tl c0 c1 cf cl
      have HOc := Lib.hid hosc
      obtain ⟨⟨t0, t1, t2, t3, t4⟩, f0, f1, f2, f3, f4⟩ := hosc.cells
      have tl := hosc.lz
      clear hosc
      go_wp2_with fail
      refine (HIn.out _).mono ?_
      rintro e w3 ⟨rfl, hb3⟩
      have hosd := HOc.out.calm hb3
      clear hb3
      clear t0 t1 t2 t3 t4 f0 f1 f2 f3 f4 tl
      have HOd := Lib.hid hosd
      obtain ⟨⟨t0, t1, t2, t3, t4⟩, f0, f1, f2, f3, f4⟩ := hosd.cells
      have tl := hosd.lz
      clear hosd
      go_wp2_with fail
      have hos9 := (HOd.out.int ra).back
      refine bodyPost_ret (v := .tuple #[tokV 1 ra ⟨#[]⟩ 0 0, .int .i64 rb]) ?_ rfl ?_
      · obtain ⟨⟨z0, z1, z2, z3, z4⟩, -⟩ := hos9.cells
        have hz := hos9.lz
        clear hos9 
        generalize World.setCell _ _ _ = W at *
        simp [results, Tryz.results90, go_sem, tokV, z0, z1, z2, z3, z4]
      · exact one_int HR1.out HRx.out hos9
    · have q45 : (((S[p]'hp).toNat : Int) == 45) = false := bt_ne (S[p]'hp) 45 h45
      cases hdg : digit (S[p]'hp)
      · have hcase : (S[p]'hp == 43 || S[p]'hp == 45 || digit (S[p]'hp)) = false := by rw [hdg]; simp [h43, h45]
        cases hreg : regular (S[p]'hp)
        · obtain ⟨dbl, hdb⟩ : ∃ dbl : Bool, dbl = decide (((bys S).drop (p + 1)).head? = some (S[p]'hp)) := ⟨_, rfl⟩
          have HDq : Hid ((∀ p1, p1 = p + 1 → ∀ h2 : p1 < S.size, S[p1]'h2 = S[p]'hp → dbl = true) ∧ (∀ p1, p1 = p + 1 → ∀ h2 : p1 < S.size, ¬ S[p1]'h2 = S[p]'hp → dbl = false) ∧ (∀ p1, p1 = p + 1 → ¬ p1 < S.size → dbl = false)) := by
            refine ⟨fun p1 e h2 h3 => ?_, fun p1 e h2 h3 => ?_, fun p1 e h2 => ?_⟩
            · subst e; rw [hdb, HHd.out, dif_pos h2, h3]; simp
            · subst e; rw [hdb, HHd.out, dif_pos h2]; simpa using h3
            · subst e; rw [hdb, HHd.out, dif_neg h2]; simp
          have HDb := Lib.hid hdb
          have HCa := Lib.hid hcase
          have HRe := Lib.hid hreg
          rw [hdg] at HDg
          rw [hreg] at HRg
          clear hdb hcase hreg h43 h45 hdg HHd
          go_enter Tryz.func90, Tryz.ntmps90
          go_wp2_with fail
          generalize w.alloc (.cells #[.int .i64 0, .int .i64 0, .string ⟨#[]⟩, .int .i64 0, .int .i64 0] 53) = w0 at *
          obtain ⟨c0, c1, cf, cl⟩ := (hos0.cu _ rfl).cells
          go_quiet (fail)
          have hosa := hos0.drewN nq
          clear hos0 c0 c1 cf cl
          generalize w0.drewN nq = wa at *
          obtain ⟨⟨t0, t1, t2, t3, t4⟩, f0, f1, f2, f3, f4⟩ := hosa.cells
          have tl := hosa.lz
          obtain ⟨c0, c1, cf, cl⟩ := (hosa.cu _ rfl).cells
          have HOa := Lib.hid hosa
          clear hosa
          go_wp2_with fail
          refine (HDg.out _).mono ?_
          rintro e w2 ⟨rfl, rfl⟩
          go_wp2_with fail
          refine (HRg.out _).mono ?_
          rintro e w2 ⟨rfl, rfl⟩
          go_wp2_with fail
          have hosb := HOa.out.next
          obtain ⟨p1, hp1⟩ : ∃ p1, p1 = p + 1 := ⟨_, rfl⟩
          have hp2 : ((p : Int) + 1) = (p1 : Int) := by omega
          rw [hp2]
          rw [hp2, ← hp1] at hosb
          have HP1 := Lib.hid hp1
          have hp1b : (p1 : Int) ≤ 100000 := by omega
          clear hp1 hp2
          clear t0 t1 t2 t3 t4 f0 f1 f2 f3 f4 tl c0 c1 cf cl
          generalize wa.setCell ⟨cb, 1, none⟩ (.int .i64 (p1 : Int)) = wb at *
          have HOb := Lib.hid hosb
          obtain ⟨⟨t0, t1, t2, t3, t4⟩, f0, f1, f2, f3, f4⟩ := hosb.cells
          have tl := hosb.lz
          obtain ⟨c0, c1, cf, cl⟩ := (hosb.cu _ rfl).cells
          clear hosb HOa
          go_upto_region 11 with (fail)
          go_cut [5] (fun v5 wx => v5 = .bool dbl ∧ ∃ n, wx = wb.drewN n)
          case first =>
            by_cases h2 : p1 < S.size
            · have h2i : decide ((p1 : Int) < (S.size : Int)) = true := decide_eq_true (by omega)
              have h2j : (p1 : Int) < (S.size : Int) := by omega
              by_cases h3 : S[p1]'h2 = S[p]'hp
              · have h3i : ((((S[p1]'h2).toNat : Int)) == ((S[p]'hp).toNat : Int)) = true := by rw [h3]; simp
                have hd : dbl = true := HDq.out.1 p1 HP1.out h2 h3
                have HD1 := Lib.hid hd
                clear h3 hd
                go_quiet (fail)
                go_wp2_with fail
                go_meet
                exact ⟨by rw [HD1.out], _, rfl⟩
              · have h3i : ((((S[p1]'h2).toNat : Int)) == ((S[p]'hp).toNat : Int)) = false := by rw [beq_eq_false_iff_ne]; exact fun e => h3 (bt_inj e)
                have hd : dbl = false := HDq.out.2.1 p1 HP1.out h2 h3
                have HD1 := Lib.hid hd
                clear h3 hd
                go_quiet (fail)
                go_wp2_with fail
                go_meet
                exact ⟨by rw [HD1.out], _, rfl⟩
            · have h2i : decide ((p1 : Int) < (S.size : Int)) = false := decide_eq_false (by omega)
              have hd : dbl = false := HDq.out.2.2 p1 HP1.out h2
              have HD1 := Lib.hid hd
              clear hd
              go_quiet (fail)
              go_wp2_with fail
              go_meet
              exact ⟨by rw [HD1.out], _, rfl⟩
          case rest =>
          obtain ⟨rfl, nr, rfl⟩ := hcut
          have hosc := HOb.out.drewN nr
          clear t0 t1 t2 t3 t4 f0 f1 f2 f3 f4 tl c0 c1 cf cl
          generalize wb.drewN nr = wc at *
          have HOc := Lib.hid hosc
          obtain ⟨⟨t0, t1, t2, t3, t4⟩, f0, f1, f2, f3, f4⟩ := hosc.cells
          have tl := hosc.lz
          obtain ⟨c0, c1, cf, cl⟩ := (hosc.cu _ rfl).cells
          clear hosc
          clear HDq
          by_cases h47 : S[p]'hp = 47
          · have hx := h47
            clear h47
            have q47 : (((S[p]'hp).toNat : Int) == 47) = true := by rw [hx]; rfl
            have q64 : (((S[p]'hp).toNat : Int) == 64) = false := by rw [hx]; rfl
            have q40 : (((S[p]'hp).toNat : Int) == 40) = false := by rw [hx]; rfl
            have q91 : (((S[p]'hp).toNat : Int) == 91) = false := by rw [hx]; rfl
            have q93 : (((S[p]'hp).toNat : Int) == 93) = false := by rw [hx]; rfl
            have q60 : (((S[p]'hp).toNat : Int) == 60) = false := by rw [hx]; rfl
            have q62 : (((S[p]'hp).toNat : Int) == 62) = false := by rw [hx]; rfl
            have HR2 : Hid (R = mapRes 2 (nameT ((bys S).drop p1))) := by unfold Hid; rw [← HR.out, hx, HP1.out]; exact one_47 _
            clear HR hx
            have HCl : Hid (∀ W, Cu W cb S p1 → Calls Tryz.prog 107 #[.pointer (some ⟨cb, 0, none⟩)] W (TxtPost S cb p1 (nameT ((bys S).drop p1)) W)) := fun W h => name_any S cb p1 W h (by have := HP1.out; omega) hs
            generalize nameT ((bys S).drop p1) = xx at *
            go_wp2_with fail
            have hosd := HOc.out.kind 2
            refine (HCl.out _ (hosd.cu _ rfl)).mono ?_
            rintro e w2 hpost
            obtain ⟨t5, rb, q5, rfl, hose, hx5⟩ := hosd.txt hpost
            clear hosd hpost
            clear t0 t1 t2 t3 t4 f0 f1 f2 f3 f4 tl c0 c1 cf cl
            have HX5 := Lib.hid hx5
            have HOe := Lib.hid hose
            obtain ⟨tV, htV⟩ : ∃ tV : ByteArray, tV = ⟨t5.toArray⟩ := ⟨_, rfl⟩
            rw [← htV]
            have HtV := Lib.hid htV
            clear hx5 htV
            obtain ⟨⟨t0, t1, t2, t3, t4⟩, f0, f1, f2, f3, f4⟩ := hose.cells
            have tl := hose.lz
            clear hose
            go_wp2_with fail
            have hos9 := (HOe.out.text tV).back
            refine bodyPost_ret (v := .tuple #[tokV 2 0 tV 0 0, .int .i64 rb]) ?_ rfl ?_
            · obtain ⟨⟨z0, z1, z2, z3, z4⟩, -⟩ := hos9.cells
              have hz := hos9.lz
              clear hos9 
              generalize World.setCell _ _ _ = W at *
              simp [results, Tryz.results90, go_sem, tokV, z0, z1, z2, z3, z4]
            · rw [HtV.out] at hos9 ⊢
              exact one_txt HP1.out HR2.out HX5.out hos9
          · by_cases h64 : S[p]'hp = 64
            · have hx := h64
              clear h47
              clear h64
              have q47 : (((S[p]'hp).toNat : Int) == 47) = false := by rw [hx]; rfl
              have q64 : (((S[p]'hp).toNat : Int) == 64) = true := by rw [hx]; rfl
              have q40 : (((S[p]'hp).toNat : Int) == 40) = false := by rw [hx]; rfl
              have q91 : (((S[p]'hp).toNat : Int) == 91) = false := by rw [hx]; rfl
              have q93 : (((S[p]'hp).toNat : Int) == 93) = false := by rw [hx]; rfl
              have q60 : (((S[p]'hp).toNat : Int) == 60) = false := by rw [hx]; rfl
              have q62 : (((S[p]'hp).toNat : Int) == 62) = false := by rw [hx]; rfl
              have HR2 : Hid (R = mapInt 4 (1 + (run ((bys S).drop p1)).length) (reference (run ((bys S).drop p1)))) := by unfold Hid; rw [← HR.out, hx, HP1.out]; exact one_64 _
              clear HR hx
              have HRn := Lib.hid fun W T k i t h => HRn.out W T p1 k i t h (by have := HP1.out; omega)
              have hrl2 : (run ((bys S).drop p1)).length ≤ 100000 := by rw [HP1.out]; exact Nat.le_trans (run_len _) hrl
              have HIn := Lib.hid fun W => reference_any (run ((bys S).drop p1)) W hrl2
              generalize run ((bys S).drop p1) = rr at *
              obtain ⟨V, hV⟩ : ∃ V : ByteArray, V = ⟨rr.toArray⟩ := ⟨_, rfl⟩
              rw [← hV] at HIn HRn
              obtain ⟨ra, rb, hre, hrx⟩ := ref_two rr
              rw [hre] at HIn
              have HRx := Lib.hid hrx
              clear hV hre hrx
              go_wp2_with fail
              have hosd := HOc.out.kind 4
              refine (HRn.out _ _ _ _ _ hosd).mono ?_
              rintro e w2 ⟨rfl, hose⟩
              clear hosd
              clear t0 t1 t2 t3 t4 f0 f1 f2 f3 f4 tl c0 c1 cf cl
              have HOe := Lib.hid hose
              obtain ⟨⟨t0, t1, t2, t3, t4⟩, f0, f1, f2, f3, f4⟩ := hose.cells
              have tl := hose.lz
              clear hose
              go_wp2_with fail
              refine (HIn.out _).mono ?_
              rintro e w3 ⟨rfl, hb3⟩
              have hosf := HOe.out.calm hb3
              clear hb3
              clear t0 t1 t2 t3 t4 f0 f1 f2 f3 f4 tl
              have HOf := Lib.hid hosf
              obtain ⟨⟨t0, t1, t2, t3, t4⟩, f0, f1, f2, f3, f4⟩ := hosf.cells
              have tl := hosf.lz
              clear hosf
              go_wp2_with fail
              have hos9 := (HOf.out.int ra).back
              refine bodyPost_ret (v := .tuple #[tokV 4 ra ⟨#[]⟩ 0 0, .int .i64 rb]) ?_ rfl ?_
              · obtain ⟨⟨z0, z1, z2, z3, z4⟩, -⟩ := hos9.cells
                have hz := hos9.lz
                clear hos9 
                generalize World.setCell _ _ _ = W at *
                simp [results, Tryz.results90, go_sem, tokV, z0, z1, z2, z3, z4]
              · refine one_int HR2.out HRx.out ?_
                rw [show p + (1 + rr.length) = p1 + rr.length by have := HP1.out; omega]
                exact hos9
            · by_cases h40 : S[p]'hp = 40
              · have hx := h40
                clear h47
                clear h64
                clear h40
                have q47 : (((S[p]'hp).toNat : Int) == 47) = false := by rw [hx]; rfl
                have q64 : (((S[p]'hp).toNat : Int) == 64) = false := by rw [hx]; rfl
                have q40 : (((S[p]'hp).toNat : Int) == 40) = true := by rw [hx]; rfl
                have q91 : (((S[p]'hp).toNat : Int) == 91) = false := by rw [hx]; rfl
                have q93 : (((S[p]'hp).toNat : Int) == 93) = false := by rw [hx]; rfl
                have q60 : (((S[p]'hp).toNat : Int) == 60) = false := by rw [hx]; rfl
                have q62 : (((S[p]'hp).toNat : Int) == 62) = false := by rw [hx]; rfl
                have HR2 : Hid (R = mapRes 3 (text ((bys S).drop p1))) := by unfold Hid; rw [← HR.out, hx, HP1.out]; exact one_40 _
                clear HR hx
                have HCl : Hid (∀ W, Cu W cb S p1 → Calls Tryz.prog 109 #[.pointer (some ⟨cb, 0, none⟩)] W (TxtPost S cb p1 (text ((bys S).drop p1)) W)) := fun W h => text_any S cb p1 W h (by have := HP1.out; omega) hs
                generalize text ((bys S).drop p1) = xx at *
                go_wp2_with fail
                have hosd := HOc.out.kind 3
                refine (HCl.out _ (hosd.cu _ rfl)).mono ?_
                rintro e w2 hpost
                obtain ⟨t5, rb, q5, rfl, hose, hx5⟩ := hosd.txt hpost
                clear hosd hpost
                clear t0 t1 t2 t3 t4 f0 f1 f2 f3 f4 tl c0 c1 cf cl
                have HX5 := Lib.hid hx5
                have HOe := Lib.hid hose
                obtain ⟨tV, htV⟩ : ∃ tV : ByteArray, tV = ⟨t5.toArray⟩ := ⟨_, rfl⟩
                rw [← htV]
                have HtV := Lib.hid htV
                clear hx5 htV
                obtain ⟨⟨t0, t1, t2, t3, t4⟩, f0, f1, f2, f3, f4⟩ := hose.cells
                have tl := hose.lz
                clear hose
                go_wp2_with fail
                have hos9 := (HOe.out.text tV).back
                refine bodyPost_ret (v := .tuple #[tokV 3 0 tV 0 0, .int .i64 rb]) ?_ rfl ?_
                · obtain ⟨⟨z0, z1, z2, z3, z4⟩, -⟩ := hos9.cells
                  have hz := hos9.lz
                  clear hos9 
                  generalize World.setCell _ _ _ = W at *
                  simp [results, Tryz.results90, go_sem, tokV, z0, z1, z2, z3, z4]
                · rw [HtV.out] at hos9 ⊢
                  exact one_txt HP1.out HR2.out HX5.out hos9
              · by_cases h91 : S[p]'hp = 91
                · have hx := h91
                  clear h47
                  clear h64
                  clear h40
                  clear h91
                  have q47 : (((S[p]'hp).toNat : Int) == 47) = false := by rw [hx]; rfl
                  have q64 : (((S[p]'hp).toNat : Int) == 64) = false := by rw [hx]; rfl
                  have q40 : (((S[p]'hp).toNat : Int) == 40) = false := by rw [hx]; rfl
                  have q91 : (((S[p]'hp).toNat : Int) == 91) = true := by rw [hx]; rfl
                  have q93 : (((S[p]'hp).toNat : Int) == 93) = false := by rw [hx]; rfl
                  have q60 : (((S[p]'hp).toNat : Int) == 60) = false := by rw [hx]; rfl
                  have q62 : (((S[p]'hp).toNat : Int) == 62) = false := by rw [hx]; rfl
                  have HR1 : Hid (R = .ok (⟨6, 0, []⟩, 1)) := by unfold Hid; rw [← HR.out, hx]; exact one_91 _
                  clear HR hx
                  go_wp2_with fail
                  have hos9 := (HOc.out.kind 6).back
                  refine bodyPost_ret (v := .tuple #[tokV 6 0 ⟨#[]⟩ 0 0, .int .i64 0]) ?_ rfl ?_
                  · obtain ⟨⟨z0, z1, z2, z3, z4⟩, -⟩ := hos9.cells
                    have hz := hos9.lz
                    clear hos9 
                    generalize World.setCell _ _ _ = W at *
                    simp [results, Tryz.results90, go_sem, tokV, z0, z1, z2, z3, z4]
                  · exact one_ok (b := ⟨6, 0, []⟩) HR1.out (by rw [HP1.out] at hos9; exact hos9) rfl
                · by_cases h93 : S[p]'hp = 93
                  · have hx := h93
                    clear h47
                    clear h64
                    clear h40
                    clear h91
                    clear h93
                    have q47 : (((S[p]'hp).toNat : Int) == 47) = false := by rw [hx]; rfl
                    have q64 : (((S[p]'hp).toNat : Int) == 64) = false := by rw [hx]; rfl
                    have q40 : (((S[p]'hp).toNat : Int) == 40) = false := by rw [hx]; rfl
                    have q91 : (((S[p]'hp).toNat : Int) == 91) = false := by rw [hx]; rfl
                    have q93 : (((S[p]'hp).toNat : Int) == 93) = true := by rw [hx]; rfl
                    have q60 : (((S[p]'hp).toNat : Int) == 60) = false := by rw [hx]; rfl
                    have q62 : (((S[p]'hp).toNat : Int) == 62) = false := by rw [hx]; rfl
                    have HR1 : Hid (R = .ok (⟨7, 0, []⟩, 1)) := by unfold Hid; rw [← HR.out, hx]; exact one_93 _
                    clear HR hx
                    go_wp2_with fail
                    have hos9 := (HOc.out.kind 7).back
                    refine bodyPost_ret (v := .tuple #[tokV 7 0 ⟨#[]⟩ 0 0, .int .i64 0]) ?_ rfl ?_
                    · obtain ⟨⟨z0, z1, z2, z3, z4⟩, -⟩ := hos9.cells
                      have hz := hos9.lz
                      clear hos9 
                      generalize World.setCell _ _ _ = W at *
                      simp [results, Tryz.results90, go_sem, tokV, z0, z1, z2, z3, z4]
                    · exact one_ok (b := ⟨7, 0, []⟩) HR1.out (by rw [HP1.out] at hos9; exact hos9) rfl
                  · by_cases h60 : S[p]'hp = 60
                    · have hx := h60
                      clear h47
                      clear h64
                      clear h40
                      clear h91
                      clear h93
                      clear h60
                      have q47 : (((S[p]'hp).toNat : Int) == 47) = false := by rw [hx]; rfl
                      have q64 : (((S[p]'hp).toNat : Int) == 64) = false := by rw [hx]; rfl
                      have q40 : (((S[p]'hp).toNat : Int) == 40) = false := by rw [hx]; rfl
                      have q91 : (((S[p]'hp).toNat : Int) == 91) = false := by rw [hx]; rfl
                      have q93 : (((S[p]'hp).toNat : Int) == 93) = false := by rw [hx]; rfl
                      have q60 : (((S[p]'hp).toNat : Int) == 60) = true := by rw [hx]; rfl
                      have q62 : (((S[p]'hp).toNat : Int) == 62) = false := by rw [hx]; rfl
                      have HR2 : Hid (R = if dbl = true then .ok (⟨8, 0, []⟩, 2) else mapRes 3 (hex ((bys S).drop p1))) := by unfold Hid; rw [← HR.out, hx, HP1.out]; have hdb := HDb.out; rw [hx] at hdb; exact one_60b hdb
                      clear HR hx
                      cases dbl
                      · have HR3 : Hid (R = mapRes 3 (hex ((bys S).drop p1))) := HR2.out
                        have HCl : Hid (∀ W, Cu W cb S p1 → Calls Tryz.prog 110 #[.pointer (some ⟨cb, 0, none⟩)] W (TxtPost S cb p1 (hex ((bys S).drop p1)) W)) := fun W h => hex_str S cb p1 W h (by have := HP1.out; omega) hs
                        generalize hex ((bys S).drop p1) = xx at *
                        clear HR2
                        go_wp2_with fail
                        have hosd := HOc.out.kind 3
                        refine (HCl.out _ (hosd.cu _ rfl)).mono ?_
                        rintro e w2 hpost
                        obtain ⟨t5, rb, q5, rfl, hose, hx5⟩ := hosd.txt hpost
                        clear hosd hpost
                        clear t0 t1 t2 t3 t4 f0 f1 f2 f3 f4 tl c0 c1 cf cl
                        have HX5 := Lib.hid hx5
                        have HOe := Lib.hid hose
                        obtain ⟨tV, htV⟩ : ∃ tV : ByteArray, tV = ⟨t5.toArray⟩ := ⟨_, rfl⟩
                        rw [← htV]
                        have HtV := Lib.hid htV
                        clear hx5 htV
                        obtain ⟨⟨t0, t1, t2, t3, t4⟩, f0, f1, f2, f3, f4⟩ := hose.cells
                        have tl := hose.lz
                        clear hose
                        go_wp2_with fail
                        have hos9 := (HOe.out.text tV).back
                        refine bodyPost_ret (v := .tuple #[tokV 3 0 tV 0 0, .int .i64 rb]) ?_ rfl ?_
                        · obtain ⟨⟨z0, z1, z2, z3, z4⟩, -⟩ := hos9.cells
                          have hz := hos9.lz
                          clear hos9 
                          generalize World.setCell _ _ _ = W at *
                          simp [results, Tryz.results90, go_sem, tokV, z0, z1, z2, z3, z4]
                        · rw [HtV.out] at hos9 ⊢
                          exact one_txt HP1.out HR3.out HX5.out hos9
                      · have HR3 : Hid (R = .ok (⟨8, 0, []⟩, 2)) := HR2.out
                        clear HR2
                        go_upto_region 30 with (fail)
                        have hosd := HOc.out.next
                        clear t0 t1 t2 t3 t4 f0 f1 f2 f3 f4 tl c0 c1 cf cl
                        generalize wc.setCell ⟨cb, 1, none⟩ (.int .i64 ((p1 : Int) + 1)) = wd at *
                        have HOd := Lib.hid hosd
                        obtain ⟨⟨t0, t1, t2, t3, t4⟩, f0, f1, f2, f3, f4⟩ := hosd.cells
                        have tl := hosd.lz
                        obtain ⟨c0, c1, cf, cl⟩ := (hosd.cu _ rfl).cells
                        clear hosd
                        go_wp2_with fail
                        have hos9 := (HOd.out.kind 8).back
                        refine bodyPost_ret (v := .tuple #[tokV 8 0 ⟨#[]⟩ 0 0, .int .i64 0]) ?_ rfl ?_
                        · obtain ⟨⟨z0, z1, z2, z3, z4⟩, -⟩ := hos9.cells
                          have hz := hos9.lz
                          clear hos9 
                          generalize World.setCell _ _ _ = W at *
                          simp [results, Tryz.results90, go_sem, tokV, z0, z1, z2, z3, z4]
                        · exact one_ok (b := ⟨8, 0, []⟩) HR3.out (by rw [HP1.out] at hos9; exact hos9) rfl
                    · by_cases h62 : S[p]'hp = 62
                      · have hx := h62
                        clear h47
                        clear h64
                        clear h40
                        clear h91
                        clear h93
                        clear h60
                        clear h62
                        have q47 : (((S[p]'hp).toNat : Int) == 47) = false := by rw [hx]; rfl
                        have q64 : (((S[p]'hp).toNat : Int) == 64) = false := by rw [hx]; rfl
                        have q40 : (((S[p]'hp).toNat : Int) == 40) = false := by rw [hx]; rfl
                        have q91 : (((S[p]'hp).toNat : Int) == 91) = false := by rw [hx]; rfl
                        have q93 : (((S[p]'hp).toNat : Int) == 93) = false := by rw [hx]; rfl
                        have q60 : (((S[p]'hp).toNat : Int) == 60) = false := by rw [hx]; rfl
                        have q62 : (((S[p]'hp).toNat : Int) == 62) = true := by rw [hx]; rfl
                        have HR2 : Hid (R = if dbl = true then .ok (⟨9, 0, []⟩, 2) else .error 5) := by unfold Hid; rw [← HR.out, hx]; have hdb := HDb.out; rw [hx] at hdb; exact one_62b hdb
                        clear HR hx
                        cases dbl
                        · have HR3 : Hid (R = .error 5) := HR2.out
                          clear HR2
                          go_wp2_with fail
                          have hos9 := HOc.out.back
                          refine bodyPost_ret (v := .tuple #[tokV 0 0 ⟨#[]⟩ 0 0, .int .i64 5]) ?_ rfl ?_
                          · obtain ⟨⟨z0, z1, z2, z3, z4⟩, -⟩ := hos9.cells
                            have hz := hos9.lz
                            clear hos9 
                            generalize World.setCell _ _ _ = W at *
                            simp [results, Tryz.results90, go_sem, tokV, z0, z1, z2, z3, z4]
                          · exact one_bad HR3.out hos9 rfl
                        · have HR3 : Hid (R = .ok (⟨9, 0, []⟩, 2)) := HR2.out
                          clear HR2
                          go_upto_region 37 with (fail)
                          have hosd := HOc.out.next
                          clear t0 t1 t2 t3 t4 f0 f1 f2 f3 f4 tl c0 c1 cf cl
                          generalize wc.setCell ⟨cb, 1, none⟩ (.int .i64 ((p1 : Int) + 1)) = wd at *
                          have HOd := Lib.hid hosd
                          obtain ⟨⟨t0, t1, t2, t3, t4⟩, f0, f1, f2, f3, f4⟩ := hosd.cells
                          have tl := hosd.lz
                          obtain ⟨c0, c1, cf, cl⟩ := (hosd.cu _ rfl).cells
                          clear hosd
                          go_wp2_with fail
                          have hos9 := (HOd.out.kind 9).back
                          refine bodyPost_ret (v := .tuple #[tokV 9 0 ⟨#[]⟩ 0 0, .int .i64 0]) ?_ rfl ?_
                          · obtain ⟨⟨z0, z1, z2, z3, z4⟩, -⟩ := hos9.cells
                            have hz := hos9.lz
                            clear hos9 
                            generalize World.setCell _ _ _ = W at *
                            simp [results, Tryz.results90, go_sem, tokV, z0, z1, z2, z3, z4]
                          · exact one_ok (b := ⟨9, 0, []⟩) HR3.out (by rw [HP1.out] at hos9; exact hos9) rfl
                      · have HR1 : Hid (R = .error 5) := by unfold Hid; rw [← HR.out]; exact one_no HCa.out HRe.out h47 h64 h40 h91 h93 h60 h62
                        have q47 : (((S[p]'hp).toNat : Int) == 47) = false := bt_ne (S[p]'hp) 47 h47
                        have q64 : (((S[p]'hp).toNat : Int) == 64) = false := bt_ne (S[p]'hp) 64 h64
                        have q40 : (((S[p]'hp).toNat : Int) == 40) = false := bt_ne (S[p]'hp) 40 h40
                        have q91 : (((S[p]'hp).toNat : Int) == 91) = false := bt_ne (S[p]'hp) 91 h91
                        have q93 : (((S[p]'hp).toNat : Int) == 93) = false := bt_ne (S[p]'hp) 93 h93
                        have q60 : (((S[p]'hp).toNat : Int) == 60) = false := bt_ne (S[p]'hp) 60 h60
                        have q62 : (((S[p]'hp).toNat : Int) == 62) = false := bt_ne (S[p]'hp) 62 h62
                        clear HR h47 h64 h40 h91 h93 h60 h62
                        go_wp2_with fail
                        have hos9 := HOc.out.back
                        refine bodyPost_ret (v := .tuple #[tokV 0 0 ⟨#[]⟩ 0 0, .int .i64 5]) ?_ rfl ?_
                        · obtain ⟨⟨z0, z1, z2, z3, z4⟩, -⟩ := hos9.cells
                          have hz := hos9.lz
                          clear hos9 
                          generalize World.setCell _ _ _ = W at *
                          simp [results, Tryz.results90, go_sem, tokV, z0, z1, z2, z3, z4]
                        · exact one_bad HR1.out hos9 rfl
        · rw [hdg] at HDg
          clear hdg h43 h45
          rw [hreg] at HRg
          have hrun : run ((bys S).drop p) = S[p]'hp :: run ((bys S).drop (p + 1)) := by rw [HDr.out, run_step, if_pos hreg]
          have hrl2 : (run ((bys S).drop (p + 1))).length ≤ 100000 := Nat.le_trans (run_len _) hrl
          have HRn := Lib.hid fun W T k i t h => HRn.out W T p k i t h (by omega)
          have HR1 : Hid (R = mapTxt 5 (run ((bys S).drop p)).length (word (run ((bys S).drop p)))) := by
            unfold Hid
            rw [← HR.out, HDr.out]; exact one_reg hcase hreg
          have HIn := Lib.hid fun W => word_any (S[p]'hp :: run ((bys S).drop (p + 1))) W (by rw [List.length_cons]; have := run_len ((bys S).drop (p + 1)); have := List.length_drop (l := bys S) (i := p + 1); rw [bys_len] at this; omega)
          rw [← hrun] at HIn
          generalize run ((bys S).drop p) = rr at *
          obtain ⟨V, hV⟩ : ∃ V : ByteArray, V = ⟨rr.toArray⟩ := ⟨_, rfl⟩
          rw [← hV] at HIn HRn
          clear hrun hcase hreg hV HR HDr HHd
          obtain ⟨ra, rb, hre, hrx⟩ := word_two rr
          rw [hre] at HIn
          have HRx := Lib.hid hrx
          clear hre hrx
          obtain ⟨rV, hrV⟩ : ∃ rV : ByteArray, rV = ⟨ra.toArray⟩ := ⟨_, rfl⟩
          rw [← hrV] at HIn
          have HrV := Lib.hid hrV
          clear hrV
          go_enter Tryz.func90, Tryz.ntmps90
          go_wp2_with fail
          generalize w.alloc (.cells #[.int .i64 0, .int .i64 0, .string ⟨#[]⟩, .int .i64 0, .int .i64 0] 53) = w0 at *
          obtain ⟨c0, c1, cf, cl⟩ := (hos0.cu _ rfl).cells
          go_quiet (fail)
          have hosa := hos0.drewN nq
          clear hos0 c0 c1 cf cl
          generalize w0.drewN nq = wa at *
          obtain ⟨⟨t0, t1, t2, t3, t4⟩, f0, f1, f2, f3, f4⟩ := hosa.cells
          have tl := hosa.lz
          obtain ⟨c0, c1, cf, cl⟩ := (hosa.cu _ rfl).cells
          have HOa := Lib.hid hosa
          clear hosa
          go_wp2_with fail
          refine (HDg.out _).mono ?_
          rintro e w2 ⟨rfl, rfl⟩
          go_wp2_with fail
          refine (HRg.out _).mono ?_
          rintro e w2 ⟨rfl, rfl⟩
          go_wp2_with fail
          have hosb := HOa.out.kind 5
          refine (HRn.out _ _ _ _ _ hosb).mono ?_
          rintro e w2 ⟨rfl, hosc⟩
          clear hosb
          clear t0 t1 t2 t3 t4 f0 f1 f2 f3 f4 tl c0 c1 cf cl
          have HOc := Lib.hid hosc
          obtain ⟨⟨t0, t1, t2, t3, t4⟩, f0, f1, f2, f3, f4⟩ := hosc.cells
          have tl := hosc.lz
          clear hosc
          go_wp2_with fail
          refine (HIn.out _).mono ?_
          rintro e w3 ⟨rfl, rfl⟩
          go_wp2_with fail
          have hos9 := (HOc.out.text rV).back
          refine bodyPost_ret (v := .tuple #[tokV 5 0 rV 0 0, .int .i64 rb]) ?_ rfl ?_
          · obtain ⟨⟨z0, z1, z2, z3, z4⟩, -⟩ := hos9.cells
            have hz := hos9.lz
            clear hos9 
            generalize World.setCell _ _ _ = W at *
            simp [results, Tryz.results90, go_sem, tokV, z0, z1, z2, z3, z4]
          · rw [HrV.out] at hos9 ⊢
            exact one_wrd HR1.out HRx.out hos9
      · have hcase : (S[p]'hp == 43 || S[p]'hp == 45 || digit (S[p]'hp)) = true := by rw [hdg]; simp
        have hreg : regular (S[p]'hp) = true := digit_reg hdg
        rw [hdg] at HDg
        clear h43 h45 hdg
        have hrun : run ((bys S).drop p) = S[p]'hp :: run ((bys S).drop (p + 1)) := by rw [HDr.out, run_step, if_pos hreg]
        have hrl2 : (run ((bys S).drop (p + 1))).length ≤ 100000 := Nat.le_trans (run_len _) hrl
        have HRn := Lib.hid fun W T k i t h => HRn.out W T p k i t h (by omega)
        have HR1 : Hid (R = mapInt 1 (run ((bys S).drop p)).length (integer (run ((bys S).drop p)))) := by
          unfold Hid
          rw [← HR.out, HDr.out]; exact one_num hcase
        have HIn := Lib.hid fun W => integer_any (S[p]'hp) (run ((bys S).drop (p + 1))) W hrl2
        rw [← hrun] at HIn
        generalize run ((bys S).drop p) = rr at *
        obtain ⟨V, hV⟩ : ∃ V : ByteArray, V = ⟨rr.toArray⟩ := ⟨_, rfl⟩
        rw [← hV] at HIn HRn
        clear hrun hcase hreg hV HR HDr HHd
        obtain ⟨ra, rb, hre, hrx⟩ := int_two rr
        rw [hre] at HIn
        have HRx := Lib.hid hrx
        clear hre hrx
        go_enter Tryz.func90, Tryz.ntmps90
        go_wp2_with fail
        generalize w.alloc (.cells #[.int .i64 0, .int .i64 0, .string ⟨#[]⟩, .int .i64 0, .int .i64 0] 53) = w0 at *
        obtain ⟨c0, c1, cf, cl⟩ := (hos0.cu _ rfl).cells
        go_quiet (fail)
        have hosa := hos0.drewN nq
        clear hos0 c0 c1 cf cl
        generalize w0.drewN nq = wa at *
        obtain ⟨⟨t0, t1, t2, t3, t4⟩, f0, f1, f2, f3, f4⟩ := hosa.cells
        have tl := hosa.lz
        obtain ⟨c0, c1, cf, cl⟩ := (hosa.cu _ rfl).cells
        have HOa := Lib.hid hosa
        clear hosa
        go_wp2_with fail
        refine (HDg.out _).mono ?_
        rintro e w2 ⟨rfl, rfl⟩
        go_wp2_with fail
        have hosb := HOa.out.kind 1
        refine (HRn.out _ _ _ _ _ hosb).mono ?_
        rintro e w2 ⟨rfl, hosc⟩
        clear hosb
        clear t0 t1 t2 t3 t4 f0 f1 f2 f3 f4 tl c0 c1 cf cl
        have HOc := Lib.hid hosc
        obtain ⟨⟨t0, t1, t2, t3, t4⟩, f0, f1, f2, f3, f4⟩ := hosc.cells
        have tl := hosc.lz
        clear hosc
        go_wp2_with fail
        refine (HIn.out _).mono ?_
        rintro e w3 ⟨rfl, hb3⟩
        have hosd := HOc.out.calm hb3
        clear hb3
        clear t0 t1 t2 t3 t4 f0 f1 f2 f3 f4 tl
        have HOd := Lib.hid hosd
        obtain ⟨⟨t0, t1, t2, t3, t4⟩, f0, f1, f2, f3, f4⟩ := hosd.cells
        have tl := hosd.lz
        clear hosd
        go_wp2_with fail
        have hos9 := (HOd.out.int ra).back
        refine bodyPost_ret (v := .tuple #[tokV 1 ra ⟨#[]⟩ 0 0, .int .i64 rb]) ?_ rfl ?_
        · obtain ⟨⟨z0, z1, z2, z3, z4⟩, -⟩ := hos9.cells
          have hz := hos9.lz
          clear hos9 
          generalize World.setCell _ _ _ = W at *
          simp [results, Tryz.results90, go_sem, tokV, z0, z1, z2, z3, z4]
        · exact one_int HR1.out HRx.out hos9
end Go.Proofs.YthbdhijkdldmoaaGreatDoor
