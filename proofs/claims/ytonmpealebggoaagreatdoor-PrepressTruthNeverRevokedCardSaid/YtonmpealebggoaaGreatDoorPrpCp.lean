/- What the walk of compare keeps: a row of terms of the call's own; a condition's block. The walk of compare, the parser's reader of comparisons. -/
import Derived.Test.YtonmpealebggoaaGreatDoorPrpTm
import Derived.Test.YtonmpealebggoaaGreatDoorTailHeld
import Derived.Test.YtonmpealebggoaaGreatDoorPrpRul0
import Derived.Deep.DeepCutAuto
import Derived.Deep.CutBlock
namespace Go.Proofs.YtonmpealebggoaaGreatDoor
open Go.RowKit Pr
/-- A reader's answer: a condition, or its panic. -/
def CmPost (S : ByteArray) (K : Nat) (q : Option (Cd × St)) (w : World) (e : Ending) (w' : World) : Prop :=
  w.grownBy w' (some K) ∧ (∀ r, q = some r → ∃ v : V5, e = .returned v.val ∧ CdV (fun b => w.heap.size ≤ b) w' v r.1 ∧ PsM S K r.2 w') ∧ (q = none → PanE S e)
theorem FrS.own {R : Nat} {S : Nat → Prop} {w w' : World} {base n size : Nat} {e : TypeId} {v : Value} {xs : List Value} (h : FrS R S w w') (ho : w.ownsRow base e size v n xs) (hR : ∀ k, v.ownBlock = some k → k < R ∧ ¬ S k) : w'.ownsRow base e size v n xs := by
  rcases ho with ⟨hl, ho⟩
  refine ⟨hl, ?_⟩
  rcases ho with ho | ⟨g, cap, cur, rfl, hg, hh, r⟩
  · exact .inl ho
  · have := hR g rfl
    exact .inr ⟨g, cap, cur, rfl, hg, (h.block g this.1 this.2).trans hh, r⟩
/-- A row that was just laid. -/
theorem own_new {w : World} {g base : Nat} {e : TypeId} {xs : List Value} {size : Nat} (h : Blk w g e xs.toArray) (hg : base ≤ g) (hl : xs.length = size) : w.ownsRow base e size (.slice (some ⟨g, 0, none⟩) 1 1) 1 xs :=
  ⟨by omega, .inr ⟨g, 1, xs.toArray, rfl, hg, h, Nat.le_refl _, by simp [maxLen], by simp; omega, by rw [List.take_of_length_le (by simp; omega)]⟩⟩
abbrev B5 (w : World) (g : Nat) (v : V5) : Prop := Blk w g 25 #[v.k, v.t, v.c, v.n, v.d]
theorem b5c {w : World} {g : Nat} {v : V5} (h : B5 w g v) : w.cell? ⟨g, 0, none⟩ = some v.k ∧ w.cell? ⟨g, 1, none⟩ = some v.t ∧ w.cell? ⟨g, 2, none⟩ = some v.c ∧ w.cell? ⟨g, 3, none⟩ = some v.n ∧ w.cell? ⟨g, 4, none⟩ = some v.d := by
  refine ⟨?_, ?_, ?_, ?_, ?_⟩
  · simpa using Blk.cell h 0
  · simpa using Blk.cell h 1
  · simpa using Blk.cell h 2
  · simpa using Blk.cell h 3
  · simpa using Blk.cell h 4
theorem b5f {w : World} {g : Nat} {v : V5} (h : B5 w g v) : w.frozen? ⟨g, 0, none⟩ = false ∧ w.frozen? ⟨g, 1, none⟩ = false ∧ w.frozen? ⟨g, 2, none⟩ = false ∧ w.frozen? ⟨g, 3, none⟩ = false ∧ w.frozen? ⟨g, 4, none⟩ = false :=
  ⟨Blk.frozen h 0, Blk.frozen h 1, Blk.frozen h 2, Blk.frozen h 3, Blk.frozen h 4⟩
/-- A whole condition stored in block g. -/
abbrev put5 (w : World) (g : Nat) (u : V5) : World := ((((w.setCell ⟨g, 0, none⟩ u.k).setCell ⟨g, 1, none⟩ u.t).setCell ⟨g, 2, none⟩ u.c).setCell ⟨g, 3, none⟩ u.n).setCell ⟨g, 4, none⟩ u.d
theorem b5_put {w : World} {g : Nat} {v : V5} (h : B5 w g v) (u : V5) : B5 (put5 w g u) g u := by
  have := ((((Blk.put h 0 u.k).put 1 u.t).put 2 u.c).put 3 u.n).put 4 u.d
  simpa [B5, put5] using this
theorem put5_frs {R g : Nat} {T : Nat → Prop} {w w' : World} (h : FrS R T w w') (hg : R ≤ g ∨ T g) (u : V5) : FrS R T w (put5 w' g u) :=
  ((((FrS.put h (p := ⟨g, 0, none⟩) hg u.k).put (p := ⟨g, 1, none⟩) hg u.t).put (p := ⟨g, 2, none⟩) hg u.c).put (p := ⟨g, 3, none⟩) hg u.n).put (p := ⟨g, 4, none⟩) hg u.d
theorem FrS.psm {R K : Nat} {T : Nat → Prop} {w w' : World} {S : ByteArray} {s : St} (h : FrS R T w w') (hp : PsM S K s w) (hK : K < R) (hT : ¬ T K) : PsM S K s w' := hp.keep h.size (h.block K hK hT)
theorem FrS.cdv {R : Nat} {T P : Nat → Prop} {w w' : World} {v : V5} {o : Cd} (h : FrS R T w w') (hv : CdV P w v o) (hP : ∀ b, P b → b < w.heap.size → b < R ∧ ¬ T b) : CdV P w' v o := hv.keep h.size fun b hb hl => h.block b (hP b hb hl).1 (hP b hb hl).2
theorem eTm : ElemK Tryz.prog 22 80 (.agg #[.int .i64 0, .string ⟨#[]⟩]) 2 24 := ElemK.mk_ Tryz.underlying22 (by kernel_rfl) rfl
/-- A comparison out of a row of terms. -/
theorem cdv_cmp {w : World} {base B : Nat} {ts : List Tm} {v : Value} (h : w.ownsRow base 80 2 v ts.length (tcells ts)) (hB : B ≤ base) (hz : ∀ t ∈ ts, t.2.length ≤ 16) (c n : Int) :
    CdV (fun b => B ≤ b) w ⟨.int .i64 0, v, .int .i64 c, .int .i64 n, .slice none 0 0⟩ (.mk 0 ts c n []) :=
  CdV.mk 0 ts c n [] v _ [] ((SlM.of_own h).mono fun b _ hb => Nat.le_trans hB hb.2) (SlM.nil _ _) rfl (fun j hj => absurd hj (by simp)) (fun t ht => Nat.le_trans (hz t ht) (by decide)) (by unfold I64; omega)
theorem FrS.grownO {R : Nat} {S : Nat → Prop} {a w w' : World} {r : Option Nat} (h : FrS R S a w) (hg : w.grownBy w' r) (hR : R ≤ w.heap.size) (hv : ∀ k, r = some k → R ≤ k ∨ S k) : FrS R S a w' :=
  h.trans ⟨hg.os, hg.tape, hg.output, hg.size, fun k hk hs => hg.block k (by omega) fun e => by
    rcases hv k e.symm with h1 | h1
    · omega
    · exact hs h1⟩
theorem pTerms_step (k : Nat) (l : List Tm) (s : St) : pTerms (k + 1) l s = if s.1 = [43] ∨ s.1 = [45] then (match pTerm (if s.1 = [45] then -1 else 1) (lexW s.2) with
    | none => none
    | some (t, s2) => pTerms k (l ++ [t]) s2) else some (l, s) := rfl
theorem opV_idx (wd : Src) : Lib.idxOfS [⟨#[60]⟩, ⟨#[60, 61]⟩, ⟨#[61]⟩, ⟨#[33, 61]⟩, ⟨#[62, 61]⟩, ⟨#[62]⟩] (Bs wd) = opV wd := by
  have key : ∀ l : Src, ((⟨l.toArray⟩ : ByteArray) = Bs wd) = (wd = l) := fun l => propext ⟨fun h => by
    have := congrArg (fun x : ByteArray => x.data.toList) h
    simpa using this.symm, fun h => by rw [h]⟩
  have k0 := key [60]
  have k1 := key [60, 61]
  have k2 := key [61]
  have k3 := key [33, 61]
  have k4 := key [62, 61]
  have k5 := key [62]
  simp only [Lib.idxOfS, Lib.idxFromS, opV]
  simp only [k0, k1, k2, k3, k4, k5]
  rfl
end Go.Proofs.YtonmpealebggoaaGreatDoor
namespace Go.Proofs.YtonmpealebggoaaGreatDoor
open Go.RowKit Pr
theorem PsM.stlen {S : ByteArray} {K : Nat} {s : St} {w : World} (h : PsM S K s w) : stLen s ≤ S.size := by
  obtain ⟨a, hp, hr⟩ := h
  have h1 := hp.le
  have h2 := congrArg List.length hp.rs
  rw [List.length_drop] at h2
  unfold stLen
  simp at h1 h2
  omega
def lenOf (v : Value) : Nat := match v with | .slice _ n _ => n | _ => 0
/-- What stands where more terms are read: the result, the condition in block C, the terms so far, the parser. -/
structure CpI (S : ByteArray) (K C M : Nat) (R : Option (List Tm × St)) (w wq : World) (acc : List Tm) (s : St) (k : Nat) (A : Option Addr) (cc : Nat) : Prop where
  km : k + acc.length = M
  kl : stLen s < k
  res : pTerms k acc s = R
  ps : PsM S K s wq
  b1 : B5 wq C ⟨.int .i64 0, .slice A acc.length cc, .int .i64 0, .int .i64 0, .slice none 0 0⟩
  b0 : B5 wq w.heap.size ⟨.int .i64 0, .slice none 0 0, .int .i64 0, .int .i64 0, .slice none 0 0⟩
  own : wq.ownsRow (w.heap.size + 1) 80 2 (.slice A acc.length cc) acc.length (tcells acc)
  far : ∀ g, (Value.slice A acc.length cc).ownBlock = some g → g ≠ C
  fr : FrS w.heap.size (fun k => k = K) w wq
  tab : TabK K wq
  nm : ∀ t ∈ acc, t.2.length ≤ 16
/-- The same without the parser's state: what stays while the rest of a comparison is read. -/
structure CpJ (K C : Nat) (v : V5) (ts : List Tm) (w wq : World) : Prop where
  b1 : B5 wq C v
  b0 : B5 wq w.heap.size ⟨.int .i64 0, .slice none 0 0, .int .i64 0, .int .i64 0, .slice none 0 0⟩
  own : wq.ownsRow (w.heap.size + 1) 80 2 v.t ts.length (tcells ts)
  far : ∀ g, v.t.ownBlock = some g → g ≠ C
  fr : FrS w.heap.size (fun k => k = K) w wq
  tab : TabK K wq
  hC : w.heap.size + 1 ≤ C
  hK : K < w.heap.size
theorem CpJ.gr {K C : Nat} {v : V5} {ts : List Tm} {w wq w' : World} (h : CpJ K C v ts w wq) (hg : wq.grownBy w' (some K)) : CpJ K C v ts w w' := by
  have hC := h.hC
  have hK := h.hK
  have hs := h.fr.size
  have hf : FrS wq.heap.size (fun k => k = K) wq w' := ⟨hg.os, hg.tape, hg.output, hg.size, fun k hk hn => hg.block k hk (by simp; exact hn)⟩
  exact ⟨hf.blk h.b1 h.b1.lt (by omega), hf.blk h.b0 h.b0.lt (by omega), hf.own h.own (fun g hg => by have := own_lt h.own g hg; omega), h.far, h.fr.grown hg hs (.inr rfl), hf.tab (by omega) (fun k e => by omega) h.tab, hC, hK⟩
theorem CpJ.put {K C : Nat} {v v' : V5} {ts : List Tm} {w wq : World} (h : CpJ K C v ts w wq) (i : Nat) (u : Value) (hb : B5 (wq.setCell ⟨C, i, none⟩ u) C v') (ht : v'.t = v.t) : CpJ K C v' ts w (wq.setCell ⟨C, i, none⟩ u) := by
  have hC := h.hC
  have hK := h.hK
  have hs := h.fr.size
  have hf : FrS wq.heap.size (fun k => k = C) wq (wq.setCell ⟨C, i, none⟩ u) := FrS.put (p := ⟨C, i, none⟩) (FrS.refl wq.heap.size (fun k => k = C) wq) (.inr rfl) u
  exact ⟨hb, hf.blk h.b0 h.b0.lt (by omega), by rw [ht]; exact own_setCell h.own (.inr fun e => h.far _ e rfl) u, by rw [ht]; exact h.far, h.fr.put (p := ⟨C, i, none⟩) (.inl (by show w.heap.size ≤ C; omega)) u, hf.tab (by omega) (fun k e => by omega) h.tab, hC, hK⟩
theorem psm_put {S : ByteArray} {K C : Nat} {s : St} {wq : World} (h : PsM S K s wq) (hK : K < C) (i : Nat) (u : Value) : PsM S K s (wq.setCell ⟨C, i, none⟩ u) := h.far (p := ⟨C, i, none⟩) (by show K ≠ C; omega) u
abbrev zero5 : V5 := ⟨.int .i64 0, .slice none 0 0, .int .i64 0, .int .i64 0, .slice none 0 0⟩
set_option maxRecDepth 100000 in
set_option maxHeartbeats 8000000 in
theorem cmpP_any (S : ByteArray) (K : Nat) (s : St) (w : World) (h : PsM S K s w) (hs : S.size ≤ 4096) (hT : TabK K w) :
    Calls Tryz.prog 45 #[.pointer (some ⟨K, 0, none⟩)] w (CmPost S K (pCompare s) w) := by
  have hl := h.lt
  have HQ : Hid (pCompare s = match pTerm (pSign s).1 (pSign s).2 with
    | none => none
    | some (t, s2) => match pTerms (s2.1.length + s2.2.length + 1) [t] s2 with
      | none => none
      | some (l, s3) => if opV s3.1 < 0 then none else
        match pNum 2147483648 (pSign (lexW s3.2)).2 with
        | none => none
        | some (n, s5) => some (.mk 0 l (opV s3.1) ((pSign (lexW s3.2)).1 * n) [], s5)) := rfl
  generalize pCompare s = Q at *
  have HF := Lib.hid ((FrS.refl w.heap.size (fun k => k = K) w).alloc (Nat.le_refl _) (.cells #[.int .i64 0, .slice none 0 0, .int .i64 0, .int .i64 0, .slice none 0 0] 25))
  have HR := Lib.hid (Blk.new w 25 #[.int .i64 0, .slice none 0 0, .int .i64 0, .int .i64 0, .slice none 0 0])
  have HT := Lib.hid (HF.out.tab (K := K) (Nat.le_of_lt hl) (fun k e => by omega) hT)
  have HSg := Lib.hid (sign_any S K s _ (h.alloc (.cells #[.int .i64 0, .slice none 0 0, .int .i64 0, .int .i64 0, .slice none 0 0] 25)) hs)
  have HSv := Lib.hid (pSign_val s)
  clear h hT
  go_enter Tryz.func45, Tryz.ntmps45
  go_wp2_with fail
  refine HSg.out.mono ?_
  rintro e w2 ⟨rfl, hp, hg⟩
  have HF2 := Lib.hid (HF.out.grown hg (by simp) (.inr rfl))
  have HR2 := Lib.hid (HR.out.gr hg (by omega))
  have HT2 := Lib.hid (HT.out.below ⟨hg.os, hg.tape, hg.output, hg.size, fun k hk => hg.block k (by simp; omega) (by simp; omega)⟩)
  have HTm := Lib.hid (term_any S K (pSign s).2 (pSign s).1 HSv.out w2 hp hs HT2.out)
  clear hp hg HSg HF HR HT
  generalize (pSign s).1 = sg at *
  generalize (pSign s).2 = s1 at *
  go_wp2_with fail
  refine HTm.out.mono ?_
  rintro e w3 ⟨hg, hq, hp⟩
  have HF3 := Lib.hid (HF2.out.grown hg HF2.out.size (.inr rfl))
  have HR3 := Lib.hid (HR2.out.gr hg (by omega))
  have HT3 := Lib.hid (HT2.out.below ⟨hg.os, hg.tape, hg.output, hg.size, fun k hk => hg.block k (by have := HF2.out.size; omega) (by simp; omega)⟩)
  clear hg HTm HF2 HR2 HT2
  cases ht : pTerm sg s1 with
  | none =>
    obtain ⟨a2, ha2, rfl⟩ := hp ht
    have HQn := Lib.hid (show Q = none by rw [HQ.out, ht])
    clear hp hq ht
    go_wp2_with fail
    exact ⟨rfl, HF3.out.to fun _ h => h, fun r hr => (by rw [HQn.out] at hr; cases hr), fun _ => ⟨a2, ha2, rfl⟩⟩
  | some x =>
    obtain ⟨t0, s2⟩ := x
    obtain ⟨rfl, hps⟩ := hq _ ht
    have HQ2 := Lib.hid (show Q = match pTerms (stLen s2 + 1) [t0] s2 with
      | none => none
      | some (l, s3) => if opV s3.1 < 0 then none else
        match pNum 2147483648 (pSign (lexW s3.2)).2 with
        | none => none
        | some (n, s5) => some (.mk 0 l (opV s3.1) ((pSign (lexW s3.2)).1 * n) [], s5) by rw [HQ.out, ht]; rfl)
    have ht16 := (pTerm_len ht).2
    have HPs := Lib.hid hps
    clear hp hq ht HQ hps
    dsimp only at *
    go_wp2_with fail
    have HI : Hid (CpI S K (w3.heap.size + 1) (stLen s2 + 2) (pTerms (stLen s2 + 1) [t0] s2) w ((w3.alloc (.cells #[.int .i64 t0.1, .string (Bs t0.2)] 80)).alloc (.cells #[.int .i64 0, .slice (some ⟨w3.heap.size, 0, none⟩) 1 1, .int .i64 0, .int .i64 0, .slice none 0 0] 25)) [t0] s2 (stLen s2 + 1) (some ⟨w3.heap.size, 0, none⟩) 1) := by
      have hsz := HF3.out.size
      have hlt := HR3.out.lt
      refine ⟨rfl, Nat.lt_succ_self _, rfl, (HPs.out.alloc _).alloc _, ?_, (HR3.out.alloc _).alloc _, own_new (((Blk.new w3 80 #[.int .i64 t0.1, .string (Bs t0.2)])).alloc _) (by omega) rfl, fun g hg => ?_, (HF3.out.alloc (by omega) _).alloc (by simp; omega) _, ?_, fun t ht => ?_⟩
      · have := Blk.new (w3.alloc (.cells #[.int .i64 t0.1, .string (Bs t0.2)] 80)) 25 #[.int .i64 0, .slice (some ⟨w3.heap.size, 0, none⟩) 1 1, .int .i64 0, .int .i64 0, .slice none 0 0]
        rwa [show (w3.alloc (.cells #[.int .i64 t0.1, .string (Bs t0.2)] 80)).heap.size = w3.heap.size + 1 by simp] at this
      · injection hg with hg; dsimp only at hg; omega
      · exact HT3.out.below (((Below.refl K w3).alloc (by omega) _).alloc (by simp; omega) _)
      · obtain rfl : t = t0 := by simpa using ht
        exact ht16
    have hM := HPs.out.stlen
    have hC : w.heap.size + 1 ≤ w3.heap.size + 1 := by have := HF3.out.size; omega
    generalize (w3.alloc (.cells #[.int .i64 t0.1, .string (Bs t0.2)] 80)).alloc (.cells #[.int .i64 0, .slice (some ⟨w3.heap.size, 0, none⟩) 1 1, .int .i64 0, .int .i64 0, .slice none 0 0] 25) = w4 at *
    generalize w3.heap.size + 1 = C at *
    have hM2 : stLen s2 + 2 ≤ 4098 := by omega
    generalize stLen s2 + 2 = M at *
    generalize pTerms (stLen s2 + 1) [t0] s2 = R at *
    clear HF3 HR3 HT3 HPs hM
    go_loopw [4] (fun _ wq => True ∧ ∃ acc s k A cc, CpI S K C M R w wq acc s k A cc) (fun _ wq => 4098 - lenOf ((wq.cell? ⟨C, 1, none⟩).getD .nilIface))
    case atStart => exact ⟨trivial, _, _, _, _, _, HI.out⟩
    case round =>
      obtain ⟨-, acc, s, k, A, cc, hi⟩ := hrel
      have HIi := Lib.hid hi
      obtain ⟨a1, ha1, q0, q1, q2⟩ := hi.ps.opens
      have hlk := hi.ps.lt
      have hcell := (b5_cells hi.b1).2.1
      have hkl := hi.kl
      have hkm := hi.km
      obtain ⟨k, rfl⟩ : ∃ k', k = k' + 1 := ⟨k - 1, by omega⟩
      have HRes : Hid (R = if s.1 = [43] ∨ s.1 = [45] then (match pTerm (if s.1 = [45] then -1 else 1) (lexW s.2) with
        | none => none
        | some (t, s2) => pTerms k (acc ++ [t]) s2) else some (acc, s)) := by rw [← hi.res]; exact pTerms_step k acc s
      have HNx := Lib.hid (hi.ps.next hs)
      clear hi
      by_cases hp : s.1 = [43] ∨ s.1 = [45]
      · have hsl : stLen (lexW s.2) < stLen s := step_len (by rcases hp with hp | hp <;> rw [hp] <;> simp)
        have HRp := Lib.hid (show R = match pTerm (if s.1 = [45] then -1 else 1) (lexW s.2) with
          | none => none
          | some (t, s2) => pTerms k (acc ++ [t]) s2 by rw [HRes.out, if_pos hp])
        clear HRes
        rcases hp with hp | hp
        case' inl =>
          have u1 : ((Bs s.1).toList == [43]) = true := by rw [hp, Lib.toList_data]; decide
          have u2 : ((Bs s.1).toList == [45]) = false := by rw [hp, Lib.toList_data]; decide
          obtain ⟨sgv, hsv, hsg⟩ : ∃ v : Int, (if s.1 = [45] then (-1 : Int) else 1) = v ∧ (v = 1) := ⟨_, rfl, by rw [hp]; decide⟩
        case' inr =>
          have u1 : ((Bs s.1).toList == [43]) = false := by rw [hp, Lib.toList_data]; decide
          have u2 : ((Bs s.1).toList == [45]) = true := by rw [hp, Lib.toList_data]; decide
          obtain ⟨sgv, hsv, hsg⟩ : ∃ v : Int, (if s.1 = [45] then (-1 : Int) else 1) = v ∧ (v = -1) := ⟨_, rfl, by rw [hp]; decide⟩
        all_goals
          rw [hsv] at HRp
          have hsg' : sgv = 1 ∨ sgv = -1 := by omega
          generalize Bs s.1 = WD at *
          clear hsv hp
          go_wp2_with fail
          refine HNx.out.mono ?_
          rintro e w5 ⟨rfl, hps, hg⟩
          have hdsz := HIi.out.fr.size
          have hB15 := HIi.out.b1.gr hg (by omega)
          have HB15 := Lib.hid hB15
          have HB05 := Lib.hid (HIi.out.b0.gr hg (by omega))
          have HO5 := Lib.hid (FrS.own (R := wr.heap.size) (S := fun k => k = K) ⟨hg.os, hg.tape, hg.output, hg.size, fun k hk hn => hg.block k hk (by simp; exact hn)⟩ HIi.out.own (fun g hg => by have := own_lt HIi.out.own g hg; omega))
          have HF5 := Lib.hid (HIi.out.fr.grown hg HIi.out.fr.size (.inr rfl))
          have HT5 := Lib.hid (HIi.out.tab.below ⟨hg.os, hg.tape, hg.output, hg.size, fun k hk => hg.block k (by omega) (by simp; omega)⟩)
          have hs5 := hg.size
          have x4 := (b5_cells hB15).2.1
          have HTm := Lib.hid (term_any S K (lexW s.2) sgv hsg' w5.drew hps.drew hs (HT5.out.below (Below.refl _ _).drew))
          have HLen : Hid (∀ r, pTerm sgv (lexW s.2) = some r → stLen r.2 < stLen (lexW s.2) ∧ r.1.2.length ≤ 16) := fun r hr => pTerm_len hr
          generalize pTerm sgv (lexW s.2) = PT at *
          subst hsg
          have hS0 : (fun w' : World => w'.cell? ⟨C, 1, none⟩ = some (.slice A acc.length cc)) w5.drew := x4
          clear hB15 hg hps
          go_wp2_with fail
          refine wp_region_tail (fun w' => w'.cell? ⟨C, 1, none⟩ = some (.slice A acc.length cc)) 6 (by kernel_rfl) (by kernel_rfl) hS0 (fun hHeld => ?_)
          refine wpAnyD_take 0 (v := ?_) rfl (by kernel_rfl) (by kernel_rfl) (by kernel_rfl) (fun _ _ _ h => h) hHeld (Or.inl ⟨by rfl, ?_⟩) ?_
          rotate_left
          · intro w' hw'; go_simp; try with_reducible rfl
          try simp only [Act.put, List.setIfInBounds_toArray, List.set_cons_zero, List.set_cons_succ]
          refine wpAnyD_take 1 (v := ?_) rfl (by kernel_rfl) (by kernel_rfl) (by kernel_rfl) (fun _ _ _ h => h) hHeld (Or.inl ⟨by rfl, ?_⟩) ?_
          rotate_left
          · intro w' hw'; go_simp; try with_reducible rfl
          try simp only [Act.put, List.setIfInBounds_toArray, List.set_cons_zero, List.set_cons_succ]
          refine wpAnyD_take 2 (v := ?_) rfl (by kernel_rfl) (by kernel_rfl) (by kernel_rfl) (fun _ _ _ h => h) hHeld (Or.inl ⟨by rfl, ?_⟩) ?_
          rotate_left
          · intro w' hw'; go_simp; try with_reducible rfl
          try simp only [Act.put, List.setIfInBounds_toArray, List.set_cons_zero, List.set_cons_succ]
          refine wpAnyD_take 3 (v := ?_) rfl (by kernel_rfl) (by kernel_rfl) (by kernel_rfl) (fun _ _ _ h => h) hHeld (Or.inl ⟨by rfl, ?_⟩) ?_
          rotate_left
          · intro w' hw'; go_simp; try with_reducible rfl
          try simp only [Act.put, List.setIfInBounds_toArray, List.set_cons_zero, List.set_cons_succ]
          refine wpAnyD_ready [4] (by kernel_rfl) ?_
          refine AllReadyD.cons rfl (fun KK hK => ?_) AllReadyD.nil
          go_simp
          refine HTm.out.mono ?_
          rintro e w9 ⟨hg9, hq, hp⟩
          have HF9 : Hid (FrS w5.heap.size (fun k => k = K) w5 w9) := ⟨hg9.os, hg9.tape, hg9.output, hg9.size, fun k hk hn => hg9.block k hk (by simp; exact hn)⟩
          have hs9 : w5.heap.size ≤ w9.heap.size := HF9.out.size
          have HFw9 := Lib.hid (HF5.out.trans (HF9.out.weak (by omega) fun _ _ h => h))
          have HT9 := Lib.hid (HF9.out.tab (K := K) (by omega) (fun k e => by omega) HT5.out)
          cases ht : PT with
          | none =>
            obtain ⟨a2, ha2, rfl⟩ := hp ht
            have HQn := Lib.hid (show Q = none by rw [HQ2.out, HRp.out, ht])
            exact ⟨rfl, HFw9.out.to fun _ h => h, fun r hr => (by rw [HQn.out] at hr; cases hr), fun _ => ⟨a2, ha2, rfl⟩⟩
          | some x =>
            obtain ⟨t, s6⟩ := x
            obtain ⟨rfl, hps⟩ := hq _ ht
            have HR6 := Lib.hid (show R = pTerms k (acc ++ [t]) s6 by rw [HRp.out, ht])
            have ht16 := (HLen.out _ ht).2
            have hl6 := (HLen.out _ ht).1
            have HPs9 := Lib.hid hps
            have HB19 := Lib.hid (HF9.out.blk HB15.out (by have := HB15.out.lt; omega) (by omega))
            have HB09 := Lib.hid (HF9.out.blk HB05.out (by have := HB05.out.lt; omega) (by omega))
            have HO9 := Lib.hid (HF9.out.own HO5.out (fun g hg => by have := own_lt HO5.out g hg; omega))
            have hg9' : (fun w' : World => w'.cell? ⟨C, 1, none⟩ = some (.slice A acc.length cc)) w9 := by
              have hh := (b5_cells HB19.out).2.1
              exact hh
            clear hp hq ht hps hg9
            dsimp only at *
            refine hK.out _ _ hg9' (fun hHeld => ?_)
            refine wpAnyD_ready [5] (by kernel_rfl) ?_
            refine AllReadyD.cons rfl (fun KK hK => ?_) AllReadyD.nil
            go_simp
            have hg10 : (fun w' : World => w'.cell? ⟨C, 1, none⟩ = some (.slice A acc.length cc)) (w9.alloc (.cells #[.int .i64 t.1, .string (Bs t.2)] 80)) := by
              have hh := (b5_cells (HB19.out.alloc (.cells #[.int .i64 t.1, .string (Bs t.2)] 80))).2.1
              exact hh
            refine hK.out _ _ hg10 (fun hHeld => ?_)
            refine wpAnyD_done (by kernel_rfl) ?_
            simp only [List.drop_succ_cons, List.drop_zero]
            have HOb := Lib.hid (own_below HO9.out ((Below.refl w9.heap.size w9).alloc (Nat.le_refl _) (.cells #[.int .i64 t.1, .string (Bs t.2)] 80)))
            have HOl : Hid (∀ g, (Value.slice A acc.length cc).ownBlock = some g → g ≠ C ∧ w.heap.size + 1 ≤ g) := fun g hg => ⟨HIi.out.far g hg, (own_lt HO9.out g hg).1⟩
            have hCl : C < w9.heap.size := HB19.out.lt
            clear hg9' hg10 hHeld hK hS0 x4
            go_wp2_with (at_builtin; go_must (refine wpList_pushk eTm rfl (.tmp 32) (.tmp 36) rfl (w.heap.size + 1) (.slice A acc.length cc) acc.length _ rfl HOb.out ⟨w9.heap.size, 0, none⟩ 1 [.int .i64 t.1, .string (Bs t.2)] rfl rfl (news_new _ _ _ _ rfl) (by simp [Value.oneCell']) (by omega) (by omega) (by omega) (by simp; omega) ?_); go_must (intro v' w11 hown11 hgr11 hk11; have HO11 := Lib.hid hown11; have HK11 := Lib.hid hk11; have HGr11 := Lib.hid hgr11; have hgk := ((HB19.out.alloc (.cells #[.int .i64 t.1, .string (Bs t.2)] 80)).grown hgr11 (fun e => (HOl.out _ e.symm).1 rfl)); have h1 := hgk.cell 1; have h1f := hgk.frozen 1; simp at h1; obtain ⟨A11, c11, rfl⟩ := own_form hown11; have HGk2 := Lib.hid (hgk.put 1 (.slice A11 (acc.length + 1) c11)); clear hown11 hgr11 hk11 hgk))
            have hga : FrS w9.heap.size (fun k => w.heap.size + 1 ≤ k) w9 (w11.setCell ⟨C, 1, none⟩ (.slice A11 (acc.length + 1) c11)) := (((FrS.refl _ _ _).alloc (Nat.le_refl _) _).grownO HGr11.out (by simp) fun k hk => .inr (HOl.out k hk).2).put (p := ⟨C, 1, none⟩) (.inr hC) _
            have hfar : ∀ g, (Value.slice A11 (acc.length + 1) c11).ownBlock = some g → g ≠ C := fun g hg => by
              rcases HK11.out with e | e
              · exact (HOl.out g (e ▸ hg)).1
              · rw [e] at hg; injection hg with hg; simp at hg; omega
            have hlen : (acc ++ [t]).length = acc.length + 1 := by simp
            refine ⟨⟨trivial, acc ++ [t], s6, k, A11, c11, ?_⟩, ?_⟩
            · refine ⟨by rw [hlen]; omega, by omega, HR6.out.symm, hga.psm HPs9.out (by omega) (by omega), ?_, hga.blk HB09.out HB09.out.lt (by omega), ?_, by rw [hlen]; exact hfar, HFw9.out.trans (hga.weak (by omega) fun k h1 h2 => by omega), hga.tab (by omega) (fun k h => by omega) HT9.out, fun x hx => ?_⟩
              · rw [hlen]; have := HGk2.out; simpa [B5] using this
              · rw [hlen, tcells_snoc]
                exact own_setCell HO11.out (.inr fun e => hfar _ e rfl) _
              · rcases List.mem_append.1 hx with hx | hx
                · exact HIi.out.nm x hx
                · obtain rfl : x = t := by simpa using hx
                  exact ht16
            · have hz := Blk.cell HGk2.out 1
              simp at hz
              rw [hz, hcell]
              simp [lenOf]; omega
      · have hp1 : s.1 ≠ [43] := fun h => hp (.inl h)
        have hp2 : s.1 ≠ [45] := fun h => hp (.inr h)
        have u1 : ((Bs s.1).toList == [43]) = false := by rw [Lib.toList_data]; simpa using hp1
        have u2 : ((Bs s.1).toList == [45]) = false := by rw [Lib.toList_data]; simpa using hp2
        have HRn := Lib.hid (show R = some (acc, s) by rw [HRes.out, if_neg hp])
        generalize hWD : Bs s.1 = WD at *
        have HWD := Lib.hid hWD
        clear HRes hp hp1 hp2 hWD
        have HIx : Hid (∀ W : World, Calls Tryz.prog 72 #[.slice (some ⟨W.heap.size, 0, none⟩) 6 6, .string WD] (W.alloc (.cells opCells 9)) fun e w' => e = .returned (.int .i64 (opV s.1)) ∧ w' = W.alloc (.cells opCells 9)) := by
          intro W
          refine (slices_Index_string W.heap.size 0 6 6 [⟨#[60]⟩, ⟨#[60, 61]⟩, ⟨#[61]⟩, ⟨#[33, 61]⟩, ⟨#[62, 61]⟩, ⟨#[62]⟩] WD _ (by decide) (by decide) (fun j hj => ?_)).mono ?_
          · rw [Nat.zero_add, Blk.cell (Blk.new W 9 opCells) j]
            match j, hj with
            | 0, _ => rfl
            | 1, _ => rfl
            | 2, _ => rfl
            | 3, _ => rfl
            | 4, _ => rfl
            | 5, _ => rfl
          · rintro e w' ⟨h1, h2⟩
            refine ⟨?_, h2⟩
            rw [h1, ← opV_idx, HWD.out]
            rfl
        go_wp2_with fail
        have hS0 : (fun w' : World => w'.cell? ⟨K, 2, none⟩ = some (.string WD)) wr.drew := q2
        refine wp_region_tail (fun w' => w'.cell? ⟨K, 2, none⟩ = some (.string WD)) 5 (by kernel_rfl) (by kernel_rfl) hS0 (fun hHeld => ?_)
        refine wpAnyD_take 1 (v := ?_) rfl (by kernel_rfl) (by kernel_rfl) (by kernel_rfl) (fun _ _ _ h => h) hHeld (Or.inl ⟨by rfl, ?_⟩) ?_
        rotate_left
        · intro w' hw'; go_simp; try with_reducible rfl
        try simp only [Act.put, List.setIfInBounds_toArray, List.set_cons_zero, List.set_cons_succ]
        refine wpAnyD_take 2 (v := ?_) rfl (by kernel_rfl) (by kernel_rfl) (by kernel_rfl) (fun _ _ _ h => h) hHeld (Or.inl ⟨by rfl, ?_⟩) ?_
        rotate_left
        · intro w' hw'; go_simp; try with_reducible rfl
        try simp only [Act.put, List.setIfInBounds_toArray, List.set_cons_zero, List.set_cons_succ]
        refine wpAnyD_take 3 (v := ?_) rfl (by kernel_rfl) (by kernel_rfl) (by kernel_rfl) (fun _ _ _ h => h) hHeld (Or.inl ⟨by rfl, ?_⟩) ?_
        rotate_left
        · intro w' hw'; go_simp; try with_reducible rfl
        try simp only [Act.put, List.setIfInBounds_toArray, List.set_cons_zero, List.set_cons_succ]
        refine wpAnyD_take 4 (v := ?_) rfl (by kernel_rfl) (by kernel_rfl) (by kernel_rfl) (fun _ _ _ h => h) hHeld (Or.inl ⟨by rfl, ?_⟩) ?_
        rotate_left
        · intro w' hw'; go_simp; try with_reducible rfl
        try simp only [Act.put, List.setIfInBounds_toArray, List.set_cons_zero, List.set_cons_succ]
        refine wpAnyD_ready [0] (by kernel_rfl) ?_
        refine AllReadyD.cons rfl (fun KK hK => ?_) AllReadyD.nil
        go_simp
        refine (comparisons_any _).mono ?_
        rintro e w6 ⟨rfl, rfl⟩
        have hg10 : (fun w' : World => w'.cell? ⟨K, 2, none⟩ = some (.string WD)) (wr.drew.alloc (.cells opCells 9)) := (((Below.refl wr.heap.size wr.drew).alloc (Nat.le_refl _) _).cell (p := ⟨K, 2, none⟩) hlk).trans q2
        refine hK.out _ _ hg10 (fun hHeld => ?_)
        refine wpAnyD_done (by kernel_rfl) ?_
        simp only [List.drop_succ_cons, List.drop_zero]
        clear hg10 hHeld hK hS0
        have hbw : Below wr.heap.size wr (wr.drew.alloc (.cells opCells 9)) := (Below.refl wr.heap.size wr).drew.alloc (by simp) _
        have HP6 := Lib.hid (HIi.out.ps.later hbw)
        have hlc := HIi.out.b1.lt
        have hl0 := HIi.out.b0.lt
        have HB16 := Lib.hid (HIi.out.b1.below hbw hlc)
        have HB06 := Lib.hid (HIi.out.b0.below hbw hl0)
        have HO6 := Lib.hid (own_below HIi.out.own hbw)
        have HF6 := Lib.hid (HIi.out.fr.trans (FrS.of_below hbw HIi.out.fr.size))
        have HT6 := Lib.hid (HIi.out.tab.below (hbw.mono (by omega)))
        have hl6 : K < (wr.drew.alloc (.cells opCells 9)).heap.size := Nat.lt_of_lt_of_le hlk hbw.size
        have HIx6 := Lib.hid (HIx.out wr.drew)
        have HQ3 := Lib.hid (show Q = if opV s.1 < 0 then none else
          match pNum 2147483648 (pSign (lexW s.2)).2 with
          | none => none
          | some (n, s5) => some (.mk 0 acc (opV s.1) ((pSign (lexW s.2)).1 * n) [], s5) by rw [HQ2.out, HRn.out])
        have hfarC := HIi.out.far
        have HNm := Lib.hid HIi.out.nm
        have q1' := (hbw.cell (p := ⟨K, 1, none⟩) hlk).trans q1
        have hKC : K < C := by omega
        clear hbw HIx q0 q1 q2 hcell HNx HIi hlk hlc hl0 HQ2 HRn hkm hkl
        generalize hw6 : wr.drew.alloc (.cells opCells 9) = w6 at *
        clear hw6
        go_wp2_with fail
        refine HIx6.out.mono ?_
        rintro e w7 ⟨rfl, rfl⟩
        obtain ⟨x0, x1, x2, x3, x4⟩ := b5_cells HB16.out
        have xf2 := Blk.frozen HB16.out 2
        have xl := HB16.out.lt
        generalize hov : opV s.1 = ov at *
        by_cases ho : ov < 0
        · have u3 : decide (ov < 0) = true := by simpa using ho
          have HQn := Lib.hid (show Q = none by rw [HQ3.out, if_pos ho])
          go_wp2_with fail
          refine ⟨rfl, (HF6.out.put (p := ⟨C, 2, none⟩) (.inl (by show w.heap.size ≤ C; omega)) _).to fun _ h => h, fun r hr => (by rw [HQn.out] at hr; cases hr), fun _ => ⟨a1, ha1, rfl⟩⟩
        · have u3 : decide (ov < 0) = false := by simpa using ho
          have HQ4 := Lib.hid (show Q = match pNum 2147483648 (pSign (lexW s.2)).2 with
            | none => none
            | some (n, s5) => some (.mk 0 acc ov ((pSign (lexW s.2)).1 * n) [], s5) by rw [HQ3.out, if_neg ho])
          have HJ7 : Hid (CpJ K C ⟨.int .i64 0, .slice A acc.length cc, .int .i64 ov, .int .i64 0, .slice none 0 0⟩ acc w (w7.setCell ⟨C, 2, none⟩ (.int .i64 ov))) := by
            have hJ6 : CpJ K C ⟨.int .i64 0, .slice A acc.length cc, .int .i64 0, .int .i64 0, .slice none 0 0⟩ acc w w7 := ⟨HB16.out, HB06.out, HO6.out, hfarC, HF6.out, HT6.out, hC, hl⟩
            have hb := Blk.put HB16.out 2 (.int .i64 ov)
            exact hJ6.put 2 _ (by simpa [B5] using hb) rfl
          have HNx7 := Lib.hid ((psm_put HP6.out hKC 2 (.int .i64 ov)).next hs)
          clear HQ3 HP6 HB16 HB06 HO6 HF6 HT6 hfarC
          go_wp2_with fail
          refine HNx7.out.mono ?_
          rintro e w8 ⟨rfl, hp8, hg8⟩
          have HJ8 := Lib.hid (HJ7.out.gr hg8)
          have HSg8 := Lib.hid (sign_any S K (lexW s.2) w8 hp8 hs)
          have HSv8 := Lib.hid (pSign_val (lexW s.2))
          clear hp8 hg8 HJ7 HNx7 x0 x1 x2 x3 x4 xf2 xl
          generalize (pSign (lexW s.2)).1 = sg8 at *
          generalize (pSign (lexW s.2)).2 = s8 at *
          go_wp2_with fail
          refine HSg8.out.mono ?_
          rintro e w9 ⟨rfl, hp9, hg9⟩
          have HJ9 := Lib.hid (HJ8.out.gr hg9)
          have HNu9 := Lib.hid (number_any S K s8 2147483648 w9 hp9 hs HJ9.out.tab)
          clear hp9 hg9 HJ8 HSg8
          go_wp2_with fail
          refine HNu9.out.mono ?_
          rintro e w10 ⟨hg10, hq, hp⟩
          have HJ10 := Lib.hid (HJ9.out.gr hg10)
          clear hg10 HJ9 HNu9
          cases hn : pNum 2147483648 s8 with
          | none =>
            obtain ⟨a2, ha2, rfl⟩ := hp hn
            have HQn := Lib.hid (show Q = none by rw [HQ4.out, hn])
            clear hp hq hn
            go_wp2_with fail
            exact ⟨rfl, HJ10.out.fr.to fun _ h => h, fun r hr => (by rw [HQn.out] at hr; cases hr), fun _ => ⟨a2, ha2, rfl⟩⟩
          | some x =>
            obtain ⟨n, s10⟩ := x
            obtain ⟨rfl, hps⟩ := hq _ hn
            have HQs := Lib.hid (show Q = some (.mk 0 acc ov (sg8 * n) [], s10) by rw [HQ4.out, hn])
            have hnr := (pNum_len hn).2
            dsimp only at hnr hps
            have hmul : -2147483648 ≤ sg8 * n ∧ sg8 * n ≤ 2147483648 := by rcases HSv8.out with e | e <;> rw [e] <;> omega
            have hwr : IntKind.i64.wrap (sg8 * n) = sg8 * n := IntWalk.i64_in _ (by omega)
            have HP10 := Lib.hid hps
            clear hp hq hn hps hnr
            obtain ⟨x0, x1, x2, x3, x4⟩ := b5_cells HJ10.out.b1
            have xf3 := Blk.frozen HJ10.out.b1 3
            have xl := HJ10.out.b1.lt
            obtain ⟨y0, y1, y2, y3, y4⟩ := b5_cells HJ10.out.b0
            obtain ⟨yf0, yf1, yf2, yf3, yf4⟩ := b5f HJ10.out.b0
            have yl := HJ10.out.b0.lt
            have hne : C ≠ w.heap.size := by omega
            dsimp only at *
            go_wp2_with fail
            clear x0 x1 x2 x3 x4 xf3 xl y0 y1 y2 y3 y4 yf0 yf1 yf2 yf3 yf4 yl hne hwr
            have hJ11 : CpJ K C ⟨.int .i64 0, .slice A acc.length cc, .int .i64 ov, .int .i64 (sg8 * n), .slice none 0 0⟩ acc w (w10.setCell ⟨C, 3, none⟩ (.int .i64 (sg8 * n))) := by
              have hb := Blk.put HJ10.out.b1 3 (.int .i64 (sg8 * n))
              exact HJ10.out.put 3 _ (by simpa [B5] using hb) rfl
            have hp11 := psm_put HP10.out hKC 3 (.int .i64 (sg8 * n))
            generalize w10.setCell ⟨C, 3, none⟩ (.int .i64 (sg8 * n)) = w11 at *
            generalize sg8 * n = N at *
            have hb12 := b5_put (v := ⟨.int .i64 0, .slice none 0 0, .int .i64 0, .int .i64 0, .slice none 0 0⟩) hJ11.b0 ⟨.int .i64 0, .slice A acc.length cc, .int .i64 ov, .int .i64 N, .slice none 0 0⟩
            have hf12 := put5_frs hJ11.fr (.inl (Nat.le_refl w.heap.size)) ⟨.int .i64 0, .slice A acc.length cc, .int .i64 ov, .int .i64 N, .slice none 0 0⟩
            have hf13 := put5_frs (FrS.refl w11.heap.size (fun k => k = w.heap.size) w11) (g := w.heap.size) (.inr rfl) ⟨.int .i64 0, .slice A acc.length cc, .int .i64 ov, .int .i64 N, .slice none 0 0⟩
            have hcd : CdV (fun b => w.heap.size ≤ b) (put5 w11 w.heap.size ⟨.int .i64 0, .slice A acc.length cc, .int .i64 ov, .int .i64 N, .slice none 0 0⟩) ⟨.int .i64 0, .slice A acc.length cc, .int .i64 ov, .int .i64 N, .slice none 0 0⟩ (.mk 0 acc ov N []) :=
              (hf13.cdv (cdv_cmp (B := w.heap.size + 1) hJ11.own (Nat.le_refl _) HNm.out ov N) (fun b hb hlt => ⟨hlt, by omega⟩)).mono fun b _ hb => by omega
            have hp12 := hf13.psm hp11 (hp11.lt) (by omega)
            have HX := Lib.hid (⟨hf12.to fun _ h => h, hcd, hp12⟩ : w.grownBy _ (some K) ∧ CdV (fun b => w.heap.size ≤ b) (put5 w11 w.heap.size ⟨.int .i64 0, .slice A acc.length cc, .int .i64 ov, .int .i64 N, .slice none 0 0⟩) ⟨.int .i64 0, .slice A acc.length cc, .int .i64 ov, .int .i64 N, .slice none 0 0⟩ (.mk 0 acc ov N []) ∧ PsM S K s10 (put5 w11 w.heap.size ⟨.int .i64 0, .slice A acc.length cc, .int .i64 ov, .int .i64 N, .slice none 0 0⟩))
            clear hf12 hf13 hcd hp12 hp11 hJ11
            unfold put5 at HX hb12
            dsimp only at HX hb12
            generalize World.setCell _ _ _ = w12 at *
            obtain ⟨k0, k1, k2, k3, k4⟩ := b5_cells hb12
            refine bodyPost_ret (v := .agg #[.int .i64 0, .slice A acc.length cc, .int .i64 ov, .int .i64 N, .slice none 0 0]) (by simp [results, Tryz.results45, go_sem, k0, k1, k2, k3, k4]) rfl ?_
            exact ⟨HX.out.1, fun r hr => (by rw [HQs.out] at hr; cases hr; exact ⟨_, rfl, HX.out.2.1, HX.out.2.2⟩), fun hr => (by rw [HQs.out] at hr; cases hr)⟩
end Go.Proofs.YtonmpealebggoaaGreatDoor
