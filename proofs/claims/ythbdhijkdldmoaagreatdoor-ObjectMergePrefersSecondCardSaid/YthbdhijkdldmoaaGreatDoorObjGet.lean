/- One step of a path: in plain words, and the walk. The walk of Same. The walk of step. The walk of Get. -/
import Derived.Test.YthbdhijkdldmoaaGreatDoorObjCln
import Derived.Test.YthbdhijkdldmoaaGreatDoorObjBs
import Derived.Test.YthbdhijkdldmoaaGreatDoorLaid4
import Derived.Test.YthbdhijkdldmoaaGreatDoorLaid5
import Derived.Test.YthbdhijkdldmoaaGreatDoorObjPri
import Derived.Test.YthbdhijkdldmoaaGreatDoorLaid3
import Derived.Deep.DeepCutAuto
import Derived.Deep.CutBlock
import Derived.Deep.QuietTactic
import Derived.BigQuiet
import Derived.Test.YthbdhijkdldmoaaGreatDoorTokWord
namespace Go.Proofs.YthbdhijkdldmoaaGreatDoor
open Go.RowKit Tk Ob
/-- The number of an element that a word of digits names. -/
def idxN (s : Tk.Src) : Int := match Lib.atoiAll s with | .ok v => v | _ => 1152921504606846976
def stepO (o : Ox) (s : Tk.Src) : Int × Bool × Int :=
  if o.kind = 7 then (((posK o.keys s).1 : Nat), (posK o.keys s).2, 0)
  else if o.kind = 6 then
    if s = [] ∨ s.all digit = false ∨ (1 < s.length ∧ s.head? = some 48) then (0, false, 4)
    else (idxN s, decide (idxN s < (o.kids.length : Int)), 0)
  else (0, false, 14)
theorem digit_nat (c : UInt8) : digit c = true ↔ 48 ≤ c.toNat ∧ c.toNat ≤ 57 := by
  unfold digit
  simp [UInt8.le_iff_toNat_le]
theorem uint_digits : ∀ (l : Tk.Src) (a : Nat), l.all digit = true → (∃ v, Lib.parseUint10 a l = .ok v) ∨ Lib.parseUint10 a l = .range
  | [], a, _ => .inl ⟨a, rfl⟩
  | c :: r, a, h => by
    rw [List.all_cons, Bool.and_eq_true] at h
    simp only [Lib.parseUint10]
    rw [if_pos ((digit_nat c).1 h.1)]
    split
    · exact .inr rfl
    · split
      · exact .inr rfl
      · exact uint_digits r _ h.2
theorem atoi_digits {s : Tk.Src} (h0 : s ≠ []) (h : s.all digit = true) : (∃ v, Lib.atoiAll s = .ok v ∧ 0 ≤ v ∧ v < 9223372036854775808) ∨ Lib.atoiAll s = .range := by
  cases s with
  | nil => exact absurd rfl h0
  | cons c r =>
    have h1 := h
    rw [List.all_cons, Bool.and_eq_true] at h1
    have hc := (digit_nat c).1 h1.1
    have e3 : ¬ c.toNat = 43 := by omega
    have e2 : ¬ c.toNat = 45 := by omega
    have hs := uint_digits (c :: r) 0 h
    unfold Lib.atoiAll Lib.parseMag
    simp only [e2, e3, or_self, if_false, List.cons_ne_nil, not_false_eq_true, true_and, false_and]
    rcases hs with ⟨u, hp⟩ | hp
    · rw [hp]
      dsimp only
      split
      · exact .inr rfl
      · exact .inl ⟨_, rfl, by omega, by omega⟩
    · rw [hp]
      exact .inr rfl
theorem idxN_bd {s : Tk.Src} (h0 : s ≠ []) (h : s.all digit = true) : 0 ≤ idxN s ∧ idxN s < 9223372036854775808 := by
  unfold idxN
  rcases atoi_digits h0 h with ⟨v, hp, h1, h2⟩ | hp
  · rw [hp]; exact ⟨h1, h2⟩
  · rw [hp]; dsimp only; omega
theorem stepO_bd {o : Ox} {s : Tk.Src} : 0 ≤ (stepO o s).1 ∧ (stepO o s).1 < 9223372036854775808 ∨ o.kind = 7 := by
  unfold stepO
  by_cases h7 : o.kind = 7
  · exact .inr h7
  · left
    rw [if_neg h7]
    split
    · split
      · simp
      · rename_i h
        exact idxN_bd (fun e => h (.inl e)) (by cases hd : s.all digit with | true => rfl | false => exact absurd (.inr (.inl hd)) h)
    · simp
def tenDigits : Tk.Src := [48, 49, 50, 51, 52, 53, 54, 55, 56, 57]
theorem ten_digit (c : UInt8) : tenDigits.contains c = digit c := by
  have := u8_all (fun c => tenDigits.contains c == digit c) (by decide +kernel) c
  simpa using this
theorem dropW_nil {p : UInt8 → Bool} : ∀ l : Tk.Src, l.dropWhile p = [] ↔ l.all p = true
  | [] => by simp
  | c :: r => by
    rw [List.dropWhile_cons, List.all_cons]
    by_cases h : p c = true
    · rw [if_pos h, h, Bool.true_and]; exact dropW_nil r
    · rw [if_neg h]
      have : p c = false := by simpa using h
      simp [this]
theorem trim_nil (s : Tk.Src) : (Lib.trimS s tenDigits = []) ↔ s.all digit = true := by
  have e : (fun c => tenDigits.contains c) = digit := funext ten_digit
  unfold Lib.trimS Lib.trimLeftS Lib.trimRightS
  rw [e, dropW_nil]
  constructor
  · intro h
    by_cases hd : s.reverse.dropWhile digit = []
    · have := (dropW_nil s.reverse).1 hd
      simpa using this
    · exfalso
      obtain ⟨c, r, hcr⟩ := List.exists_cons_of_ne_nil hd
      have h1 : digit c = false := by
        have := List.head?_dropWhile_not digit s.reverse
        rw [hcr] at this
        simpa using this
      rw [hcr] at h
      simp [h1] at h
  · intro h
    rw [(dropW_nil s.reverse).2 (by simpa using h)]
    rfl
def StepPost (r : Int × Bool × Int) (w : World) (e : Ending) (w' : World) : Prop := e = .returned (.tuple #[.int .i64 r.1, .bool r.2.1, .int .i64 r.2.2]) ∧ Below w.heap.size w w'
theorem step_close {r : Int × Bool × Int} {a c : Int} {b : Bool} {w w' : World} (h : r = (a, b, c)) (hb : Below w.heap.size w w') : StepPost r w (.returned (.tuple #[.int .i64 a, .bool b, .int .i64 c])) w' := ⟨by rw [h], hb⟩
/-- The variable ErrRange stands. -/
def ErrT (w : World) : Prop := 2 ≤ w.heap.size ∧ ∃ ev, w.cell? ⟨1, 0, none⟩ = some ev ∧ (ev = .nilIface ∨ ∃ te pe, ev = .iface te pe)
theorem ErrT.later {w w' : World} (h : ErrT w) (hb : Below w.heap.size w w') : ErrT w' := by
  obtain ⟨h1, ev, h2, h3⟩ := h
  exact ⟨Nat.le_trans h1 hb.size, ev, (hb.cell (p := ⟨1, 0, none⟩) (show 1 < w.heap.size by omega)).trans h2, h3⟩
/-- strconv.Atoi at digits. -/
theorem atoi_dig (s : Tk.Src) (h0 : s ≠ []) (hd : s.all digit = true) (hl : s.length ≤ 140737488355328) (w : World) (hE : ErrT w) :
    Calls Tryz.prog 59 #[.string ⟨s.toArray⟩] w fun e w' => (∃ (n : Int) (er : Value), e = .returned (.tuple #[.int .i64 n, er]) ∧ ((er = .nilIface ∧ n = idxN s) ∨ (∃ (t : TypeId) (p : Value), er = .iface t p ∧ idxN s = 1152921504606846976))) ∧ Below w.heap.size w w' := by
  obtain ⟨_, ev, hv, hev⟩ := hE
  rcases atoi_digits h0 hd with ⟨v, hp, _, _⟩ | hp
  · refine (strconv_Atoi_ok ⟨s.toArray⟩ (by simp [ByteArray.size]; omega) v hp w).mono fun e w' ⟨h1, h2⟩ => ⟨⟨v, _, h1, .inl ⟨rfl, by unfold idxN; rw [hp]⟩⟩, ?_⟩
    rcases h2 with rfl | ⟨t, rfl⟩
    · exact Below.refl _ _
    · exact Go.Joins.below_bytesWorld _ _ _ _ (Nat.le_refl _)
  · exact (strconv_Atoi_range ⟨s.toArray⟩ (by simp [ByteArray.size]; omega) hp ev w hv hev).mono fun e w' ⟨N, h1, _, _, h2⟩ => ⟨⟨_, _, h1, .inr ⟨_, _, rfl, by unfold idxN; rw [hp]⟩⟩, h2⟩
end Go.Proofs.YthbdhijkdldmoaaGreatDoor
namespace Go.Proofs.YthbdhijkdldmoaaGreatDoor
open Go.RowKit Tk Ob
noncomputable def eqB {α : Type} (a b : α) : Bool := @decide (a = b) (Classical.propDecidable _)
theorem eqB_true {α : Type} {a b : α} (h : a = b) : eqB a b = true := by unfold eqB; simpa using h
theorem eqB_false {α : Type} {a b : α} (h : a ≠ b) : eqB a b = false := by unfold eqB; simpa using h
theorem eqB_iff {α : Type} {a b : α} : eqB a b = true ↔ a = b := by unfold eqB; simp
theorem bytes_inj {a b : Tk.Src} (h : (⟨a.toArray⟩ : ByteArray) = ⟨b.toArray⟩) : a = b := by
  have := congrArg (fun x : ByteArray => x.data.toList) h
  simpa using this
/-- slices.Equal at strings. -/
theorem eqs_any (ka kb : List Tk.Src) (va vb : Value) (P Q : Nat → Prop) (w : World) (ha : Sl w P va (strs ka)) (hb : Sl w Q vb (strs kb)) :
    Calls Tryz.prog 26 #[va, vb] w fun e w' => e = .returned (.bool (eqB ka kb)) ∧ Same w w' := by
  have la : (strs ka).length = ka.length := by simp [strs]
  have lb : (strs kb).length = kb.length := by simp [strs]
  obtain ⟨A, ca, rfl⟩ := ha.form
  obtain ⟨B, cb, rfl⟩ := hb.form
  have cla := ha.cap_le
  have clb := hb.cap_le
  unfold maxLen at cla clb
  rw [la] at ha ⊢
  rw [lb] at hb ⊢
  by_cases hn : ka.length = kb.length
  · by_cases h0 : ka.length = 0
    · have e : ka = kb := by
        obtain rfl : ka = [] := List.eq_nil_of_length_eq_zero h0
        obtain rfl : kb = [] := List.eq_nil_of_length_eq_zero (by rw [← hn]; rfl)
        rfl
      rw [eqB_true e, h0]
      refine (slices_Equal_string_empty A B ca kb.length cb w (by omega)).mono fun e w' h => ⟨?_, ?_⟩
      · rw [h.1, decide_eq_true (by omega)]
      · rw [h.2]; exact Same.refl _
    · obtain ⟨b1, o1, rfl, _, h1⟩ := ha.plainA (by rw [la]; omega)
      obtain ⟨b2, o2, rfl, _, h2⟩ := hb.plainA (by rw [lb]; omega)
      refine (slices_Equal_string b1 o1 ka.length ca b2 o2 kb.length cb (ka.map fun s => ⟨s.toArray⟩) (kb.map fun s => ⟨s.toArray⟩) w (by simp) (by simp) (by omega) (by omega) (fun j hj => h1 j _ ?_) (fun j hj => h2 j _ ?_)).mono fun e w' h => ⟨?_, h.2⟩
      · have hj' : j < ka.length := by simpa using hj
        simp [strs, hj', List.getD_eq_getElem?_getD]
      · have hj' : j < kb.length := by simpa using hj
        simp [strs, hj', List.getD_eq_getElem?_getD]
      · rw [h.1]
        have e1 : (ka.map fun s => (⟨s.toArray⟩ : ByteArray)).take ka.length = ka.map fun s => ⟨s.toArray⟩ := List.take_of_length_le (by simp)
        have e2 : (kb.map fun s => (⟨s.toArray⟩ : ByteArray)).take kb.length = kb.map fun s => ⟨s.toArray⟩ := List.take_of_length_le (by simp)
        rw [e1, e2]
        by_cases e : ka = kb
        · rw [eqB_true e, decide_eq_true (by rw [e])]
        · rw [eqB_false e, decide_eq_false fun h => e ?_]
          refine List.ext_getElem hn fun j h1 h2 => ?_
          have := congrArg (fun l : List ByteArray => l[j]?) h
          simp [h1, h2] at this
          exact this
  · refine (slices_Equal_string_lens A B ka.length ca kb.length cb w hn).mono fun e w' h => ⟨?_, ?_⟩
    · rw [h.1, eqB_false fun e => hn (by rw [e])]
    · rw [h.2]; exact Same.refl _
def SmPost {α : Type} (a b : α) (w : World) (e : Ending) (w' : World) : Prop := e = .returned (.bool (eqB a b)) ∧ Below w.heap.size w w'
theorem sm_close {α : Type} {a b : α} {r : Bool} {w w' : World} (h : eqB a b = r) (hb : Below w.heap.size w w') : SmPost a b w (.returned (.bool r)) w' := ⟨by rw [h], hb⟩
set_option maxRecDepth 100000 in
set_option maxHeartbeats 16000000 in
theorem eqf_any (oa ob : List Ox) (va vb : Value) (sa sb : List V5) (P Q : Nat → Prop) (w : World) (ha : SlM w P va oa.length (v5cs sa)) (hb : SlM w Q vb ob.length (v5cs sb)) (la : sa.length = oa.length) (lb : sb.length = ob.length)
    (ka : ∀ j (h : j < oa.length) (h2 : j < sa.length), ObjV P w sa[j] oa[j]) (kb : ∀ j (h : j < ob.length) (h2 : j < sb.length), ObjV Q w sb[j] ob[j])
    (hc : ∀ j (h1 : j < oa.length) (h2 : j < ob.length) (v1 v2 : V5) W, Below w.heap.size w W → ObjV P W v1 oa[j] → ObjV Q W v2 ob[j] → Calls Tryz.prog 13 #[v1.val, v2.val] W (SmPost oa[j] ob[j] W)) :
    Calls Tryz.prog 27 #[va, vb, .func (.func 13) #[] #[]] w (SmPost oa ob w) := by
  have HA := Lib.hid ha
  have HB := Lib.hid hb
  obtain ⟨A, ca, rfl⟩ := ha.form
  obtain ⟨B, cb, rfl⟩ := hb.form
  obtain ⟨-, h1, h2⟩ := ha.caps
  obtain ⟨-, h3, h4⟩ := hb.caps
  unfold maxLen at h2 h4
  have HKa := Lib.hid ka
  have HKb := Lib.hid kb
  have HC := Lib.hid hc
  have HLa := Lib.hid la
  have HLb := Lib.hid lb
  clear ha hb ka kb hc la lb
  by_cases hn : oa.length = ob.length
  case neg =>
    have hnb : ((oa.length : Int) != (ob.length : Int)) = true := by rw [bne_iff_ne]; omega
    have HE : Hid (eqB oa ob = false) := eqB_false fun e => hn (by rw [e])
    clear hn
    go_enter Tryz.func27, Tryz.ntmps27
    go_wp2_with fail
    go_ret
    exact sm_close HE.out (Below.refl _ _)
  have hnb : ((oa.length : Int) != (ob.length : Int)) = false := by rw [bne_eq_false_iff_eq]; omega
  have HN := Lib.hid hn
  clear hn
  go_enter Tryz.func27, Tryz.ntmps27
  go_wp2_with fail
  go_loopw [7, 17] (fun _ vi wr => True ∧ ∃ i : Nat, i ≤ oa.length ∧ vi = .int .i64 i ∧ Below w.heap.size w wr ∧ ∀ m (h1 : m < oa.length) (h2 : m < ob.length), m < i → oa[m] = ob[m]) (fun _ i _ => oa.length - (intOf i).toNat)
  case atStart => exact ⟨trivial, 0, by omega, rfl, Below.refl _ _, fun m _ _ h => absurd h (by omega)⟩
  case round =>
    obtain ⟨-, i, hi, rfl, hbl, hall⟩ := hrel
    have HBl := Lib.hid hbl
    have HAll := Lib.hid hall
    have hsz := hbl.size
    clear hall
    by_cases hlt : i < oa.length
    · have hlt2 : i < ob.length := by have := HN.out; omega
      have hia : (i : Int) < (oa.length : Int) := by omega
      have hib : (i : Int) < (ob.length : Int) := by omega
      have hva : i < sa.length := by have := HLa.out; omega
      have hvb : i < sb.length := by have := HLb.out; omega
      obtain ⟨b1, o1, e1, -, hl1, c1⟩ := v5_at (l := sa) (by rw [HLa.out]; exact HA.out) (by omega)
      obtain ⟨b2, o2, e2, -, hl2, c2⟩ := v5_at (l := sb) (by rw [HLb.out]; exact HB.out) (by omega)
      subst e1 e2
      obtain ⟨y0, y1, y2, y3, y4⟩ := c1 i hva
      obtain ⟨x0, x1, x2, x3, x4⟩ := c2 i hvb
      have hoa := (HKa.out i hlt hva).later hbl
      have hob := (HKb.out i hlt2 hvb).later hbl
      have HCi := Lib.hid (HC.out i hlt hlt2 (sa[i]'hva) (sb[i]'hvb))
      have HOa := Lib.hid hoa
      have HOb := Lib.hid hob
      have HStep : Hid (oa[i] = ob[i] → ∀ m (h1 : m < oa.length) (h2 : m < ob.length), m < i + 1 → oa[m] = ob[m]) := fun he m h1 h2 hm => by
        rcases Nat.lt_or_ge m i with h | h
        · exact HAll.out m h1 h2 h
        · obtain rfl : m = i := by omega
          exact he
      have HNo : Hid (oa[i] ≠ ob[i] → eqB oa ob = false) := fun hne => eqB_false fun e => hne (by subst e; rfl)
      generalize sa[i] = va at *
      generalize sb[i] = vb at *
      generalize oa[i] = ua at *
      generalize ob[i] = ub at *
      obtain ⟨ka1, da1, us1, hu1, s1, t1, -, -⟩ := hoa.open_
      obtain ⟨ka2, da2, us2, hu2, s2, t2, -, -⟩ := hob.open_
      subst hu1 hu2
      obtain ⟨A1, n1, rfl⟩ := s1.form
      obtain ⟨A2, n2, rfl⟩ := s2.form
      obtain ⟨A3, n3, rfl⟩ := t1.form
      obtain ⟨A4, n4, rfl⟩ := t2.form
      unfold V5.val at HCi
      dsimp only at y0 y1 y2 y3 y4 x0 x1 x2 x3 x4 HCi
      have hb1 : b1 < wr.heap.size := by omega
      have hb2 : b2 < wr.heap.size := by omega
      replace y0 := (hbl.cell (p := ⟨b1, _, none⟩) hl1).trans y0
      replace y1 := (hbl.cell (p := ⟨b1, _, none⟩) hl1).trans y1
      replace y2 := (hbl.cell (p := ⟨b1, _, none⟩) hl1).trans y2
      replace y3 := (hbl.cell (p := ⟨b1, _, none⟩) hl1).trans y3
      replace y4 := (hbl.cell (p := ⟨b1, _, none⟩) hl1).trans y4
      replace x0 := (hbl.cell (p := ⟨b2, _, none⟩) hl2).trans x0
      replace x1 := (hbl.cell (p := ⟨b2, _, none⟩) hl2).trans x1
      replace x2 := (hbl.cell (p := ⟨b2, _, none⟩) hl2).trans x2
      replace x3 := (hbl.cell (p := ⟨b2, _, none⟩) hl2).trans x3
      replace x4 := (hbl.cell (p := ⟨b2, _, none⟩) hl2).trans x4
      generalize (strs ua.keys).length = m1 at *
      generalize (strs ub.keys).length = m2 at *
      generalize hq1 : ua.kids.length = m3 at *
      generalize hq2 : ub.kids.length = m4 at *
      generalize hq3 : ua.kind = q3 at *
      generalize hq4 : ub.kind = q4 at *
      generalize hq5 : ua.int = q5 at *
      generalize hq6 : ub.int = q6 at *
      generalize hq7 : (⟨ua.text.toArray⟩ : ByteArray) = q7 at *
      generalize hq8 : (⟨ub.text.toArray⟩ : ByteArray) = q8 at *
      have hl' : Below wr.heap.size wr ((wr.alloc (.cells #[.int .i64 q3, .int .i64 q5, .string q7, .slice A1 m1 n1, .slice A3 m3 n3] 25)).alloc (.cells #[.int .i64 q4, .int .i64 q6, .string q8, .slice A2 m2 n2, .slice A4 m4 n4] 25)) := ((Below.refl _ _).alloc (Nat.le_refl _) _).alloc (by simp) _
      have HL2 := Lib.hid (HBl.out.trans (hl'.mono HBl.out.size))
      have HOa2 := Lib.hid (HOa.out.later hl')
      have HOb2 := Lib.hid (HOb.out.later hl')
      have HE := Lib.hid (@eqB_iff Ox ua ub)
      clear c1 c2 hoa hob s1 s2 t1 t2 hl' hq1 hq2 hq3 hq4 hq5 hq6 hq7 hq8
      go_wp2_with fail
      refine (HCi.out _ HL2.out HOa2.out HOb2.out).mono ?_
      rintro e w2 ⟨rfl, hb2'⟩
      have HB2 := Lib.hid (HL2.out.trans (hb2'.mono HL2.out.size))
      clear hb2'
      generalize eqB ua ub = r at *
      cases r with
      | false =>
        have HNe : Hid (eqB oa ob = false) := HNo.out fun e => by have := HE.out.2 e; cases this
        clear y0 y1 y2 y3 y4 x0 x1 x2 x3 x4
        go_wp2_with fail
        go_ret
        exact sm_close HNe.out HB2.out
      | true =>
        have HSt := Lib.hid (HStep.out (HE.out.1 rfl))
        clear y0 y1 y2 y3 y4 x0 x1 x2 x3 x4
        go_wp2_with fail
        go_roundw
        case rel => exact ⟨trivial, i + 1, by omega, by go_num, HB2.out, HSt.out⟩
        case measure => simp [intOf]; omega
    · have hii : i = oa.length := by omega
      have hia : ¬ (i : Int) < (oa.length : Int) := by omega
      have HE : Hid (eqB oa ob = true) := eqB_true (List.ext_getElem HN.out fun j h1 h2 => HAll.out j h1 h2 (by omega))
      clear hii
      go_wp2_with fail
      go_ret
      exact sm_close HE.out HBl.out
set_option maxRecDepth 100000 in
set_option maxHeartbeats 16000000 in
theorem same_step (oa ob : Ox) (va vb : V5) (P Q : Nat → Prop) (w : World) (ha : ObjV P w va oa) (hb : ObjV Q w vb ob)
    (hc : ∀ j (h1 : j < oa.kids.length) (h2 : j < ob.kids.length) (v1 v2 : V5) W, Below w.heap.size w W → ObjV P W v1 oa.kids[j] → ObjV Q W v2 ob.kids[j] → Calls Tryz.prog 13 #[v1.val, v2.val] W (SmPost oa.kids[j] ob.kids[j] W)) :
    Calls Tryz.prog 13 #[va.val, vb.val] w (SmPost oa ob w) := by
  have HA := Lib.hid ha
  have HB := Lib.hid hb
  have HC := Lib.hid hc
  obtain ⟨ka1, da1, sa, rfl, s1, t1, la, kia⟩ := ha.open_
  obtain ⟨ka2, da2, sb, rfl, s2, t2, lb, kib⟩ := hb.open_
  have HS1 := Lib.hid s1
  have HS2 := Lib.hid s2
  have HT1 := Lib.hid t1
  have HT2 := Lib.hid t2
  have HEs : Hid (∀ W, Below w.heap.size w W → Calls Tryz.prog 26 #[ka1, ka2] W fun e w' => e = .returned (.bool (eqB oa.keys ob.keys)) ∧ Same W w') := fun W hW => eqs_any _ _ _ _ P Q W (s1.later hW) (s2.later hW)
  have HEf : Hid (∀ W, Below w.heap.size w W → Calls Tryz.prog 27 #[da1, da2, .func (.func 13) #[] #[]] W (SmPost oa.kids ob.kids W)) := fun W hW =>
    eqf_any _ _ _ _ sa sb P Q W (t1.later hW) (t2.later hW) la lb (fun j h h2 => (kia j h h2).later hW) (fun j h h2 => (kib j h h2).later hW) fun j h1 h2 v1 v2 W' hW' => HC.out j h1 h2 v1 v2 W' (hW.trans (hW'.mono hW.size))
  obtain ⟨A1, n1, rfl⟩ := s1.form
  obtain ⟨A2, n2, rfl⟩ := s2.form
  obtain ⟨A3, n3, rfl⟩ := t1.form
  obtain ⟨A4, n4, rfl⟩ := t2.form
  clear ha hb hc s1 s2 t1 t2 la lb kia kib
  have HAll : Hid (oa.kind = ob.kind → oa.int = ob.int → oa.text = ob.text → oa.keys = ob.keys → oa.kids = ob.kids → oa = ob) := fun h1 h2 h3 h4 h5 => by
    obtain ⟨k, i, t, ks, os⟩ := oa
    obtain ⟨k', i', t', ks', os'⟩ := ob
    dsimp only [Ox.kind, Ox.int, Ox.text, Ox.keys, Ox.kids] at *
    subst h1 h2 h3 h4 h5; rfl
  have HT : Hid (((⟨oa.text.toArray⟩ : ByteArray).toList == (⟨ob.text.toArray⟩ : ByteArray).toList) = eqB oa.text ob.text) := by
    unfold Hid
    rw [Lib.toList_data, Lib.toList_data, Bool.eq_iff_iff, eqB_iff]; simp
  have hq1 : (oa.kind == ob.kind) = eqB oa.kind ob.kind := by rw [Bool.eq_iff_iff, eqB_iff]; simp
  have hq2 : (oa.int == ob.int) = eqB oa.int ob.int := by rw [Bool.eq_iff_iff, eqB_iff]; simp
  have HQ1 := Lib.hid hq1
  have HQ2 := Lib.hid hq2
  have hbx : Below w.heap.size w ((w.alloc (.cells #[.int .i64 oa.kind, .int .i64 oa.int, .string ⟨oa.text.toArray⟩, .slice A1 (strs oa.keys).length n1, .slice A3 oa.kids.length n3] 25)).alloc (.cells #[.int .i64 ob.kind, .int .i64 ob.int, .string ⟨ob.text.toArray⟩, .slice A2 (strs ob.keys).length n2, .slice A4 ob.kids.length n4] 25)) := ((Below.refl _ _).alloc (Nat.le_refl _) _).alloc (by simp) _
  have hx := Blk.alloc (Blk.new w 25 #[.int .i64 oa.kind, .int .i64 oa.int, .string ⟨oa.text.toArray⟩, .slice A1 (strs oa.keys).length n1, .slice A3 oa.kids.length n3]) (.cells #[.int .i64 ob.kind, .int .i64 ob.int, .string ⟨ob.text.toArray⟩, .slice A2 (strs ob.keys).length n2, .slice A4 ob.kids.length n4] 25)
  have hy := Blk.new (w.alloc (.cells #[.int .i64 oa.kind, .int .i64 oa.int, .string ⟨oa.text.toArray⟩, .slice A1 (strs oa.keys).length n1, .slice A3 oa.kids.length n3] 25)) 25 #[.int .i64 ob.kind, .int .i64 ob.int, .string ⟨ob.text.toArray⟩, .slice A2 (strs ob.keys).length n2, .slice A4 ob.kids.length n4]
  rw [show (w.alloc (.cells #[.int .i64 oa.kind, .int .i64 oa.int, .string ⟨oa.text.toArray⟩, .slice A1 (strs oa.keys).length n1, .slice A3 oa.kids.length n3] 25)).heap.size = w.heap.size + 1 by simp] at hy
  have HBx := Lib.hid hbx
  have HX := Lib.hid hx
  have HY := Lib.hid hy
  clear hq1 hq2 hbx hx hy HC HT1 HT2 HS1 HS2 HA HB
  unfold V5.val
  dsimp only
  generalize (strs oa.keys).length = m1 at *
  generalize (strs ob.keys).length = m2 at *
  generalize oa.kids.length = m3 at *
  generalize ob.kids.length = m4 at *
  generalize hk1 : oa.kind = k1 at *
  generalize hk2 : ob.kind = k2 at *
  generalize hi1 : oa.int = i1 at *
  generalize hi2 : ob.int = i2 at *
  generalize (⟨oa.text.toArray⟩ : ByteArray) = T1 at *
  generalize (⟨ob.text.toArray⟩ : ByteArray) = T2 at *
  have HK1 := Lib.hid hk1
  have HK2 := Lib.hid hk2
  have HI1 := Lib.hid hi1
  have HI2 := Lib.hid hi2
  clear hk1 hk2 hi1 hi2
  by_cases e1 : k1 = k2
  case neg =>
    have d1 : (k1 == k2) = false := by rw [beq_eq_false_iff_ne]; exact e1
    have HE : Hid (eqB oa ob = false) := eqB_false fun e => e1 (by rw [← HK1.out, ← HK2.out, e])
    clear e1
    go_enter Tryz.func13, Tryz.ntmps13
    go_wp2_with fail
    go_ret
    exact sm_close HE.out HBx.out
  have d1 : (k1 == k2) = true := by rw [beq_iff_eq]; exact e1
  have HE1 := Lib.hid e1
  clear e1
  by_cases e2 : i1 = i2
  case neg =>
    have d2 : (i1 == i2) = false := by rw [beq_eq_false_iff_ne]; exact e2
    have HE : Hid (eqB oa ob = false) := eqB_false fun e => e2 (by rw [← HI1.out, ← HI2.out, e])
    clear e2
    go_enter Tryz.func13, Tryz.ntmps13
    go_wp2_with fail
    go_ret
    exact sm_close HE.out HBx.out
  have d2 : (i1 == i2) = true := by rw [beq_iff_eq]; exact e2
  have HE2 := Lib.hid e2
  clear e2
  by_cases e3 : oa.text = ob.text
  case neg =>
    have d3 : (T1.toList == T2.toList) = false := HT.out.trans (eqB_false e3)
    have HE : Hid (eqB oa ob = false) := eqB_false fun e => e3 (by rw [e])
    clear e3
    go_enter Tryz.func13, Tryz.ntmps13
    go_wp2_with fail
    go_ret
    exact sm_close HE.out HBx.out
  have d3 : (T1.toList == T2.toList) = true := HT.out.trans (eqB_true e3)
  have HE3 := Lib.hid e3
  clear e3
  go_enter Tryz.func13, Tryz.ntmps13
  go_upto_region 1 with (fail)
  generalize (w.alloc (.cells #[.int .i64 k1, .int .i64 i1, .string T1, .slice A1 m1 n1, .slice A3 m3 n3] 25)).alloc (.cells #[.int .i64 k2, .int .i64 i2, .string T2, .slice A2 m2 n2, .slice A4 m4 n4] 25) = w1 at *
  obtain ⟨x0, x1, x2, x3, x4⟩ := b5n_cells HX.out
  obtain ⟨y0, y1, y2, y3, y4⟩ := b5n_cells HY.out
  have xl := HX.out.lt
  have yl := HY.out.lt
  go_wp2_with fail
  refine (HEs.out _ HBx.out).mono ?_
  rintro e w2 ⟨rfl, hsm⟩
  have hb2 := hsm.below w1.heap.size
  have HB2 := Lib.hid (HBx.out.trans (hb2.mono HBx.out.size))
  have hx2 := HX.out.below hb2 xl
  have hy2 := HY.out.below hb2 yl
  clear hsm x0 x1 x2 x3 x4 y0 y1 y2 y3 y4
  obtain ⟨x0, x1, x2, x3, x4⟩ := b5n_cells hx2
  obtain ⟨y0, y1, y2, y3, y4⟩ := b5n_cells hy2
  clear hb2 hx2 hy2
  by_cases e4 : oa.keys = ob.keys
  case neg =>
    have d4 : eqB oa.keys ob.keys = false := eqB_false e4
    have HE : Hid (eqB oa ob = false) := eqB_false fun e => e4 (by rw [e])
    clear e4
    rw [d4]
    go_wp2_with fail
    go_ret
    exact sm_close HE.out HB2.out
  have d4 : eqB oa.keys ob.keys = true := eqB_true e4
  have HE4 := Lib.hid e4
  rw [d4]
  clear e4 d4
  go_wp2_with fail
  refine (HEf.out _ HB2.out).mono ?_
  rintro e w3 ⟨rfl, hb3⟩
  have HB3 := Lib.hid (HB2.out.trans (hb3.mono HB2.out.size))
  clear hb3 x0 x1 x2 x3 x4 y0 y1 y2 y3 y4
  by_cases e5 : oa.kids = ob.kids
  · have HE : Hid (eqB oa ob = true) := eqB_true (HAll.out HE1.out HE2.out HE3.out HE4.out e5)
    rw [eqB_true e5]
    clear e5
    go_wp2_with fail
    go_ret
    exact sm_close HE.out HB3.out
  · have HE : Hid (eqB oa ob = false) := eqB_false fun e => e5 (by rw [e])
    rw [eqB_false e5]
    clear e5
    go_wp2_with fail
    go_ret
    exact sm_close HE.out HB3.out
theorem same_any : ∀ (n : Nat) (oa ob : Ox) (va vb : V5) (P Q : Nat → Prop) (w : World), SizeOf.sizeOf oa ≤ n → ObjV P w va oa → ObjV Q w vb ob → Calls Tryz.prog 13 #[va.val, vb.val] w (SmPost oa ob w)
  | 0, oa, ob, va, vb, P, Q, w, hn, ha, hb => by cases oa; simp at hn
  | n + 1, oa, ob, va, vb, P, Q, w, hn, ha, hb => same_step oa ob va vb P Q w ha hb fun j h1 h2 v1 v2 W _ h3 h4 => same_any n _ _ v1 v2 P Q W (by
      have h5 : SizeOf.sizeOf oa.kids[j] < SizeOf.sizeOf oa.kids := List.sizeOf_lt_of_mem (List.getElem_mem h1)
      obtain ⟨k, i, t, ks, os⟩ := oa
      simp only [Ox.kids] at h5
      simp at hn
      show SizeOf.sizeOf os[j] ≤ n
      omega) h3 h4
end Go.Proofs.YthbdhijkdldmoaaGreatDoor
namespace Go.Proofs.YthbdhijkdldmoaaGreatDoor
open Go.RowKit Tk Ob
set_option maxRecDepth 100000 in
set_option maxHeartbeats 16000000 in
theorem step_any (P : Nat → Prop) (o : Ox) (vo : V5) (s : Tk.Src) (w : World) (ho : ObjV P w vo o) (hk : o.keys.length ≤ 256) (hd : o.kids.length ≤ 256) (hso : Sorted o.keys) (hs : s.length ≤ 140737488355328) (hE : ErrT w) :
    Calls Tryz.prog 32 #[vo.val, .string ⟨s.toArray⟩] w (StepPost (stepO o s) w) := by
  have ho1 := ho.mono (Q := fun k => k < w.heap.size) fun k hk _ => hk
  obtain ⟨kv, dv, vs, rfl, h1, h2, hvl, -⟩ := ho1.open_
  obtain ⟨k0, i0, t0, keys, kids⟩ := o
  simp only [Ox.kind, Ox.int, Ox.text, Ox.keys, Ox.kids] at *
  have HE := Lib.hid hE
  obtain ⟨A, ck, rfl⟩ := h1.form
  obtain ⟨Bd, cd, rfl⟩ := h2.form
  have HBs : Hid (∀ W, Below w.heap.size w W → Calls Tryz.prog 29 #[.slice A (strs keys).length ck, .string ⟨s.toArray⟩] W fun e w' => e = .returned (.tuple #[.int .i64 ((posK keys s).1 : Nat), .bool (posK keys s).2]) ∧ Go.Proofs.YthbdhijkdldmoaaGreatDoor.Same W w') :=
    fun W hW => bs_any keys s _ _ W (h1.keep hW.size fun k hk _ => hW.block k hk) (by omega) hso
  have HStep : Hid (stepO (.mk k0 i0 t0 keys kids) s = if k0 = 7 then (((posK keys s).1 : Int), (posK keys s).2, 0)
    else if k0 = 6 then
      if s = [] ∨ s.all digit = false ∨ (1 < s.length ∧ s.head? = some 48) then (0, false, 4)
      else (idxN s, decide (idxN s < (kids.length : Int)), 0)
    else (0, false, 14)) := rfl
  have hb0 := Blk.new w 25 #[.int .i64 k0, .int .i64 i0, .string ⟨t0.toArray⟩, .slice A (strs keys).length ck, .slice Bd kids.length cd]
  have HB0 := Lib.hid hb0
  have hbl0 := Lib.hid ((Below.refl w.heap.size w).alloc (Nat.le_refl _) (.cells #[.int .i64 k0, .int .i64 i0, .string ⟨t0.toArray⟩, .slice A (strs keys).length ck, .slice Bd kids.length cd] 25))
  generalize stepO (.mk k0 i0 t0 keys kids) s = R at *
  generalize (posK keys s).1 = pp at *
  generalize (posK keys s).2 = pf at *
  generalize (strs keys).length = nk at *
  unfold V5.val
  dsimp only
  generalize (⟨t0.toArray⟩ : ByteArray) = T0 at *
  clear h1 h2 ho ho1 hb0
  by_cases h7 : k0 = 7
  · have HR : Hid (R = ((pp : Int), pf, 0)) := by have := HStep.out; rw [if_pos h7] at this; exact this
    subst h7
    generalize (⟨s.toArray⟩ : ByteArray) = SS at *
    clear HStep
    go_enter Tryz.func32, Tryz.ntmps32
    go_wp2_with fail
    refine (HBs.out _ hbl0.out).mono ?_
    rintro e w1 ⟨rfl, hsm⟩
    go_wp2_with fail
    refine bodyPost_ret (v := .tuple #[.int .i64 pp, .bool pf, .int .i64 0]) (by simp [results, Tryz.results32, go_sem]) rfl ?_
    exact step_close HR.out (hbl0.out.trans ((hsm.below _).mono hbl0.out.size))
  · by_cases h6 : k0 = 6
    · have HR : Hid (R = if s = [] ∨ s.all digit = false ∨ (1 < s.length ∧ s.head? = some 48) then (0, false, 4) else (idxN s, decide (idxN s < (kids.length : Int)), 0)) := by have := HStep.out; rw [if_neg h7, if_pos h6] at this; exact this
      subst h6
      clear HStep HBs h7
      by_cases h0 : s = []
      · subst h0
        have HR2 : Hid (R = (0, false, 4)) := by have := HR.out; rw [if_pos (.inl rfl)] at this; exact this
        clear HR
        go_enter Tryz.func32, Tryz.ntmps32
        go_wp2_with fail
        refine bodyPost_ret (v := .tuple #[.int .i64 0, .bool false, .int .i64 4]) (by simp [results, Tryz.results32, go_sem]) rfl ?_
        exact step_close HR2.out hbl0.out
      · obtain ⟨S, hS⟩ : ∃ S : ByteArray, S = ⟨s.toArray⟩ := ⟨_, rfl⟩
        have hz : S.size = s.length := by rw [hS, int_size]
        have HTr : Hid (∀ W, Below w.heap.size w W → Calls Tryz.prog 58 #[.string S, .string ⟨#[48, 49, 50, 51, 52, 53, 54, 55, 56, 57]⟩] W fun e w' => (∃ V : ByteArray, e = .returned (.string V) ∧ (V = ⟨#[]⟩ ↔ s.all digit = true)) ∧ Below W.heap.size W w') := fun W hW =>
          (strings_Trim S ⟨#[48, 49, 50, 51, 52, 53, 54, 55, 56, 57]⟩ W (by omega) (by decide) (ascii_of_all (by decide))).mono fun e w' ⟨a, b⟩ => ⟨⟨_, a, by
            rw [← trim_nil s, hS]
            constructor
            · intro h
              exact bytes_inj (b := []) h
            · intro h
              show (⟨(Lib.trimS s tenDigits).toArray⟩ : ByteArray) = _
              rw [h]⟩, b⟩
        have HEr : Hid (∀ W, Below w.heap.size w W → ErrT W) := fun W hW => HE.out.later hW
        have HAt : Hid (∀ W, ErrT W → s.all digit = true → Calls Tryz.prog 59 #[.string S] W fun e w' => (∃ (n : Int) (er : Value), e = .returned (.tuple #[.int .i64 n, er]) ∧ ((er = .nilIface ∧ n = idxN s) ∨ (∃ (t : TypeId) (p : Value), er = .iface t p ∧ idxN s = 1152921504606846976))) ∧ Below W.heap.size W w') := fun W hW hd => by rw [hS]; exact atoi_dig s h0 hd hs W hW
        have hsl : 0 < s.length := List.length_pos_iff.2 h0
        have h00 : 0 < S.size := by omega
        have hi0 : (0 : Int) < (S.size : Int) := by omega
        have HX : Hid (s.head? = some (S[0]'h00)) := by
          subst hS
          cases s with
          | nil => exact absurd rfl h0
          | cons c r => rfl
        have hse : S.toList.isEmpty = false := by
          rw [Lib.toList_data, hS]
          cases s with
          | nil => exact absurd rfl h0
          | cons _ _ => rfl
        have HSS := Lib.hid hS
        rw [← hS]
        clear hS
        go_enter Tryz.func32, Tryz.ntmps32
        go_wp2_with fail
        refine (HTr.out _ hbl0.out).mono ?_
        rintro e w1 ⟨⟨V, rfl, hV⟩, hbl1⟩
        have HBl1 := Lib.hid (hbl0.out.trans (hbl1.mono hbl0.out.size))
        have hsz1 : w.heap.size < w1.heap.size := by have := hbl1.size; simp at this; omega
        have HB1 := Lib.hid (HB0.out.below hbl1 (by simp))
        clear hbl1 HTr
        by_cases hdg : s.all digit = true
        · have hVe := hV.2 hdg
          subst hVe
          clear hV
          by_cases hz : 1 < S.size
          · have q0 : (1 : Int) < (S.size : Int) := by omega
            by_cases hx : S[0]'h00 = 48
            · have q1 : (((S[0]'h00).toNat : Int) == 48) = true := by rw [hx]; rfl
              have HR2 : Hid (R = (0, false, 4)) := by have := HR.out; rw [if_pos (.inr (.inr ⟨by omega, by rw [HX.out, hx]⟩))] at this; exact this
              go_wp2_with fail
              refine bodyPost_ret (v := .tuple #[.int .i64 0, .bool false, .int .i64 4]) (by simp [results, Tryz.results32, go_sem]) rfl ?_
              exact step_close HR2.out HBl1.out
            · have q1 : (((S[0]'h00).toNat : Int) == 48) = false := by have := bt_ne (S[0]'h00) 48 hx; exact this
              have HR2 : Hid (R = (idxN s, decide (idxN s < (kids.length : Int)), 0)) := by have := HR.out; rw [if_neg (by rintro (h | h | h); exact h0 h; exact absurd hdg (by rw [h]; decide); exact (fun h => hx (Option.some.inj (HX.out.symm.trans h.2))) h)] at this; exact this
              go_wp2_with fail
              refine (HAt.out _ (HEr.out _ HBl1.out) hdg).mono ?_
              rintro e w2 ⟨⟨n, er, rfl, hn⟩, hbl2⟩
              have HBl2 := Lib.hid (HBl1.out.trans (hbl2.mono HBl1.out.size))
              have HB2 := Lib.hid (HB1.out.below hbl2 HB1.out.lt)
              have x4 : w2.cell? ⟨w.heap.size, 4, none⟩ = some (.slice Bd kids.length cd) := (HB2.out.cell 4).trans rfl
              clear hbl2 HAt
              generalize idxN s = N at *
              rcases hn with ⟨rfl, rfl⟩ | ⟨t, p, rfl, rfl⟩
              · go_wp2_with fail
                go_quiet (fail)
                go_wp2_with fail
                refine bodyPost_ret (v := .tuple #[.int .i64 n, .bool (decide ((n : Int) < (kids.length : Int))), .int .i64 0]) (by simp [results, Tryz.results32, go_sem]) rfl ?_
                exact step_close HR2.out (below_drewN HBl2.out _)
              · go_wp2_with fail
                go_quiet (fail)
                go_wp2_with fail
                refine bodyPost_ret (v := .tuple #[.int .i64 1152921504606846976, .bool (decide ((1152921504606846976 : Int) < (kids.length : Int))), .int .i64 0]) (by simp [results, Tryz.results32, go_sem]) rfl ?_
                exact step_close HR2.out (below_drewN HBl2.out _)
          · have q0 : ¬ (1 : Int) < (S.size : Int) := by omega
            have HR2 : Hid (R = (idxN s, decide (idxN s < (kids.length : Int)), 0)) := by have := HR.out; rw [if_neg (by rintro (h | h | h); exact h0 h; exact absurd hdg (by rw [h]; decide); exact (fun h => hz (by omega)) h)] at this; exact this
            go_wp2_with fail
            refine (HAt.out _ (HEr.out _ HBl1.out) hdg).mono ?_
            rintro e w2 ⟨⟨n, er, rfl, hn⟩, hbl2⟩
            have HBl2 := Lib.hid (HBl1.out.trans (hbl2.mono HBl1.out.size))
            have HB2 := Lib.hid (HB1.out.below hbl2 HB1.out.lt)
            have x4 : w2.cell? ⟨w.heap.size, 4, none⟩ = some (.slice Bd kids.length cd) := (HB2.out.cell 4).trans rfl
            clear hbl2 HAt
            generalize idxN s = N at *
            rcases hn with ⟨rfl, rfl⟩ | ⟨t, p, rfl, rfl⟩
            · go_wp2_with fail
              go_quiet (fail)
              go_wp2_with fail
              refine bodyPost_ret (v := .tuple #[.int .i64 n, .bool (decide ((n : Int) < (kids.length : Int))), .int .i64 0]) (by simp [results, Tryz.results32, go_sem]) rfl ?_
              exact step_close HR2.out (below_drewN HBl2.out _)
            · go_wp2_with fail
              go_quiet (fail)
              go_wp2_with fail
              refine bodyPost_ret (v := .tuple #[.int .i64 1152921504606846976, .bool (decide ((1152921504606846976 : Int) < (kids.length : Int))), .int .i64 0]) (by simp [results, Tryz.results32, go_sem]) rfl ?_
              exact step_close HR2.out (below_drewN HBl2.out _)
        · have hVn : V.toList.isEmpty = false := by
            rw [Lib.toList_data]
            cases hv : V.data.toList with
            | nil => exact absurd (hV.1 (by cases V with | mk d => simp at hv; rw [hv])) hdg
            | cons _ _ => rfl
          have hd2 : s.all digit = false := by simpa using hdg
          have HR2 : Hid (R = (0, false, 4)) := by have := HR.out; rw [if_pos (.inr (.inl hd2))] at this; exact this
          clear HR hV
          by_cases hz : 1 < S.size
          · have q0 : (1 : Int) < (S.size : Int) := by omega
            by_cases hx : S[0]'h00 = 48
            · have q1 : (((S[0]'h00).toNat : Int) == 48) = true := by rw [hx]; rfl
              go_wp2_with fail
              refine bodyPost_ret (v := .tuple #[.int .i64 0, .bool false, .int .i64 4]) (by simp [results, Tryz.results32, go_sem]) rfl ?_
              exact step_close HR2.out HBl1.out
            · have q1 : (((S[0]'h00).toNat : Int) == 48) = false := by have := bt_ne (S[0]'h00) 48 hx; exact this
              go_wp2_with fail
              refine bodyPost_ret (v := .tuple #[.int .i64 0, .bool false, .int .i64 4]) (by simp [results, Tryz.results32, go_sem]) rfl ?_
              exact step_close HR2.out HBl1.out
          · have q0 : ¬ (1 : Int) < (S.size : Int) := by omega
            go_wp2_with fail
            refine bodyPost_ret (v := .tuple #[.int .i64 0, .bool false, .int .i64 4]) (by simp [results, Tryz.results32, go_sem]) rfl ?_
            exact step_close HR2.out HBl1.out
    · have HR : Hid (R = (0, false, 14)) := by have := HStep.out; rw [if_neg h7, if_neg h6] at this; exact this
      generalize (⟨s.toArray⟩ : ByteArray) = SS at *
      clear HStep
      go_enter Tryz.func32, Tryz.ntmps32
      go_wp2_with fail
      refine bodyPost_ret (v := .tuple #[.int .i64 0, .bool false, .int .i64 14]) (by simp [results, Tryz.results32, go_sem]) rfl ?_
      exact step_close HR.out hbl0.out
end Go.Proofs.YthbdhijkdldmoaaGreatDoor
namespace Go.Proofs.YthbdhijkdldmoaaGreatDoor
open Go.RowKit Tk Ob
theorem kids_err {g : Ox → Nat → Except Int (List BTok × Nat)} (hg : ∀ o n e, g o n = .error e → e ≠ 0) {dict : Bool} : ∀ (os : List Ox) (ks : List Tk.Src) (n : Nat) (e : Int), kidsF g dict ks os n = .error e → e ≠ 0
  | [], _, _, _, h => by cases h
  | o :: os, ks, n, e, h => by
    simp only [kidsF] at h
    split at h
    · rename_i e' he
      injection h with h
      exact h ▸ hg _ _ _ he
    · rename_i l m he
      split at h
      · rename_i e' he2
        injection h with h
        exact h ▸ kids_err hg os _ _ _ he2
      · cases h
theorem add_err : ∀ (f d : Nat) (o : Ox) (n : Nat) (e : Int), f + d = 13 → addF f d o n = .error e → e ≠ 0
  | 0, d, o, n, e, hfd, h => by
    injection h with h
    subst h
    split
    · decide
    · intro hz
      have := (nodeE_zero hz).2.2.1
      omega
  | f + 1, d, o, n, e, hfd, h => by
    simp only [addF] at h
    split at h
    · injection h with h; subst h; decide
    · split at h
      · rename_i hn; injection h with h; subst h; exact hn
      · split at h
        · split at h
          · rename_i hn; injection h with h; subst h; exact hn
          · cases h
        · split at h
          · rename_i e' he
            injection h with h
            exact h ▸ kids_err (fun o n e => add_err f (d + 1) o n e (by omega)) _ _ _ _ he
          · cases h
theorem print_err {o : Ox} {e : Int} (h : printO o = .error e) : e ≠ 0 := by
  unfold printO at h
  split at h
  · rename_i e' he; injection h with h; exact h ▸ add_err 12 1 _ _ _ rfl he
  · split at h
    · injection h with h; subst h; decide
    · cases h
theorem check_zero {o : Ox} (h : checkO o = 0) : ∃ s, printO o = .ok s := by
  unfold checkO at h
  cases hp : printO o with
  | error e => rw [hp] at h; exact absurd h (print_err hp)
  | ok s => exact ⟨s, rfl⟩
theorem check_ad {o : Ox} (h : checkO o = 0) : Ad o := (check_zero h).elim fun _ h => ad_of_print h
theorem Ad.lens {o : Ox} (h : Ad o) : o.kind = 7 → o.keys.length = o.kids.length := by
  obtain ⟨d, hn⟩ := h.node
  exact (nodeE_zero hn).2.2.2.2.2.2.1
/-- An object that says nothing. -/
def Ox.zero : Ox := .mk 0 0 [] [] []
/-- What a path names. -/
def getO : Ox → List Tk.Src → Except Int Ox
  | o, [] => .ok o
  | o, s :: r => if (stepO o s).2.2 ≠ 0 then .error (stepO o s).2.2 else if (stepO o s).2.1 = false then .error 8 else getO (o.kids.getD (stepO o s).1.toNat Ox.zero) r
def getF (o : Ox) (path : List Tk.Src) : Except Int Ox := if checkO o ≠ 0 then .error (checkO o) else getO o path
/-- A step that finds, finds an element. -/
theorem step_found {o : Ox} {s : Tk.Src} (had : Ad o) (h : (stepO o s).2.1 = true) : ∃ i : Nat, (stepO o s).1 = (i : Int) ∧ i < o.kids.length := by
  unfold stepO at h ⊢
  by_cases h7 : o.kind = 7
  · rw [if_pos h7] at h ⊢
    obtain ⟨hl, _⟩ := (pos_found o.keys s).1 h
    exact ⟨_, rfl, by rw [← had.lens h7]; exact hl⟩
  · rw [if_neg h7] at h ⊢
    split at h
    · rename_i h6
      rw [if_pos h6]
      split at h
      · cases h
      · rename_i hb
        rw [if_neg hb]
        have hd : s.all digit = true := by cases hd : s.all digit with | true => rfl | false => exact absurd (.inr (.inl hd)) hb
        have := idxN_bd (fun e => hb (.inl e)) hd
        refine ⟨(idxN s).toNat, by dsimp only; omega, ?_⟩
        have := of_decide_eq_true h
        omega
    · cases h
theorem step_err {o : Ox} {s : Tk.Src} (h : (stepO o s).2.2 ≠ 0) : (stepO o s).2.2 = 4 ∨ (stepO o s).2.2 = 14 := by
  unfold stepO at h ⊢
  split
  · rename_i h7; rw [if_pos h7] at h; exact absurd rfl h
  · rename_i h7
    rw [if_neg h7] at h
    split
    · rename_i h6
      rw [if_pos h6] at h
      split
      · exact .inl rfl
      · rename_i hb; rw [if_neg hb] at h; exact absurd rfl h
    · exact .inr rfl
/-- An answer: an object and an error. -/
def ObPost (r : Except Int Ox) (w : World) (e : Ending) (w' : World) : Prop := Below w.heap.size w w' ∧ match r with
  | .error c => e = .returned (.tuple #[.agg #[.int .i64 0, .int .i64 0, .string ⟨#[]⟩, .slice none 0 0, .slice none 0 0], .int .i64 c])
  | .ok o => ∃ v : V5, e = .returned (.tuple #[v.val, .int .i64 0]) ∧ OwnO w' v o (fun x => w.heap.size ≤ x)
set_option maxRecDepth 100000 in
set_option maxHeartbeats 16000000 in
theorem get_any (P Q : Nat → Prop) (o : Ox) (vo : V5) (pv : Value) (path : List Tk.Src) (w : World) (ho : ObjV P w vo o) (hp : Sl w Q pv (strs path)) (hs : ∀ s ∈ path, s.length ≤ 140737488355328) (hT : Tab10 w) (hE : ErrT w) :
    Calls Tryz.prog 15 #[vo.val, pv] w (ObPost (getF o path) w) := by
  have HEr : Hid (∀ W, Below w.heap.size w W → ErrT W) := fun W hW => hE.later hW
  have HCk : Hid (∀ W, Below w.heap.size w W → Calls Tryz.prog 11 #[vo.val] W fun e w' => e = .returned (.int .i64 (checkO o)) ∧ Below W.heap.size W w') := fun W hW => check_obj P o vo W (ho.later hW) (Tab10.later hT hW)
  have HG : Hid (getF o path = if checkO o ≠ 0 then .error (checkO o) else getO o path) := rfl
  have HAd : Hid (checkO o = 0 → Ad o) := check_ad
  have ho1 := ho.mono (Q := fun k => k < w.heap.size) fun k hk _ => hk
  have hp1 : Sl w (fun k => k < w.heap.size) pv (strs path) := hp.mono fun k hk _ => hk
  have HO := Lib.hid ho1
  have HP := Lib.hid hp1
  have HS := Lib.hid hs
  obtain ⟨kv, dv, vs, rfl, h1, h2, hvl, -⟩ := ho1.open_
  obtain ⟨A, ck, rfl⟩ := h1.form
  obtain ⟨Bd, cd, rfl⟩ := h2.form
  obtain ⟨Pa, pc, rfl⟩ := hp1.form
  have hpl : (strs path).length = path.length := by simp [strs]
  have hpc := hp1.cap_le
  rw [hpl] at hpc
  unfold maxLen at hpc
  rw [hpl] at HP ⊢
  unfold V5.val at HCk ⊢
  dsimp only at HCk ⊢
  generalize hnk : (strs o.keys).length = nk at *
  generalize hnd : o.kids.length = nd at *
  generalize hk0 : o.kind = k0 at *
  generalize hi0 : o.int = i0 at *
  generalize hT0 : (⟨o.text.toArray⟩ : ByteArray) = T0 at *
  generalize getF o path = R at *
  generalize hC : checkO o = C at *
  have hb0 := (Blk.new w 25 #[.int .i64 k0, .int .i64 i0, .string T0, .slice A nk ck, .slice Bd nd cd]).alloc (.cells #[.int .i64 0, .int .i64 0, .string ⟨#[]⟩, .slice none 0 0, .slice none 0 0] 25)
  have hb1 := Blk.new (w.alloc (.cells #[.int .i64 k0, .int .i64 i0, .string T0, .slice A nk ck, .slice Bd nd cd] 25)) 25 #[.int .i64 0, .int .i64 0, .string ⟨#[]⟩, .slice none 0 0, .slice none 0 0]
  rw [show (w.alloc (.cells #[.int .i64 k0, .int .i64 i0, .string T0, .slice A nk ck, .slice Bd nd cd] 25)).heap.size = w.heap.size + 1 by simp] at hb1
  have hbl0 : Below w.heap.size w ((w.alloc (.cells #[.int .i64 k0, .int .i64 i0, .string T0, .slice A nk ck, .slice Bd nd cd] 25)).alloc (.cells #[.int .i64 0, .int .i64 0, .string ⟨#[]⟩, .slice none 0 0, .slice none 0 0] 25)) := ((Below.refl _ _).alloc (Nat.le_refl _) _).alloc (by simp) _
  have HB0 := Lib.hid hb0
  have HB1 := Lib.hid hb1
  have HBl0 := Lib.hid hbl0
  clear hb0 hb1 hbl0 h1 h2 ho ho1 hp hp1 hs hvl hnk hnd hk0 hi0 hT0 hC hE hT
  go_enter Tryz.func15, Tryz.ntmps15
  go_wp2_with fail
  refine (HCk.out _ HBl0.out).mono ?_
  rintro e w1 ⟨rfl, hbl1⟩
  have hsz1 : w.heap.size + 2 ≤ w1.heap.size := by have := hbl1.size; simpa using this
  have HBl1 := Lib.hid (HBl0.out.trans (hbl1.mono HBl0.out.size))
  have HB01 := Lib.hid (HB0.out.below hbl1 HB0.out.lt)
  have HB11 := Lib.hid (HB1.out.below hbl1 HB1.out.lt)
  clear hbl1 HB0 HB1 HBl0 HCk
  by_cases hc : C = 0
  case neg =>
    have HR : Hid (R = .error C) := by have := HG.out; rw [if_pos hc] at this; exact this
    have hcb : (C != 0) = true := by simpa using hc
    obtain ⟨y0, y1, y2, y3, y4⟩ := b5_cells (v := ⟨.int .i64 0, .int .i64 0, .string ⟨#[]⟩, .slice none 0 0, .slice none 0 0⟩) HB11.out
    have z0 := fun k => Blk.frozen HB11.out k
    have hz := HB11.out.lt
    go_wp2_with fail
    have hbz := b5_put (v := ⟨.int .i64 0, .int .i64 0, .string ⟨#[]⟩, .slice none 0 0, .slice none 0 0⟩) HB11.out ⟨.int .i64 0, .int .i64 0, .string ⟨#[]⟩, .slice none 0 0, .slice none 0 0⟩
    have hfz := b5_frs (R := w.heap.size) (T := fun _ => False) (FrS.of_below HBl1.out (Nat.le_refl _)) (show w.heap.size ≤ w.heap.size + 1 by omega) ⟨.int .i64 0, .int .i64 0, .string ⟨#[]⟩, .slice none 0 0, .slice none 0 0⟩
    clear y0 y1 y2 y3 y4 z0
    refine bodyPost_ret (v := .tuple #[.agg #[.int .i64 0, .int .i64 0, .string ⟨#[]⟩, .slice none 0 0, .slice none 0 0], .int .i64 C]) ?_ rfl ?_
    · obtain ⟨z0, z1, z2, z3, z4⟩ := b5_cells hbz
      clear hbz hfz
      generalize World.setCell _ _ _ = W at *
      simp [results, Tryz.results15, go_sem, z0, z1, z2, z3, z4]
    · refine ⟨hfz.below (Nat.le_refl _) (fun _ h => h.elim), ?_⟩
      rw [HR.out]
  subst hc
  have HR : Hid (R = getO o path) := by have := HG.out; rw [if_neg (by simp)] at this; exact this
  have HAd2 := Lib.hid (HAd.out rfl)
  clear HG HAd
  go_wp2_with fail
  have HPth := Lib.hid HP.out
  go_loopw [8, 9, 10, 11, 20] (fun _ _ _ _ vi wr => True ∧ ∃ (i : Nat) (u : V5) (oc : Ox), i ≤ path.length ∧ vi = .int .i64 i ∧ Below w.heap.size w wr ∧ w1.heap.size ≤ wr.heap.size ∧ B5 wr w.heap.size u ∧ ObjV (fun k => k < w.heap.size) wr u oc ∧ Ad oc ∧ getO oc (path.drop i) = R ∧
      B5 wr (w.heap.size + 1) ⟨.int .i64 0, .int .i64 0, .string ⟨#[]⟩, .slice none 0 0, .slice none 0 0⟩) (fun _ _ _ _ i _ => path.length - (intOf i).toNat)
  case atStart => exact ⟨trivial, 0, _, o, Nat.zero_le _, rfl, HBl1.out, Nat.le_refl _, HB01.out, HO.out.keep HBl1.out.size (fun k hk _ => HBl1.out.block k hk), HAd2.out, HR.out.symm, HB11.out⟩
  case round =>
    obtain ⟨-, i, u, oc, hi, rfl, hbl, hszr, hb0, hov, had, hg, hb1⟩ := hrel
    clear HR HB01 HB11 HBl1 HAd2
    have HB0 := Lib.hid hb0
    have HB1 := Lib.hid hb1
    have HBl := Lib.hid hbl
    have HOv := Lib.hid hov
    have HAd := Lib.hid had
    obtain ⟨hk256, hd256, hso⟩ := had.small
    have hwr := hb0.lt
    have hwr1 := hb1.lt
    by_cases hlt : i < path.length
    · have hia : (i : Int) < (path.length : Int) := by omega
      obtain ⟨pb, po, rfl, hpb, hpcell⟩ := HP.out.plainA (by rw [hpl]; omega)
      have hcs := hpcell i (.string ⟨(path[i]'hlt).toArray⟩) (by simp [strs, hlt])
      have hcs2 := (hbl.cell (p := ⟨pb, po + i, none⟩) hpb).trans hcs
      have hdr : path.drop i = path[i]'hlt :: path.drop (i + 1) := List.drop_eq_getElem_cons hlt
      have HG : Hid (getO oc (path[i]'hlt :: path.drop (i + 1)) = R) := by rw [← hdr]; exact hg
      have hsl := HS.out _ (List.getElem_mem hlt)
      generalize path[i]'hlt = s at *
      have HSt : Hid (∀ W, Below w.heap.size w W → Below wr.heap.size wr W → Calls Tryz.prog 32 #[u.val, .string ⟨s.toArray⟩] W (StepPost (stepO oc s) W)) := fun W hW hW2 => step_any _ oc u s W (HOv.out.later hW2) hk256 hd256 hso hsl (HEr.out W hW)
      obtain ⟨kv, dv, us, rfl, s1, s2, hul, hkid⟩ := hov.open_
      obtain ⟨A2, c2, rfl⟩ := s1.form
      obtain ⟨B2, d2, rfl⟩ := s2.form
      have HKid : Hid (∀ j (h : j < us.length), ObjV (fun k => k < w.heap.size) wr us[j] (oc.kids.getD j Ox.zero) ∧ Ad (oc.kids.getD j Ox.zero)) := fun j h => by
        have h2 : j < oc.kids.length := by omega
        rw [List.getD_eq_getElem?_getD, List.getElem?_eq_getElem h2, Option.getD_some]
        exact ⟨hkid j h2 h, had.kid _ (List.getElem_mem h2)⟩
      have HG2 : Hid ((if (stepO oc s).2.2 ≠ 0 then .error (stepO oc s).2.2 else if (stepO oc s).2.1 = false then .error 8 else getO (oc.kids.getD (stepO oc s).1.toNat Ox.zero) (path.drop (i + 1))) = R) := HG.out
      have HFd : Hid ((stepO oc s).2.1 = true → ∃ i : Nat, (stepO oc s).1 = (i : Int) ∧ i < oc.kids.length) := step_found had
      unfold V5.val at HSt
      dsimp only at HSt
      generalize (⟨s.toArray⟩ : ByteArray) = SS at *
      clear hkid
      generalize hn2 : oc.kids.length = n2 at *
      have HN2 := Lib.hid hn2
      generalize (strs oc.keys).length = n1 at *
      generalize hk1 : oc.kind = k1 at *
      generalize hi1 : oc.int = i1 at *
      generalize hT1 : (⟨oc.text.toArray⟩ : ByteArray) = T1 at *
      obtain ⟨x0, x1, x2, x3, x4⟩ := b5_cells HB0.out
      dsimp only at x0 x1 x2 x3 x4
      clear hg hdr hb0 hb1 hov had HAd hcs hpcell hk1 hi1 hT1 s1 hn2
      go_wp2_with fail
      refine (HSt.out _ HBl.out (Below.refl _ _)).mono ?_
      rintro e w2 ⟨rfl, hbl2⟩
      have HBl2 := Lib.hid (HBl.out.trans (hbl2.mono HBl.out.size))
      have HB02 := Lib.hid (HB0.out.below hbl2 HB0.out.lt)
      have HB12 := Lib.hid (HB1.out.below hbl2 HB1.out.lt)
      have hsm := s2.keep hbl2.size fun k hk hl => hbl2.block k hl
      have HKid2 : Hid (∀ j (h : j < us.length), ObjV (fun k => k < w.heap.size) w2 us[j] (oc.kids.getD j Ox.zero) ∧ Ad (oc.kids.getD j Ox.zero)) := fun j h => ⟨(HKid.out j h).1.later hbl2, (HKid.out j h).2⟩
      have hs12 := hbl2.size
      clear s2 hbl2 x0 x1 x2 x3 x4 HSt HG HKid
      generalize stepO oc s = st at *
      obtain ⟨a, b, c⟩ := st
      dsimp only at HG2 HFd ⊢
      obtain ⟨y0, y1, y2, y3, y4⟩ := b5_cells (v := ⟨.int .i64 0, .int .i64 0, .string ⟨#[]⟩, .slice none 0 0, .slice none 0 0⟩) HB12.out
      have z0 := fun k => Blk.frozen HB12.out k
      have hz := HB12.out.lt
      by_cases hc : c = 0
      case neg =>
        have hcb : (c != 0) = true := by simpa using hc
        have HR : Hid (R = .error c) := by have := HG2.out; rw [if_pos hc] at this; exact this.symm
        go_wp2_with fail
        have hbz := b5_put (v := ⟨.int .i64 0, .int .i64 0, .string ⟨#[]⟩, .slice none 0 0, .slice none 0 0⟩) HB12.out ⟨.int .i64 0, .int .i64 0, .string ⟨#[]⟩, .slice none 0 0, .slice none 0 0⟩
        have hfz := b5_frs (R := w.heap.size) (T := fun _ => False) (FrS.of_below HBl2.out (Nat.le_refl _)) (show w.heap.size ≤ w.heap.size + 1 by omega) ⟨.int .i64 0, .int .i64 0, .string ⟨#[]⟩, .slice none 0 0, .slice none 0 0⟩
        clear y0 y1 y2 y3 y4 z0
        refine bodyPost_ret (v := .tuple #[.agg #[.int .i64 0, .int .i64 0, .string ⟨#[]⟩, .slice none 0 0, .slice none 0 0], .int .i64 c]) ?_ rfl ?_
        · obtain ⟨z0, z1, z2, z3, z4⟩ := b5_cells hbz
          clear hbz hfz
          generalize World.setCell _ _ _ = W at *
          simp [results, Tryz.results15, go_sem, z0, z1, z2, z3, z4]
        · refine ⟨hfz.below (Nat.le_refl _) (fun _ h => h.elim), ?_⟩
          rw [HR.out]
      subst hc
      cases b with
      | false =>
        have HR : Hid (R = .error 8) := by have := HG2.out; rw [if_neg (by simp), if_pos rfl] at this; exact this.symm
        go_wp2_with fail
        have hbz := b5_put (v := ⟨.int .i64 0, .int .i64 0, .string ⟨#[]⟩, .slice none 0 0, .slice none 0 0⟩) HB12.out ⟨.int .i64 0, .int .i64 0, .string ⟨#[]⟩, .slice none 0 0, .slice none 0 0⟩
        have hfz := b5_frs (R := w.heap.size) (T := fun _ => False) (FrS.of_below HBl2.out (Nat.le_refl _)) (show w.heap.size ≤ w.heap.size + 1 by omega) ⟨.int .i64 0, .int .i64 0, .string ⟨#[]⟩, .slice none 0 0, .slice none 0 0⟩
        clear y0 y1 y2 y3 y4 z0
        refine bodyPost_ret (v := .tuple #[.agg #[.int .i64 0, .int .i64 0, .string ⟨#[]⟩, .slice none 0 0, .slice none 0 0], .int .i64 8]) ?_ rfl ?_
        · obtain ⟨z0, z1, z2, z3, z4⟩ := b5_cells hbz
          clear hbz hfz
          generalize World.setCell _ _ _ = W at *
          simp [results, Tryz.results15, go_sem, z0, z1, z2, z3, z4]
        · refine ⟨hfz.below (Nat.le_refl _) (fun _ h => h.elim), ?_⟩
          rw [HR.out]
      | true =>
        clear y0 y1 y2 y3 y4 z0
        obtain ⟨j, rfl, hj⟩ := HFd.out rfl
        have HG3 : Hid (getO (oc.kids.getD j Ox.zero) (path.drop (i + 1)) = R) := HG2.out
        have hju : j < us.length := by omega
        obtain ⟨hok, hadk⟩ := HKid2.out j hju
        obtain ⟨b, off, rfl, hbP, hbl, hcell⟩ := v5_at (by rw [hul]; exact hsm) (by omega)
        obtain ⟨y0, y1, y2, y3, y4⟩ := hcell j hju
        have HOk := Lib.hid hok
        have HAdk := Lib.hid hadk
        generalize oc.kids.getD j Ox.zero = ok at *
        generalize us[j] = uj at *
        obtain ⟨kv, dv, us2, rfl, t1, t2, -, -⟩ := hok.open_
        obtain ⟨A3, c3, rfl⟩ := t1.form
        obtain ⟨B3, d3, rfl⟩ := t2.form
        generalize hn3 : ok.kids.length = m2 at *
        generalize hn4 : (strs ok.keys).length = m1 at *
        generalize hk1 : ok.kind = k2 at *
        generalize hi1 : ok.int = i2 at *
        generalize hT1 : (⟨ok.text.toArray⟩ : ByteArray) = T2 at *
        dsimp only at y0 y1 y2 y3 y4
        have hjj : (j : Int) < (n2 : Int) := by omega
        obtain ⟨x0, x1, x2, x3, x4⟩ := b5_cells HB02.out
        dsimp only at x0 x1 x2 x3 x4
        have z0 := fun k => Blk.frozen HB02.out k
        have hz := HB02.out.lt
        clear t1 t2 hok hadk hn3 hn4 hk1 hi1 hT1 HG2 HKid2 HFd hcell hsm
        go_wp2_with fail
        have hbz := b5_put HB02.out ⟨.int .i64 k2, .int .i64 i2, .string T2, .slice A3 m1 c3, .slice B3 m2 d3⟩
        have hfw := b5_frs' (R := w2.heap.size) (T := fun k => k = w.heap.size) (FrS.refl _ _ w2) rfl ⟨.int .i64 k2, .int .i64 i2, .string T2, .slice A3 m1 c3, .slice B3 m2 d3⟩
        have hfz := b5_frs (R := w.heap.size) (T := fun _ => False) (FrS.of_below HBl2.out (Nat.le_refl _)) (Nat.le_refl _) ⟨.int .i64 k2, .int .i64 i2, .string T2, .slice A3 m1 c3, .slice B3 m2 d3⟩
        refine ⟨⟨trivial, i + 1, _, ok, by omega, by simp, hfz.below (Nat.le_refl _) (fun _ h => h.elim), Nat.le_trans (by omega) hfw.size, hbz, HOk.out.keep hfw.size (fun k hk hl => hfw.block k hl (by omega)), HAdk.out, HG3.out, hfw.blk HB12.out HB12.out.lt (by omega)⟩, by simp [intOf]; omega⟩
    · obtain rfl : i = path.length := by omega
      have HR : Hid (R = .ok oc) := by rw [List.drop_length] at hg; exact hg.symm
      obtain ⟨x0, x1, x2, x3, x4⟩ := b5_cells HB0.out
      have HCl : Hid (Calls Tryz.prog 28 #[u.val] wr (ClonePost oc wr)) := clone_any _ oc u _ wr (Nat.le_refl _) had hov
      unfold V5.val at HCl
      clear hov hb0 hb1 hbl hg had
      go_wp2_with fail
      refine HCl.out.mono ?_
      rintro e w2 ⟨hbl2, v, rfl, hov⟩
      have HBl2 := Lib.hid (HBl.out.trans (hbl2.mono HBl.out.size))
      have HB12 := Lib.hid (HB1.out.below hbl2 HB1.out.lt)
      have HOv := Lib.hid hov
      obtain ⟨kv, dv, us, rfl, s1, s2, -, -⟩ := hov.objV.open_
      obtain ⟨A9, c9, rfl⟩ := s1.form
      obtain ⟨B9, d9, rfl⟩ := s2.form
      unfold V5.val
      dsimp only
      generalize hn3 : oc.kids.length = m9 at *
      generalize hn4 : (strs oc.keys).length = n9 at *
      generalize hk1 : oc.kind = k9 at *
      generalize hi1 : oc.int = i9 at *
      generalize hT1 : (⟨oc.text.toArray⟩ : ByteArray) = T9 at *
      obtain ⟨y0, y1, y2, y3, y4⟩ := b5_cells (v := ⟨.int .i64 0, .int .i64 0, .string ⟨#[]⟩, .slice none 0 0, .slice none 0 0⟩) HB12.out
      have z0 := fun k => Blk.frozen HB12.out k
      have hz := HB12.out.lt
      clear hov s1 s2 hn3 hn4 hk1 hi1 hT1 hbl2 x0 x1 x2 x3 x4
      go_wp2_with fail
      have hbz := b5_put (v := ⟨.int .i64 0, .int .i64 0, .string ⟨#[]⟩, .slice none 0 0, .slice none 0 0⟩) HB12.out ⟨.int .i64 k9, .int .i64 i9, .string T9, .slice A9 n9 c9, .slice B9 m9 d9⟩
      have hfw := b5_frs' (R := w2.heap.size) (T := fun k => k = w.heap.size + 1) (FrS.refl _ _ w2) rfl ⟨.int .i64 k9, .int .i64 i9, .string T9, .slice A9 n9 c9, .slice B9 m9 d9⟩
      have hfz := b5_frs (R := w.heap.size) (T := fun _ => False) (FrS.of_below HBl2.out (Nat.le_refl _)) (show w.heap.size ≤ w.heap.size + 1 by omega) ⟨.int .i64 k9, .int .i64 i9, .string T9, .slice A9 n9 c9, .slice B9 m9 d9⟩
      clear y0 y1 y2 y3 y4 z0
      refine bodyPost_ret (v := .tuple #[.agg #[.int .i64 k9, .int .i64 i9, .string T9, .slice A9 n9 c9, .slice B9 m9 d9], .int .i64 0]) ?_ rfl ?_
      · obtain ⟨z0, z1, z2, z3, z4⟩ := b5_cells hbz
        clear hbz hfz hfw
        generalize World.setCell _ _ _ = W at *
        simp [results, Tryz.results15, go_sem, z0, z1, z2, z3, z4]
      · refine ⟨hfz.below (Nat.le_refl _) (fun _ h => h.elim), ?_⟩
        rw [HR.out]
        exact ⟨_, rfl, (HOv.out.keep fun x hx hl => hfw.block x hl (by omega)).mono (G := fun x => w.heap.size ≤ x) fun x hx => by omega⟩
end Go.Proofs.YthbdhijkdldmoaaGreatDoor
