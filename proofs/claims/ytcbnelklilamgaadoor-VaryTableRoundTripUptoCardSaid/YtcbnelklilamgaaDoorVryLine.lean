/- The walk of line: the values of one line. -/
import Derived.Test.YtcbnelklilamgaaDoorVryVal
namespace Go.Proofs.YtcbnelklilamgaaDoor
open Go.RowKit Vr
theorem scan_short : ∀ (n : Nat) (s acc v : Src) (e : UInt8) (r : Src), s.length ≤ n → scanQ acc s = some (v, e, r) → r.length < s.length
  | n, [], acc, v, e, r, _, h => by rw [scanQ] at h; cases h
  | n, [_], acc, v, e, r, _, h => by rw [scanQ] at h; cases h
  | 0, c :: d :: t, acc, v, e, r, hn, h => by simp at hn
  | n + 1, c :: d :: t, acc, v, e, r, hn, h => by
    rw [scanQ] at h
    simp only [List.length_cons] at hn ⊢
    split at h
    · have := scan_short n (d :: t) _ v e r (by simp; omega) h
      simp only [List.length_cons] at this
      omega
    · split at h
      · have := scan_short n t _ v e r (by omega) h
        omega
      · split at h
        · injection h with h
          have : t = r := congrArg (fun x : Src × UInt8 × Src => x.2.2) h
          subst this
          omega
        · cases h
theorem value_short {s v : Src} {e : UInt8} {r : Src} (h : valueP s = some (v, e, r)) : r.length < s.length := by
  unfold valueP at h
  split at h
  · next hq =>
    cases s with
    | nil => cases hq
    | cons c t =>
      have := scan_short t.length t [] v e r (Nat.le_refl _) h
      simp only [List.length_cons]
      omega
  · split at h
    · cases h
    · next h2 =>
      split at h
      · cases h
      · injection h with h
        have : s.drop (s.findIdx spec + 1) = r := congrArg (fun x : Src × UInt8 × Src => x.2.2) h
        subst this
        rw [List.length_drop]
        omega
theorem eSs : ElemT Tryd.prog 22 9 (.string ⟨#[]⟩) 16 := ElemT.mk_ Tryd.underlying22 (by kernel_rfl) rfl
def strSz (v : Value) : Nat := match v with | .string b => b.size | _ => 0
theorem scells_append (a b : List Src) : scells (a ++ b) = scells a ++ scells b := by simp [scells]
/-- What line leaves. -/
def LineE (B : Nat) (q : Option (List Src × Src)) (e : Ending) (w' : World) : Prop :=
  (q = none → e = .returned (.tuple #[.slice none 0 0, .string ⟨#[]⟩, .bool false])) ∧
  ∀ l r, q = some (l, r) → ∃ (A : Option Addr) (c : Nat), e = .returned (.tuple #[.slice A l.length c, .string (Bs r), .bool true]) ∧ w'.ownsRow B 9 1 (.slice A l.length c) l.length (scells l)
set_option maxRecDepth 100000 in
set_option maxHeartbeats 16000000 in
theorem line_any (s : Src) (w : World) (hs : s.length ≤ 8192) :
    Calls Tryd.prog 26 #[.string (Bs s)] w fun e w' => LineE w.heap.size (lineP (s.length + 1) s) e w' ∧ Below w.heap.size w w' := by
  have HL : Hid (lineP (s.length + 1) s = (lineP (s.length + 1) s).map fun x => (([] : List Src) ++ x.1, x.2)) := by
    cases lineP (s.length + 1) s <;> exact rfl
  generalize hLP : lineP (s.length + 1) s = LP
  rw [hLP] at HL
  have HL0 : Hid (LP = (lineP (s.length + 1) s).map fun x => (([] : List Src) ++ x.1, x.2)) := by rw [hLP]; exact HL.out
  have HS0 := Lib.hid hs
  clear HL hLP
  go_enter Tryd.func26, Tryd.ntmps26
  go_wp2_with fail
  go_loopw [0, 5, 6, 7, 8, 9] (fun v0 v5 _ _ _ _ wz => True ∧ ∃ (dn : List Src) (cur : Src) (n k : Nat) (A : Option Addr) (c : Nat), v0 = .string (Bs cur) ∧ v5 = .slice A k c ∧ k = dn.length ∧ k + cur.length ≤ 8192 ∧ cur.length < n ∧ LP = (lineP n cur).map (fun x => (dn ++ x.1, x.2)) ∧ wz.ownsRow w.heap.size 9 1 (.slice A k c) k (scells dn) ∧ Below w.heap.size w wz) (fun v0 _ _ _ _ _ _ => strSz v0)
  case atStart => exact ⟨trivial, [], s, s.length + 1, 0, none, 0, rfl, rfl, rfl, by have := HS0.out; omega, by omega, HL0.out, ⟨rfl, .inl ⟨rfl, rfl⟩⟩, Below.refl _ _⟩
  case round =>
    obtain ⟨-, dn, cur, n, k, A, c, rfl, rfl, hk, hl, hn, hlp, hown, hb⟩ := hrel
    have HK := Lib.hid hk
    have HLp := Lib.hid hlp
    have HO := Lib.hid hown
    have HB := Lib.hid hb
    have hsz := hb.size
    have HV := Lib.hid (value_any cur wr (by omega))
    clear hk hlp hown hb
    obtain ⟨n, rfl⟩ : ∃ m, n = m + 1 := ⟨n - 1, by omega⟩
    cases hv : valueP cur with
    | none =>
      rw [hv] at HV
      have H1 : Hid (LP = none) := by
        have h := HLp.out
        rw [lineP, hv] at h
        exact h
      clear hv
      go_wp2_with fail
      refine HV.out.mono ?_
      rintro e w2 ⟨rfl, hb2⟩
      have HB2 := Lib.hid (HB.out.trans (hb2.mono hsz))
      clear hb2
      unfold valT
      go_wp2_with fail
      go_ret3
      exact ⟨⟨fun _ => rfl, fun l r h => by rw [H1.out] at h; cases h⟩, HB2.out⟩
    | some x =>
      obtain ⟨v, e, r⟩ := x
      rw [hv] at HV
      have hsh := value_short hv
      have H1 : Hid (LP = (if e = 10 then some ([v], r) else (lineP n r).map fun x => (v :: x.1, x.2)).map fun x => (dn ++ x.1, x.2)) := by
        have h := HLp.out
        rw [lineP, hv] at h
        exact h
      clear hv
      have hv2 := bs_size r
      unfold valT at HV
      have hown9 : Hid (∀ k', (Value.slice A k c).ownBlock = some k' → w.heap.size ≤ k') := fun k' hk' => (own_lt HO.out k' hk').1
      by_cases he : e = 10
      · have u0 : ((e.toNat : Int) == 10) = true := by rw [he]; rfl
        have H2 : Hid (LP = some (dn ++ [v], r)) := by rw [H1.out, if_pos he]; exact rfl
        clear he H1
        go_wp2_with fail
        refine HV.out.mono ?_
        rintro e2 w2 ⟨rfl, hb2⟩
        have HB2 := Lib.hid (HB.out.trans (hb2.mono hsz))
        have HO2 := Lib.hid (own_below (own_below HO.out hb2) ((Below.refl w2.heap.size w2).alloc (Nat.le_refl _) (.cells #[.string (Bs v)] 9)))
        have hs2 := hb2.size
        clear hb2
        go_wp2_with (at_builtin; go_must (refine wpList_push eSs rfl (.tmp 19) (.tmp 21) rfl w.heap.size (.slice A k c) k _ rfl HO2.out ⟨w2.heap.size, 0, none⟩ 1 (.string (Bs v)) rfl (new_one _ _ _) rfl (by omega) (by omega) (by simp; omega) ?_); go_must (intro v' w11 hown11 hgr11 hk11; have HO11 := Lib.hid hown11; have HGr11 := Lib.hid hgr11; obtain ⟨A11, c11, rfl⟩ := own_form hown11; clear hown11 hgr11 hk11))
        have HB11 : Hid (Below w.heap.size w w11) := (HB2.out.alloc (by omega) _).grown HGr11.out (by simp; omega) hown9.out
        have HO12 : Hid (w11.ownsRow w.heap.size 9 1 (.slice A11 (k + 1) c11) (k + 1) (scells (dn ++ [v]))) := by rw [scells_append]; exact HO11.out
        have HK2 : Hid (k + 1 = (dn ++ [v]).length) := by rw [List.length_append, List.length_singleton, HK.out]; exact rfl
        go_wp2_with fail
        go_ret3
        refine ⟨⟨fun h => (by rw [H2.out] at h; cases h), fun l q h => ?_⟩, HB11.out⟩
        rw [H2.out] at h
        injection h with h
        injection h with h1 h2
        subst h1; subst h2
        rw [← HK2.out]
        exact ⟨A11, c11, rfl, HO12.out⟩
      · have u0 : ((e.toNat : Int) == 10) = false := by
          rw [beq_eq_false_iff_ne]
          intro h
          exact he (UInt8.toNat_inj.1 (by have : ((10 : UInt8).toNat : Int) = 10 := rfl; omega))
        have H2 : Hid (LP = (lineP n r).map fun x => (dn ++ [v] ++ x.1, x.2)) := by
          rw [H1.out, if_neg he, Option.map_map]
          have : ((fun x : List Src × Src => (dn ++ x.1, x.2)) ∘ fun x : List Src × Src => (v :: x.1, x.2)) = fun x => (dn ++ [v] ++ x.1, x.2) := by
            funext x
            simp
          rw [this]
          exact rfl
        clear he H1
        go_wp2_with fail
        refine HV.out.mono ?_
        rintro e2 w2 ⟨rfl, hb2⟩
        have HB2 := Lib.hid (HB.out.trans (hb2.mono hsz))
        have HO2 := Lib.hid (own_below (own_below HO.out hb2) ((Below.refl w2.heap.size w2).alloc (Nat.le_refl _) (.cells #[.string (Bs v)] 9)))
        have hs2 := hb2.size
        clear hb2
        go_wp2_with (at_builtin; go_must (refine wpList_push eSs rfl (.tmp 19) (.tmp 21) rfl w.heap.size (.slice A k c) k _ rfl HO2.out ⟨w2.heap.size, 0, none⟩ 1 (.string (Bs v)) rfl (new_one _ _ _) rfl (by omega) (by omega) (by simp; omega) ?_); go_must (intro v' w11 hown11 hgr11 hk11; have HO11 := Lib.hid hown11; have HGr11 := Lib.hid hgr11; obtain ⟨A11, c11, rfl⟩ := own_form hown11; clear hown11 hgr11 hk11))
        have HB11 : Hid (Below w.heap.size w w11) := (HB2.out.alloc (by omega) _).grown HGr11.out (by simp; omega) hown9.out
        have HO12 : Hid (w11.ownsRow w.heap.size 9 1 (.slice A11 (k + 1) c11) (k + 1) (scells (dn ++ [v]))) := by rw [scells_append]; exact HO11.out
        have HK2 : Hid (k + 1 = (dn ++ [v]).length) := by rw [List.length_append, List.length_singleton, HK.out]; exact rfl
        go_wp2_with fail
        refine ⟨⟨trivial, dn ++ [v], r, n, k + 1, A11, c11, rfl, rfl, HK2.out, by omega, by omega, H2.out, HO12.out, HB11.out⟩, ?_⟩
        show (Bs r).size < (Bs cur).size
        rw [bs_size, bs_size]
        exact hsh
end Go.Proofs.YtcbnelklilamgaaDoor
