/- The walks of across, extent and pile. -/
import Derived.Test.YtjmanooedgfbaaaDoorFoldMem
import Derived.Deep.DeepMust
namespace Go.Proofs.YtjmanooedgfbaaaDoor
open Go.RowKit
theorem Sl.sat {w : World} {ok : Nat → Prop} {v : Value} {xs : List Value} (h : Sl w ok v xs) {i : Nat} (hi : i < xs.length) : ∃ b off c, v = .slice (some ⟨b, off, none⟩) xs.length c ∧ ok b ∧ b < w.heap.size ∧ xs.length ≤ c ∧ w.cell? ⟨b, off + i, none⟩ = some (xs.getD i undef) := by
  obtain ⟨b, off, c, hv, hb, hlt, hc⟩ := h.plain (by omega)
  have h2 := hv ▸ h
  refine ⟨b, off, c, hv, hb, hlt, h2.cap_le.2.1, hc i _ ?_⟩
  rw [List.getD_eq_getElem?_getD, List.getElem?_eq_getElem hi]; rfl
set_option maxHeartbeats 1000000 in
theorem across_any (f : Step) (w : World) :
    Calls Tryd.prog 28 #[.agg #[.int .i64 f.side, .int .i64 f.line, .bool f.over]] w fun e w' => e = .returned (.bool (acr f)) ∧ w.alloc (.cells #[.int .i64 f.side, .int .i64 f.line, .bool f.over] 33) = w' := by
  obtain ⟨side, line, over⟩ := f
  dsimp only
  by_cases h0 : side = 0
  · subst h0
    go_enter Tryd.func28, Tryd.ntmps28
    go_wp2
    go_ret
    exact ⟨rfl, rfl⟩
  · have e0 : (side == 0) = false := by rw [beq_eq_false_iff_ne]; exact h0
    have e1 : acr ⟨side, line, over⟩ = (side == 1) := by simp [acr, e0]
    rw [e1]
    go_enter Tryd.func28, Tryd.ntmps28
    go_wp2
    go_ret
    exact ⟨rfl, rfl⟩
set_option maxHeartbeats 1000000 in
theorem extent_any (f : Step) (S : Sheet) (v : Value) (A : Option Addr) (n c : Nat) (hv : v = .slice A n c) (w : World) :
    Calls Tryd.prog 21 #[.agg #[.int .i64 (S.cols : Int), .int .i64 (S.rows : Int), v], .agg #[.int .i64 f.side, .int .i64 f.line, .bool f.over]] w fun e w' => e = .returned (.int .i64 (ext S f : Nat)) ∧ Below w.heap.size w w' := by
  subst hv
  have HA := Lib.hid (across_any f)
  unfold ext
  cases ha : acr f
  all_goals
    rw [ha] at HA
    clear ha
    go_enter Tryd.func21, Tryd.ntmps21
    go_wp2_with (go_at_call 28; refine (HA.out _).mono ?_; rintro e w' ⟨rfl, rfl⟩)
    go_ret
    exact ⟨rfl, (((Below.refl _ _).alloc (Nat.le_refl _) _).alloc (by simp) _).alloc (by simp; omega) _⟩
/-- The piles as they lie in memory: a slice of slices. -/
structure Pl (ok : Nat → Prop) (w : World) (v : Value) (vals : List Value) (ps : List (List Leaf)) : Prop where
  len : vals.length = ps.length
  out : Sl w ok v vals
  inn : ∀ i u, vals[i]? = some u → Lv w ok u (ps.getD i [])
theorem Pl.later {ok : Nat → Prop} {w w' : World} {v : Value} {vals : List Value} {ps : List (List Leaf)} (h : Pl ok w v vals ps) (hb : Below w.heap.size w w') : Pl ok w' v vals ps :=
  ⟨h.len, h.out.later hb, fun i u hu => SlM.later (h.inn i u hu) hb⟩
theorem Pl.mono {ok ok' : Nat → Prop} {w : World} {v : Value} {vals : List Value} {ps : List (List Leaf)} (h : Pl ok w v vals ps) (hk : ∀ b, b < w.heap.size → ok b → ok' b) : Pl ok' w v vals ps :=
  ⟨h.len, h.out.mono hk, fun i u hu => SlM.mono (h.inn i u hu) hk⟩
theorem Pl.far {ok : Nat → Prop} {w : World} {v : Value} {vals : List Value} {ps : List (List Leaf)} (h : Pl ok w v vals ps) {p : Addr} (hp : ¬ ok p.block) (u : Value) : Pl ok (w.setCell p u) v vals ps :=
  ⟨h.len, h.out.far hp u, fun i x hx => SlM.far (h.inn i x hx) hp u⟩
/-- The slice value of a pile. -/
def pv (vals : List Value) (S : Sheet) (c r : Int) : Value := if 0 ≤ c ∧ 0 ≤ r ∧ c < S.cols ∧ r < S.rows then vals.getD (r.toNat * S.cols + c.toNat) undef else .slice none 0 0
theorem place_lt {c r C R : Nat} (hc : c < C) (hr : r < R) : r * C + c < R * C := by
  have h1 : (r + 1) * C ≤ R * C := Nat.mul_le_mul_right C hr
  rw [Nat.succ_mul] at h1; omega
theorem pv_reads {ok : Nat → Prop} {w : World} {v : Value} {vals : List Value} {S : Sheet} (h : Pl ok w v vals (pilesOf S)) (c r : Int) : Lv w (fun _ => True) (pv vals S c r) (pileAt S c r) := by
  unfold pv pileAt
  by_cases hin : 0 ≤ c ∧ 0 ≤ r ∧ c < S.cols ∧ r < S.rows
  · rw [if_pos hin, if_pos hin]
    have hlt := place_lt (c := c.toNat) (r := r.toNat) (C := S.cols) (R := S.rows) (by omega) (by omega)
    have hl : vals.length = S.rows * S.cols := h.len.trans (pilesOf_length S)
    have h1 := h.inn (r.toNat * S.cols + c.toNat) (vals.getD (r.toNat * S.cols + c.toNat) undef) (by
      rw [List.getD_eq_getElem?_getD, List.getElem?_eq_getElem (by omega)]; rfl)
    have h2 := pilesOf_get S (c := c.toNat) (r := r.toNat) (by omega) (by omega)
    have e : (pilesOf S).getD (r.toNat * S.cols + c.toNat) [] = S.P c.toNat r.toNat := by rw [List.getD_eq_getElem?_getD, h2]; rfl
    rw [e] at h1
    exact SlM.mono h1 fun _ _ _ => trivial
  · rw [if_neg hin, if_neg hin]; exact SlM.nil _ _
set_option maxHeartbeats 1000000 in
theorem pile_any {ok : Nat → Prop} (S : Sheet) (v : Value) (vals : List Value) (c r : Int) (w : World) (h : Pl ok w v vals (pilesOf S)) (hC : S.cols ≤ 8) (hR : S.rows ≤ 8) (hc : -1000 ≤ c ∧ c ≤ 1000) (hr : -1000 ≤ r ∧ r ≤ 1000) :
    Calls Tryd.prog 29 #[.agg #[.int .i64 (S.cols : Int), .int .i64 (S.rows : Int), v], .int .i64 c, .int .i64 r] w fun e w' => e = .returned (pv vals S c r) ∧ w.alloc (.cells #[.int .i64 (S.cols : Int), .int .i64 (S.rows : Int), v] 67) = w' := by
  have HV := Lib.hid (pv_reads h c r)
  have HP := Lib.hid h
  obtain ⟨Ao, co, hv⟩ := h.out.form
  clear h
  obtain ⟨hc0, hc1⟩ := hc
  obtain ⟨hr0, hr1⟩ := hr
  by_cases hin : 0 ≤ c ∧ 0 ≤ r ∧ c < S.cols ∧ r < S.rows
  · obtain ⟨k0, k1, k2, k3⟩ := hin
    obtain ⟨c, rfl⟩ := Int.eq_ofNat_of_zero_le k0
    obtain ⟨r, rfl⟩ := Int.eq_ofNat_of_zero_le k1
    have hlt := place_lt (c := c) (r := r) (C := S.cols) (R := S.rows) (by omega) (by omega)
    have hl : vals.length = S.rows * S.cols := HP.out.len.trans (pilesOf_length S)
    obtain ⟨b, off, cc, hv2, _, _, hcap, hcell⟩ := HP.out.out.sat (i := r * S.cols + c) (by omega)
    have he : pv vals S (c : Int) (r : Int) = vals.getD (r * S.cols + c) undef := by
      unfold pv; rw [if_pos ⟨k0, k1, k2, k3⟩]; simp
    rw [he] at HV ⊢
    obtain ⟨A1, c1, hv1⟩ := SlM.form HV.out
    rw [hv1] at hcell ⊢
    rw [hl] at hv2
    generalize (pileAt S (c : Int) (r : Int)).length = n1 at *
    subst hv2
    have hm0 : r * S.cols ≤ 8 * 8 := Nat.mul_le_mul (by omega) hC
    have hm1 : S.rows * S.cols ≤ 8 * 8 := Nat.mul_le_mul hR hC
    have hmul : (r : Int) * (S.cols : Int) = ((r * S.cols : Nat) : Int) := by simp
    generalize r * S.cols = m at *
    generalize S.rows * S.cols = M at *
    clear HV HP he hv hv1 hl hcap
    go_enter Tryd.func29, Tryd.ntmps29
    go_wp2
    go_ret
    exact ⟨rfl, rfl⟩
  · have he : pv vals S c r = .slice none 0 0 := by unfold pv; rw [if_neg hin]
    rw [he]
    subst hv
    clear HV HP he
    by_cases h1 : c < 0
    · go_enter Tryd.func29, Tryd.ntmps29
      go_wp2
      go_ret
      exact ⟨rfl, rfl⟩
    · by_cases h2 : r < 0
      · have h1' : 0 ≤ c := by omega
        clear hin
        go_enter Tryd.func29, Tryd.ntmps29
        go_wp2
        go_ret
        exact ⟨rfl, rfl⟩
      · by_cases h3 : c < S.cols
        · have h4 : (S.rows : Int) ≤ r := by omega
          have h1' : 0 ≤ c := by omega
          have h2' : 0 ≤ r := by omega
          clear hin
          go_enter Tryd.func29, Tryd.ntmps29
          go_wp2
          go_ret
          exact ⟨rfl, rfl⟩
        · have h3' : (S.cols : Int) ≤ c := by omega
          have h1' : 0 ≤ c := by omega
          have h2' : 0 ≤ r := by omega
          clear hin
          go_enter Tryd.func29, Tryd.ntmps29
          go_wp2
          go_ret
          exact ⟨rfl, rfl⟩
end Go.Proofs.YtjmanooedgfbaaaDoor
