/- The walk of tables: a table is written. -/
import Derived.Test.YtcbnelklilamgaaDoorVryPar
namespace Go.Proofs.YtcbnelklilamgaaDoor
open Go.RowKit Vr
def tbF : List Src := [[97], [98]]
def tbR : List (List Src) := [[[49], [120, 34, 121]], [[], [50]]]
theorem tb_print : printP tbF tbR = (0, [97, 44, 98, 10, 49, 44, 34, 120, 34, 34, 121, 34, 10, 34, 34, 44, 50, 10]) := by decide +kernel
theorem stm_two {w : World} {g : Nat} {t : TypeId} {a b : Src} (h : Blk w g t #[.string (Bs a), .string (Bs b)]) : StM (fun _ => True) w (.slice (some ⟨g, 0, none⟩) 2 2) [a, b] :=
  ⟨_, 2, rfl, Nat.le_refl _, by decide, fun _ => ⟨g, 0, rfl, trivial, h.lt, fun k u hu => by rw [Nat.zero_add, h.cell k]; simpa [scells] using hu⟩⟩
set_option maxRecDepth 100000 in
set_option maxHeartbeats 8000000 in
theorem tables_any (w : World) (hM : Mx w) :
    Calls Tryd.prog 6 #[] w fun e w' => e = .returned (.bool true) ∧ Below w.heap.size w w' := by
  have b1 := (Below.refl w.heap.size w).alloc (Nat.le_refl _) (.cells #[.string ⟨#[97]⟩, .string ⟨#[98]⟩] 9)
  have b2 := b1.alloc (by simp) (.cells #[.string ⟨#[49]⟩, .string ⟨#[120, 34, 121]⟩] 9)
  have b3 := b2.alloc (by simp; omega) (.cells #[.string ⟨#[]⟩, .string ⟨#[50]⟩] 9)
  have b4 := b3.alloc (by simp; omega) (.cells #[.slice (some ⟨w.heap.size + 1, 0, none⟩) 2 2, .slice (some ⟨w.heap.size + 1 + 1, 0, none⟩) 2 2] 22)
  have k0 := (((Blk.new w 9 #[.string ⟨#[97]⟩, .string ⟨#[98]⟩]).alloc (.cells #[.string ⟨#[49]⟩, .string ⟨#[120, 34, 121]⟩] 9)).alloc (.cells #[.string ⟨#[]⟩, .string ⟨#[50]⟩] 9)).alloc (.cells #[.slice (some ⟨w.heap.size + 1, 0, none⟩) 2 2, .slice (some ⟨w.heap.size + 1 + 1, 0, none⟩) 2 2] 22)
  have k1 := ((Blk.new (w.alloc (.cells #[.string ⟨#[97]⟩, .string ⟨#[98]⟩] 9)) 9 #[.string ⟨#[49]⟩, .string ⟨#[120, 34, 121]⟩]).alloc (.cells #[.string ⟨#[]⟩, .string ⟨#[50]⟩] 9)).alloc (.cells #[.slice (some ⟨w.heap.size + 1, 0, none⟩) 2 2, .slice (some ⟨w.heap.size + 1 + 1, 0, none⟩) 2 2] 22)
  have k2 := (Blk.new ((w.alloc (.cells #[.string ⟨#[97]⟩, .string ⟨#[98]⟩] 9)).alloc (.cells #[.string ⟨#[49]⟩, .string ⟨#[120, 34, 121]⟩] 9)) 9 #[.string ⟨#[]⟩, .string ⟨#[50]⟩]).alloc (.cells #[.slice (some ⟨w.heap.size + 1, 0, none⟩) 2 2, .slice (some ⟨w.heap.size + 1 + 1, 0, none⟩) 2 2] 22)
  have k3 := Blk.new (((w.alloc (.cells #[.string ⟨#[97]⟩, .string ⟨#[98]⟩] 9)).alloc (.cells #[.string ⟨#[49]⟩, .string ⟨#[120, 34, 121]⟩] 9)).alloc (.cells #[.string ⟨#[]⟩, .string ⟨#[50]⟩] 9)) 22 #[.slice (some ⟨w.heap.size + 1, 0, none⟩) 2 2, .slice (some ⟨w.heap.size + 1 + 1, 0, none⟩) 2 2]
  rw [show (w.alloc (.cells #[.string ⟨#[97]⟩, .string ⟨#[98]⟩] 9)).heap.size = w.heap.size + 1 by simp] at k1
  rw [show ((w.alloc (.cells #[.string ⟨#[97]⟩, .string ⟨#[98]⟩] 9)).alloc (.cells #[.string ⟨#[49]⟩, .string ⟨#[120, 34, 121]⟩] 9)).heap.size = w.heap.size + 1 + 1 by simp] at k2
  rw [show (((w.alloc (.cells #[.string ⟨#[97]⟩, .string ⟨#[98]⟩] 9)).alloc (.cells #[.string ⟨#[49]⟩, .string ⟨#[120, 34, 121]⟩] 9)).alloc (.cells #[.string ⟨#[]⟩, .string ⟨#[50]⟩] 9)).heap.size = w.heap.size + 1 + 1 + 1 by simp] at k3
  have hM4 := hM.later b4
  go_enter Tryd.func6, Tryd.ntmps6
  go_wp2_with fail
  generalize (((w.alloc (.cells #[.string ⟨#[97]⟩, .string ⟨#[98]⟩] 9)).alloc (.cells #[.string ⟨#[49]⟩, .string ⟨#[120, 34, 121]⟩] 9)).alloc (.cells #[.string ⟨#[]⟩, .string ⟨#[50]⟩] 9)).alloc (.cells #[.slice (some ⟨w.heap.size + 1, 0, none⟩) 2 2, .slice (some ⟨w.heap.size + 1 + 1, 0, none⟩) 2 2] 22) = W at *
  have h0 := stm_two (a := [97]) (b := [98]) k0
  have h1 := stm_two (a := [49]) (b := [120, 34, 121]) k1
  have h2 := stm_two (a := []) (b := [50]) k2
  have hr : RwM (fun _ => True) W (.slice (some ⟨w.heap.size + 1 + 1 + 1, 0, none⟩) 2 2) tbR :=
    ⟨[.slice (some ⟨w.heap.size + 1, 0, none⟩) 2 2, .slice (some ⟨w.heap.size + 1 + 1, 0, none⟩) 2 2], rfl, ⟨_, 2, rfl, Nat.le_refl _, by decide, fun _ => ⟨_, 0, rfl, trivial, k3.lt, fun k u hu => by rw [Nat.zero_add, k3.cell k]; simpa using hu⟩⟩, fun i a b => by
      match i, a, b with
      | 0, _, _ => exact h1
      | 1, _, _ => exact h2⟩
  have HP := print_any tbF tbR _ _ _ _ W h0 hr (by decide) (by decide) hM4
  rw [tb_print] at HP
  refine HP.mono ?_
  rintro e w5 ⟨rfl, hb5⟩
  have HB := Lib.hid (b4.trans (hb5.mono b4.size))
  clear hb5 HP b1 b2 b3 b4 k0 k1 k2 k3 h0 h1 h2 hr hM hM4
  go_wp2_with fail
  go_ret
  exact ⟨rfl, HB.out⟩
end Go.Proofs.YtcbnelklilamgaaDoor
