/- The walks of strings.Builder's copyCheck, WriteByte and WriteString at this seat's dump (the library's worked proofs, turned to it). -/
import Derived.Lib.Builder
import Derived.Lib.AppendStr
import Derived.Laws.Externs
import Derived.Test.YtdibgloaknnfgaaProg
import Derived.Test.YtdibgloaknnfgaaKit
namespace Go.Proofs.Ytdibgloaknnfgaa.Pq
open Go.RowKit
theorem own_not {w : World} {g base n size : Nat} {t e : TypeId} {cs : Array Value} {v : Value} {xs : List Value} (h : Blk w g t cs) (hte : t ≠ e) (hr : w.ownsRow base e size v n xs) : v.ownBlock ≠ some g := by
  rcases hr.2 with ⟨rfl, _⟩ | ⟨g', cap, cur, rfl, _, hh, _⟩
  · simp [Value.ownBlock]
  · intro e'
    obtain rfl : g' = g := by simpa [Value.ownBlock] using e'
    have := (show w.heap[g']? = _ from h).symm.trans hh
    simp at this
    exact hte this.2
/-- Blocks of other types than bytes stay, but for the builder's own. -/
def KeepB (b : Nat) (w w' : World) : Prop := ∀ g t cs, Blk w g t cs → t ≠ 5 → g ≠ b → Blk w' g t cs
theorem KeepB.refl (b : Nat) (w : World) : KeepB b w w := fun _ _ _ h _ _ => h
theorem KeepB.trans {b : Nat} {w a c : World} (h : KeepB b w a) (k : KeepB b a c) : KeepB b w c := fun g t cs hb ht hg => k g t cs (h g t cs hb ht hg) ht hg
theorem KeepB.set {b : Nat} (w : World) (i : Nat) (u : Value) : KeepB b w (w.setCell ⟨b, i, none⟩ u) := fun _ _ _ hb _ hg => hb.far hg u
theorem KeepB.alloc {b : Nat} (w : World) (o : Obj) : KeepB b w (w.alloc o) := fun _ _ _ hb _ _ => hb.alloc o
theorem KeepB.grown {b base n size : Nat} {w w' : World} {v : Value} {xs : List Value} (hr : w.ownsRow base 5 size v n xs) (o : Obj) (hg : (w.alloc o).grownBy w' v.ownBlock) : KeepB b w w' := fun _ _ _ hb ht _ => (hb.alloc o).grown hg (Ne.symm (own_not hb ht hr))
theorem KeepB.grown0 {b base n size : Nat} {w w' : World} {v : Value} {xs : List Value} (hr : w.ownsRow base 5 size v n xs) (hg : w.grownBy w' v.ownBlock) : KeepB b w w' := fun _ _ _ hb ht _ => hb.grown hg (Ne.symm (own_not hb ht hr))
/-- A packer in block b whose bytes lie in blocks from R on. -/
def PB (R b : Nat) (p : Value) (bs : List Value) (w : World) : Prop := ∃ v, Blk w b 66 #[p, v] ∧ w.ownsRow R 5 1 v bs.length bs ∧ v.ownBlock ≠ some b
/-- Nothing below R turns but block b. -/
structure FrX (R b : Nat) (w w' : World) : Prop where
  os : w'.os = w.os
  tape : w'.tape = w.tape
  output : w'.output = w.output
  size : w.heap.size ≤ w'.heap.size
  block : ∀ k, k < R → k ≠ b → w'.heap[k]? = w.heap[k]?
theorem FrX.refl (R b : Nat) (w : World) : FrX R b w w := ⟨rfl, rfl, rfl, Nat.le_refl _, fun _ _ _ => rfl⟩
theorem FrX.trans {R b : Nat} {a w c : World} (h : FrX R b a w) (k : FrX R b w c) : FrX R b a c := ⟨k.os.trans h.os, k.tape.trans h.tape, k.output.trans h.output, Nat.le_trans h.size k.size, fun j hj hb => (k.block j hj hb).trans (h.block j hj hb)⟩
theorem FrX.set (R b : Nat) (w : World) (i : Nat) (u : Value) : FrX R b w (w.setCell ⟨b, i, none⟩ u) := by
  have h := (Below.refl b w).setCell (p := ⟨b, i, none⟩) (Nat.le_refl b) u
  exact ⟨h.os, h.tape, h.output, h.size, fun k _ hk => Below.heap_setCell w ⟨b, i, none⟩ u k hk⟩
theorem FrX.of_below {R B b : Nat} {w w' : World} (h : Below B w w') (hR : R ≤ B) : FrX R b w w' := ⟨h.os, h.tape, h.output, h.size, fun k hk _ => h.block k (by omega)⟩
theorem FrX.of_grown {R b : Nat} {w w' : World} {v : Value} (h : w.grownBy w' v.ownBlock) (hR : R ≤ w.heap.size) (hv : ∀ k, v.ownBlock = some k → R ≤ k) : FrX R b w w' :=
  ⟨h.os, h.tape, h.output, h.size, fun k hk _ => h.block k (by omega) fun e => by have := hv k e.symm; omega⟩
/-- All below B stays where the packer's block is not below B. -/
theorem FrX.below {R b B : Nat} {w w' : World} (h : FrX R b w w') (hB : B ≤ R) (hb : B ≤ b) : Below B w w' := ⟨h.os, h.tape, h.output, h.size, fun k hk => h.block k (by omega) (by omega)⟩
theorem PB.put {R b : Nat} {p v v' : Value} {bs' : List Value} {w : World} (hbk : Blk w b 66 #[p, v]) (hown : w.ownsRow R 5 1 v' bs'.length bs') : PB R b p bs' (w.setCell ⟨b, 1, none⟩ v') := by
  have hne : v'.ownBlock ≠ some b := own_not hbk (by decide) hown
  refine ⟨v', by have := hbk.put 1 v'; simpa using this, own_setCell hown (.inr hne) _, hne⟩
set_option maxRecDepth 100000 in
theorem Builder_copyCheck_used (b : Nat) (w : World) (h0 : w.cell? ⟨b, 0, none⟩ = some (.pointer (some ⟨b, 0, none⟩))) :
    Calls Try.prog 39 #[.pointer (some ⟨b, 0, none⟩)] w fun e w' => e = .returned (.tuple #[]) ∧ w' = w := by
  obtain ⟨j, hj, _⟩ := Option.map_eq_some_iff.1 (show (Try.prog.info? 66).map (·.size) = some 2 by kernel_rfl)
  go_enter Try.func39, Try.ntmps39
  go_wp2
  rw [Lib.run_neq_ptr_same w _ Try.underlying64 hj]
  go_wp2
  go_end0
  exact ⟨rfl, rfl⟩
set_option maxRecDepth 100000 in
theorem Builder_copyCheck_fresh (b : Nat) (w : World) (h0 : w.cell? ⟨b, 0, none⟩ = some (.pointer none)) (hsh : w.shape? b = some (66, 2)) (hfz : w.frozen? ⟨b, 0, none⟩ = false) :
    Calls Try.prog 39 #[.pointer (some ⟨b, 0, none⟩)] w fun e w' => e = .returned (.tuple #[]) ∧ w' = w.setCell ⟨b, 0, none⟩ (.pointer (some ⟨b, 0, none⟩)) := by
  obtain ⟨j, hj, hjs⟩ := Option.map_eq_some_iff.1 (show (Try.prog.info? 66).map (·.size) = some 2 by kernel_rfl)
  go_enter Try.func39, Try.ntmps39
  go_wp2
  rw [Lib.run_to_unsafe w ⟨b, 0, none⟩ Try.underlying64 Try.underlying78 hj (by rw [hjs]; decide) hsh (Nat.zero_lt_succ 1)]
  simp only [Result.andThen]
  rw [Oper.upon_value]
  go_wp2
  rw [run_callFunc_extern Try.func43 (by kernel_rfl) (by kernel_rfl) (by kernel_rfl) (e := Extern.AbiNoEscape.same) (by kernel_rfl)]
  rw [Lib.run_noEscape]
  simp only [Result.andThen]
  rw [Oper.upon_value]
  go_wp2
  rw [Lib.run_from_unsafe w ⟨b, 0, none⟩ Try.underlying78 Try.underlying64 hj hsh (by kernel_rfl)]
  simp only [Result.andThen]
  rw [Oper.upon_value]
  go_wp2
  go_end0
  exact ⟨rfl, rfl⟩
theorem Builder_copyCheck (R b : Nat) (bs : List Value) (w : World) (h : PB R b (.pointer none) bs w ∨ PB R b (.pointer (some ⟨b, 0, none⟩)) bs w) :
    Calls Try.prog 39 #[.pointer (some ⟨b, 0, none⟩)] w fun e w' => e = .returned (.tuple #[]) ∧ (PB R b (.pointer (some ⟨b, 0, none⟩)) bs w' ∧ FrX R b w w') ∧ KeepB b w w' := by
  rcases h with ⟨v, hbk, hown, hne⟩ | ⟨v, hbk, hown, hne⟩
  · have c0 := hbk.cell 0
    have hsh : w.shape? b = some (66, 2) := by have : w.heap[b]? = _ := hbk; simp [World.shape?, this]
    refine (Builder_copyCheck_fresh b w (by simpa using c0) hsh (hbk.frozen 0)).mono ?_
    rintro e w' ⟨rfl, rfl⟩
    exact ⟨rfl, ⟨⟨v, by have := hbk.put 0 (.pointer (some ⟨b, 0, none⟩)); simpa using this, own_setCell hown (.inr hne) _, hne⟩, FrX.set _ _ _ _ _⟩, KeepB.set _ _ _⟩
  · have c0 := hbk.cell 0
    refine (Builder_copyCheck_used b w (by simpa using c0)).mono ?_
    rintro e w' ⟨rfl, rfl⟩
    exact ⟨rfl, ⟨⟨v, hbk, hown, hne⟩, FrX.refl _ _ _⟩, KeepB.refl _ _⟩
set_option maxHeartbeats 2000000 in
theorem Builder_WriteByte (R b : Nat) (bs : List Value) (c : Int) (w : World) (h : PB R b (.pointer none) bs w ∨ PB R b (.pointer (some ⟨b, 0, none⟩)) bs w) (hlen : bs.length + 1 ≤ 140737488355328) (hRw : R ≤ w.heap.size) :
    Calls Try.prog 38 #[.pointer (some ⟨b, 0, none⟩), .int .u8 c] w fun e w' => e = .returned .nilIface ∧ (PB R b (.pointer (some ⟨b, 0, none⟩)) (bs ++ [.int .u8 c]) w' ∧ FrX R b w w') ∧ KeepB b w w' := by
  obtain ⟨i0, hi, hz0, hz1, hz2⟩ := info_parts (show (Try.prog.info? 5).map (fun i => (i.zero, i.size, i.bytes)) = some (some (.int .u8 0), 1, 1) by kernel_rfl)
  go_enter Try.func38, Try.ntmps38
  go_wp2_with (go_at_call 39; refine (Builder_copyCheck R b bs _ h).mono ?_)
  rintro e w1 ⟨rfl, ⟨h1, hb1⟩, hkp⟩
  have HKp := Lib.hid hkp
  clear hkp
  obtain ⟨v, hbk, hown, hne⟩ := h1
  have c0 : w1.cell? ⟨b, 0, none⟩ = some (.pointer (some ⟨b, 0, none⟩)) := by rw [hbk.cell]; rfl
  have c1 : w1.cell? ⟨b, 1, none⟩ = some v := by rw [hbk.cell]; rfl
  go_wp2_with (at_builtin; refine wpList_append_own _ rfl _ _ 32 rfl R 5 i0 (.int .u8 0) 1 1 Try.underlying32 hi hz0 hz1 hz2 rfl (by decide) _ _ _ rfl (hown.alloc _) ⟨w1.heap.size, 0, none⟩ 1 1 [.int .u8 c] rfl rfl ?c1 ?c2 ?c3 ?c4 ?c5 ?_)
  case c1 =>
    intro j u hj
    match j, hj with
    | 0, hj => simp at hj; subst hj; simp [Addr.add]
  case c2 => intro u hu; simp at hu; subst hu; rfl
  case c3 => unfold maxLen; omega
  case c4 => omega
  case c5 => have := hb1.size; simp; omega
  intro v' w2 hown' hgrow _
  have hlt : b < w1.heap.size := hbk.lt
  have hb2 : Blk w2 b 66 #[.pointer (some ⟨b, 0, none⟩), v] := by
    show w2.heap[b]? = _
    rw [hgrow.block b (by simp; omega) (fun e => hne e.symm), Lib.alloc_old w1 _ b hlt]
    exact hbk
  have d0 : w2.cell? ⟨b, 0, none⟩ = some (.pointer (some ⟨b, 0, none⟩)) := by rw [hb2.cell]; rfl
  have d1 : w2.cell? ⟨b, 1, none⟩ = some v := by rw [hb2.cell]; rfl
  have f1 : w2.frozen? ⟨b, 1, none⟩ = false := hb2.frozen 1
  obtain ⟨g, cap, rfl⟩ : ∃ g cap, v' = .slice (some ⟨g, 0, none⟩) (bs.length + 1) cap := by
    rcases hown'.2 with ⟨_, h0⟩ | ⟨g, cap, cur, hv, _⟩
    · omega
    · exact ⟨g, cap, hv⟩
  go_wp2
  go_ret
  refine ⟨rfl, ⟨?_, ?_⟩, (HKp.out.trans (KeepB.grown hown _ hgrow)).trans (KeepB.set _ _ _)⟩
  · exact PB.put hb2 (by simpa using hown')
  · exact (hb1.trans (FrX.of_below ((Below.refl w1.heap.size w1).alloc (Nat.le_refl _) _) (by have := hb1.size; omega))).trans ((FrX.of_grown hgrow (by have := hb1.size; simp; omega) fun k hk => (hown.lt k hk).1).trans (FrX.set _ _ _ _ _))
set_option maxHeartbeats 2000000 in
theorem Builder_WriteString (R b : Nat) (bs : List Value) (s : ByteArray) (w : World) (h : PB R b (.pointer none) bs w ∨ PB R b (.pointer (some ⟨b, 0, none⟩)) bs w) (hlen : bs.length + s.size ≤ 140737488355328) (hRw : R ≤ w.heap.size) :
    Calls Try.prog 33 #[.pointer (some ⟨b, 0, none⟩), .string s] w fun e w' => e = .returned (.tuple #[.int .i64 s.size, .nilIface]) ∧ (PB R b (.pointer (some ⟨b, 0, none⟩)) (bs ++ Lib.strCells s) w' ∧ FrX R b w w') ∧ KeepB b w w' := by
  obtain ⟨i0, hi, hz0, hz1, hz2⟩ := info_parts (show (Try.prog.info? 5).map (fun i => (i.zero, i.size, i.bytes)) = some (some (.int .u8 0), 1, 1) by kernel_rfl)
  go_enter Try.func33, Try.ntmps33
  go_wp2_with (go_at_call 39; refine (Builder_copyCheck R b bs _ h).mono ?_)
  rintro e w1 ⟨rfl, ⟨h1, hb1⟩, hkp⟩
  have HKp := Lib.hid hkp
  clear hkp
  obtain ⟨v, hbk, hown, hne⟩ := h1
  have c0 : w1.cell? ⟨b, 0, none⟩ = some (.pointer (some ⟨b, 0, none⟩)) := by rw [hbk.cell]; rfl
  have c1 : w1.cell? ⟨b, 1, none⟩ = some v := by rw [hbk.cell]; rfl
  go_wp2_with (at_builtin; refine Lib.wpList_append_own_string _ rfl _ _ 32 9 rfl R 5 i0 Try.underlying32 Try.underlying9 hi hz0 hz1 hz2 _ _ _ rfl hown s rfl ?c3 ?c4 ?c5 ?_)
  case c3 => unfold maxLen; omega
  case c4 => omega
  case c5 => have := hb1.size; omega
  intro v' w2 hown' hgrow _
  have hlt : b < w1.heap.size := hbk.lt
  have hb2 : Blk w2 b 66 #[.pointer (some ⟨b, 0, none⟩), v] := by
    show w2.heap[b]? = _
    rw [hgrow.block b hlt (fun e => hne e.symm)]
    exact hbk
  have d0 : w2.cell? ⟨b, 0, none⟩ = some (.pointer (some ⟨b, 0, none⟩)) := by rw [hb2.cell]; rfl
  have d1 : w2.cell? ⟨b, 1, none⟩ = some v := by rw [hb2.cell]; rfl
  have f1 : w2.frozen? ⟨b, 1, none⟩ = false := hb2.frozen 1
  obtain ⟨ao, n', cap, rfl⟩ : ∃ ao n' cap, v' = .slice ao n' cap := by
    rcases hown'.2 with ⟨hv, _⟩ | ⟨g, cap, cur, hv, _⟩
    · exact ⟨_, _, _, hv⟩
    · exact ⟨_, _, _, hv⟩
  go_wp2
  go_ret2
  refine ⟨rfl, ⟨?_, ?_⟩, (HKp.out.trans (KeepB.grown0 hown hgrow)).trans (KeepB.set _ _ _)⟩
  · exact PB.put hb2 (by simpa [Lib.strCells_length] using hown')
  · exact hb1.trans ((FrX.of_grown hgrow (by have := hb1.size; omega) fun k hk => (hown.lt k hk).1).trans (FrX.set _ _ _ _ _))
end Go.Proofs.Ytdibgloaknnfgaa.Pq
