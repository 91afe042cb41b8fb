/- A map from four bytes to a place; the walk of copies.encode's closure, which notes a place. -/
import Derived.Test.YtdibgloaknnfgaaFltCopD
import Derived.Test.YtdibgloaknnfgaaArcMap
import Derived.DeepKeys4
namespace Go.Proofs.Ytdibgloaknnfgaa
open Go.RowKit
open Go.Maps (Keyed)
theorem laidOut_ : laidOutB Try.prog = true := by kernel_rfl
theorem rowK4 : (87 : TypeId) < Try.prog.types.size := of_decide_eq_true (by kernel_rfl)
theorem wideK4 : (match Try.prog.underlying 87 with | some (.array _ _) | some (.struct _) => true | _ => false) = true := by rw [Try.underlying87]
theorem keyed4 : Keyed Try.prog 87 := Keyed.of_law (deep_law_laid laidOut_ (m := 2) (by omega) rowK4 (by kernel_rfl) wideK4)
theorem typesSome : ∃ n, Try.prog.types.size = n + 1 := ⟨_, (Nat.succ_pred_eq_of_pos (Nat.lt_of_le_of_lt (Nat.zero_le _) rowK4)).symm⟩
def k4 (a b c d : UInt8) : Value := .agg #[.int .u8 (a.toNat : Int), .int .u8 (b.toNat : Int), .int .u8 (c.toNat : Int), .int .u8 (d.toNat : Int)]
theorem wf8 (a : UInt8) : (Lit.int .u8 (a.toNat : Int)).wf = true := by
  have := a.toNat_lt
  simp [Lit.wf, IntKind.min, IntKind.max, IntKind.signed, IntKind.bits]
  omega
theorem keyLits1 (n : Nat) (a : UInt8) : Try.prog.keyLits (n + 1) 5 [.int .u8 (a.toNat : Int)] = some [.int .u8 (a.toNat : Int)] := by
  simp [Program.keyLits, Try.underlying5, wf8]
theorem key_k4 (a b c d : UInt8) : keyOf Try.prog 87 (k4 a b c d) = some (.string [a, b, c, d]) := by
  obtain ⟨n, hn⟩ := typesSome
  have h4 : Try.prog.cellsOf 87 = 4 := by kernel_rfl
  have h1 : Try.prog.cellsOf 5 = 1 := by kernel_rfl
  have hk : Try.prog.keyType 87 = true := by kernel_rfl
  have hf : (k4 a b c d).formed Try.prog 87 = true := by simp [k4, Value.formed, Try.underlying87, h4]
  unfold keyOf
  rw [Try.underlying87]
  simp only [hk, hf, Bool.and_self, if_true]
  rw [hn]
  have hl : Try.prog.keyLits (n + 1 + 1) 87 (k4 a b c d).cells.toList = some [.int .u8 (a.toNat : Int), .int .u8 (b.toNat : Int), .int .u8 (c.toNat : Int), .int .u8 (d.toNat : Int)] := by
    simp [Program.keyLits, Try.underlying87, Try.underlying5, h4, h1, k4, Value.cells, List.range, List.range.loop, wf8]
  rw [hl]
  have hb : ∀ x : UInt8, Lit.keyBytes (.int .u8 (x.toNat : Int)) = [x] := fun x => by
    have := x.toNat_lt
    simp [Lit.keyBytes, bytesBE, bytesLE, IntKind.bits]
    apply UInt8.toNat_inj.1
    rw [UInt8.toNat_ofNat']
    omega
  simp [keyBytes, hb]
def FL (last : Last) : Lit → Option Value
  | .string bs => (last bs).map fun p => .int .i64 (p : Int)
  | _ => none
theorem FL_string (last : Last) (bs : List UInt8) : FL last (.string bs) = (last bs).map fun p => Value.int .i64 (p : Int) := rfl
/-- Block b is a map that holds the places of last. -/
def LM (b n : Nat) (last : Last) (w : World) : Prop := MapV w Try.prog 87 b n (FL last)
/-- The world behind '[]byte(t)'. -/
def conv (t : ByteArray) (W : World) : World := W.drew.alloc (.cells (bytesRow t (grownCap W t.size 0 5)) 5 ((bytesRow t (grownCap W t.size 0 5)).size, (bytesRow t (grownCap W t.size 0 5)).size + 1))
theorem conv_run (t : ByteArray) (W : World) : (convert 9 32 (.string t)).run Try.prog W = .ok (.slice (some ⟨W.heap.size, 0, none⟩) t.size (grownCap W t.size 0 5)) (conv t W) :=
  run_bytes_of_string W 9 32 5 t Try.underlying9 Try.underlying32 Try.underlying5
theorem conv_below (t : ByteArray) (W : World) : Below W.heap.size W (conv t W) := ((Below.refl _ _).drew).alloc (Nat.le_refl _) _
theorem conv_size (t : ByteArray) (W : World) : (conv t W).heap.size = W.heap.size + 1 := by simp [conv]
theorem conv_cells (t : ByteArray) (W : World) (a b c d : UInt8) (h : t.data.toList = [a, b, c, d]) :
    (conv t W).cell? ⟨W.heap.size, 0, none⟩ = some (.int .u8 (a.toNat : Int)) ∧ (conv t W).cell? ⟨W.heap.size, 1, none⟩ = some (.int .u8 (b.toNat : Int)) ∧ (conv t W).cell? ⟨W.heap.size, 2, none⟩ = some (.int .u8 (c.toNat : Int)) ∧ (conv t W).cell? ⟨W.heap.size, 3, none⟩ = some (.int .u8 (d.toNat : Int)) := by
  have hc : ∀ j v, ([.int .u8 (a.toNat : Int), .int .u8 (b.toNat : Int), .int .u8 (c.toNat : Int), .int .u8 (d.toNat : Int)] : List Value)[j]? = some v → (conv t W).cell? ⟨W.heap.size, j, none⟩ = some v := fun j v hv => by
    have hh : (conv t W).heap[W.heap.size]? = _ := heap_alloc_new W.drew _
    rw [cell_of_row _ _ j _ _ _ hh]
    have hj : j < 4 := (List.getElem?_eq_some_iff.1 hv).1
    have : t.data = #[a, b, c, d] := Array.toList_inj.1 h
    rw [bytesRow, Array.getElem?_append_left (by rw [this]; simp; omega), ← hv]
    simp [this]
  exact ⟨hc 0 _ rfl, hc 1 _ rfl, hc 2 _ rfl, hc 3 _ rfl⟩
theorem LM.later {b n : Nat} {last : Last} {w w' : World} (h : LM b n last w) (hb : Below w.heap.size w w') : LM b n last w' := MapV.later h hb
theorem LM.put {b n : Nat} {last : Last} {w : World} (h : LM b n last w) (hn : n < 1000000000) (x y z u : UInt8) (i : Nat) :
    ∃ w', (Instr.mapUpdate 86 (.map (some b)) (k4 x y z u) (.int .i64 (i : Int))).run Try.prog w = .ok () w' ∧ LM b (n + 1) (fun k => if k = [x, y, z, u] then some i else last k) w' ∧ w.grownBy w' (some b) := by
  obtain ⟨w', h1, h2, h3⟩ := MapV.put h keyed4 Try.underlying86 (by unfold maxLen; omega) (key_k4 x y z u) (.int .i64 (i : Int))
  refine ⟨w', h1, h2.ext fun l hl => ?_, h3⟩
  have hk := keyed4.key (key_k4 x y z u)
  cases l with
  | string bs =>
    by_cases e : bs = [x, y, z, u]
    · rw [if_pos ((WideAt.sameKey_iff hk).2 (by rw [e]))]
      rw [FL_string, if_pos e]; rfl
    · rw [if_neg (fun hh => e (by have := (WideAt.sameKey_iff hk).1 hh; injection this))]
      rw [FL_string, FL_string, if_neg e]
  | _ =>
    rw [if_neg (fun hh => by have := (WideAt.sameKey_iff hk).1 hh; cases this)]; rfl
theorem LM.look {b n : Nat} {last : Last} {w : World} (h : LM b n last w) (x y z u : UInt8) :
    (Instr.lookup 86 (.map (some b)) (k4 x y z u) true).run Try.prog w = .ok (.tuple #[.int .i64 (((last [x, y, z, u]).getD 0 : Nat) : Int), .bool (last [x, y, z, u]).isSome]) w := by
  have := (MapV.look h keyed4 Try.underlying86 (z := .int .i64 0) (by kernel_rfl) (key_k4 x y z u)).2
  rw [this]
  rw [FL_string]
  cases last [x, y, z, u] <;> rfl
set_option maxHeartbeats 4000000 in
theorem note_any (s : ByteArray) (bs bm b n i : Nat) (last : Last) (w : World) (hs : s.size ≤ 1000000) (hi : i ≤ s.size) (hc1 : w.cell? ⟨bs, 0, none⟩ = some (.string s)) (hc2 : w.cell? ⟨bm, 0, none⟩ = some (.map (some b))) (hm : LM b n last w) (hn : n < 1000000000)
    (hl1 : bs < w.heap.size) (hl2 : bm < w.heap.size) :
    Calls Try.prog 53 #[.int .i64 (i : Int), .pointer (some ⟨bs, 0, none⟩), .pointer (some ⟨bm, 0, none⟩)] w fun e w' => e = .returned (.tuple #[]) ∧ LM b (n + 1) (noteF s.data.toList last i) w' ∧ w.grownBy w' (some b) := by
  by_cases h4 : i + 4 ≤ s.size
  · have g1 : decide ((i : Int) + 4 ≤ (s.size : Int)) = true := by simp; omega
    obtain ⟨x, y, z, u, hk⟩ : ∃ x y z u, key s.data.toList i = [x, y, z, u] := by
      have hl : (key s.data.toList i).length = 4 := by unfold key; rw [List.length_take, List.length_drop]; simp; omega
      match hq : key s.data.toList i, hl with
      | [x, y, z, u], _ => exact ⟨x, y, z, u, rfl⟩
    have hex : (s.extract i (i + 4)).data.toList = [x, y, z, u] := by rw [Lib.extract_data, Nat.add_sub_cancel_left]; exact hk
    have hsz : (s.extract i (i + 4)).size = 4 := by rw [ByteArray.size_extract]; omega
    have HF : Hid (noteF s.data.toList last i = fun k => if k = [x, y, z, u] then some i else last k) := by
      unfold Hid noteF
      funext k
      rw [hk]
      by_cases e : k = [x, y, z, u]
      · rw [if_pos e, if_pos ⟨by simpa using h4, e⟩]
      · rw [if_neg e, if_neg (fun h => e h.2)]
    have hcv := conv_run (s.extract i (i + 4)) w.drew
    obtain ⟨q0, q1, q2, q3⟩ := conv_cells (s.extract i (i + 4)) w.drew x y z u hex
    have hqs : w.drew.heap.size = w.heap.size := rfl
    rw [hqs] at q0 q1 q2 q3
    clear hqs
    have hbl : Below w.heap.size w (conv (s.extract i (i + 4)) w.drew) := ((Below.refl w.heap.size w).drew).trans (conv_below (s.extract i (i + 4)) w.drew)
    obtain ⟨w2, hput, hm2, hg2⟩ := LM.put (hm.later hbl) hn x y z u i
    simp only [k4] at hput
    have ha := fun cp => run_arrayAt (P := Try.prog) (w := conv (s.extract i (i + 4)) w.drew) 87 5 4 (some ⟨w.heap.size, 0, none⟩) 4 cp Try.underlying87 (by omega)
    rw [hsz] at hcv
    have d1 : (conv (s.extract i (i + 4)) w.drew).cell? ⟨bs, 0, none⟩ = some (.string s) := (hbl.cell (p := ⟨bs, 0, none⟩) hl1).trans hc1
    have d2 : (conv (s.extract i (i + 4)) w.drew).cell? ⟨bm, 0, none⟩ = some (.map (some b)) := (hbl.cell (p := ⟨bm, 0, none⟩) hl2).trans hc2
    have HBl := Lib.hid hbl
    have HM2 := Lib.hid hm2
    have HG2 := Lib.hid hg2
    clear hbl hm2 hg2 hex hk hm
    generalize hW : conv (s.extract i (i + 4)) w.drew = W1 at *
    go_enter Try.func53, Try.ntmps53
    go_wp2_with fail
    go_region
    go_wp2
    go_end0
    refine ⟨rfl, by rw [HF.out]; exact HM2.out, grown_trans ⟨HBl.out.os, HBl.out.tape, HBl.out.output, HBl.out.size, fun j hj _ => HBl.out.block j hj⟩ HG2.out (fun g hg => .inl hg)⟩
  · have g1 : decide ((i : Int) + 4 ≤ (s.size : Int)) = false := by simp; omega
    have HF : Hid (noteF s.data.toList last i = last) := by
      unfold Hid noteF
      funext k
      rw [if_neg (fun h => h4 (by simpa using h.1))]
    have HM := Lib.hid (MapV.mono hm (Nat.le_succ n))
    clear hm
    go_enter Try.func53, Try.ntmps53
    go_wp2_with fail
    go_end0
    exact ⟨rfl, by rw [HF.out]; exact HM.out, World.grownBy.refl _ _⟩
end Go.Proofs.Ytdibgloaknnfgaa
