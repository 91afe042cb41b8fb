/- The walk of add. -/
import Derived.Test.YthbdhijkdldmoaaGreatDoorObjPrM
import Derived.Test.YthbdhijkdldmoaaGreatDoorObjNode
import Derived.Test.YthbdhijkdldmoaaGreatDoorTokSmall
import Derived.Test.YthbdhijkdldmoaaGreatDoorObjObj
import Derived.Test.YthbdhijkdldmoaaGreatDoorLaid3
import Derived.Test.YthbdhijkdldmoaaGreatDoorTailHeld
import Derived.Deep.DeepMust
import Derived.Deep.DeepCutAuto
import Derived.Deep.CutBlock
namespace Go.Proofs.YthbdhijkdldmoaaGreatDoor
open Go.RowKit Tk Ob
theorem add_big {f d n : Nat} {o : Ox} (h : 4096 < n + 1) : addF f d o n = .error 2 := by
  cases f <;> simp only [addF] <;> rw [if_pos h]
theorem add_node {f d n : Nat} {o : Ox} (h : ¬ 4096 < n + 1) (hn : nodeE o d ≠ 0) : addF f d o n = .error (nodeE o d) := by
  cases f <;> simp only [addF] <;> rw [if_neg h]
  rw [if_pos hn]
theorem add_leafE {f d n : Nat} {o : Ox} (h : ¬ 4096 < n + 1) (hn : nodeE o d = 0) (hk : o.kind < 6) (ht : tokE (leafT o) ≠ 0) : addF (f + 1) d o n = .error (tokE (leafT o)) := by
  simp only [addF]; rw [if_neg h, if_neg (by rw [hn]; decide), if_pos hk, if_pos ht]
theorem add_leaf {f d n : Nat} {o : Ox} (h : ¬ 4096 < n + 1) (hn : nodeE o d = 0) (hk : o.kind < 6) (ht : tokE (leafT o) = 0) : addF (f + 1) d o n = .ok ([leafT o], n + 1) := by
  simp only [addF]; rw [if_neg h, if_neg (by rw [hn]; decide), if_pos hk, if_neg (by rw [ht]; decide)]
def nestR (k : Int) (r : Except Int (List BTok × Nat)) : Except Int (List BTok × Nat) := match r with
  | .error e => .error e
  | .ok (l, n2) => .ok ([⟨if k = 7 then 8 else 6, 0, []⟩] ++ l ++ [⟨if k = 7 then 9 else 7, 0, []⟩], n2)
theorem add_nest {f d n : Nat} {o : Ox} (h : ¬ 4096 < n + 1) (hn : nodeE o d = 0) (hk : ¬ o.kind < 6) : addF (f + 1) d o n = nestR o.kind (kidsF (addF f (d + 1)) (decide (o.kind = 7)) o.keys o.kids (n + 1)) := by
  simp only [addF]; rw [if_neg h, if_neg (by rw [hn]; decide), if_neg hk]; rfl
def isD (o : Ox) : Bool := decide (o.kind = 7)
/-- The blocks of an object that is printed. -/
def PO (b B k : Nat) : Prop := k < B ∧ k ≠ b
theorem tpr_below {R b : Nat} {v : Value} {w w' : World} (h : FrS R (TPr b v) w w') (hb : b ≤ R) (hv : ∀ k, v.ownBlock = some k → b ≤ k) : Below b w w' :=
  h.below hb fun k hk => hk.elim (fun e => by omega) (hv k)
theorem print_leaf (t : BTok) (h1 : tokE t = 0 → VTok t) (h2 : tokE t ≠ 0 → LTok t) (w : World) (hT : Tab10 w) :
    Calls Tryz.prog 41 #[tokV t.kind t.int ⟨t.text.toArray⟩ 0 0] w fun r w' => ∃ s, r = .returned (.tuple #[.string s, .int .i64 (tokE t)]) ∧ Below w.heap.size w w' := by
  by_cases h : tokE t = 0
  · exact (print_ok t (h1 h) 0 0 w hT).mono fun r w' hr => ⟨_, by rw [h]; exact hr.1, hr.2⟩
  · exact (print_bad t (h2 h) h 0 0 w).mono fun r w' hr => ⟨_, hr.1, hr.2⟩
theorem leaf_bad {o : Ox} (hk : 0 ≤ o.kind ∧ o.kind < 6) (h : tokE (leafT o) ≠ 0) (hn : o.kind = 1 → True) : LTok (leafT o) := by
  obtain ⟨k, i, t, ks, os⟩ := o
  dsimp only [Ox.kind] at hk
  have hk' : k = 0 ∨ k = 1 ∨ k = 2 ∨ k = 3 ∨ k = 4 ∨ k = 5 := by omega
  rcases hk' with rfl | rfl | rfl | rfl | rfl | rfl
  · exact absurd rfl h
  · exact absurd rfl h
  · exact .int i
  · exact .name t
  · exact .text t
  · exact .ref i
set_option maxRecDepth 100000 in
set_option maxHeartbeats 16000000 in
theorem add_step (f d : Nat) (hfd : f + d = 13) (b B : Nat) (hbB : b < B) (o : Ox) (vo : V5) (v : Value) (ts : List BTok) (n : Nat) (hn : n ≤ 4096) (hts : ts.length ≤ 3 * n + 2 * d) (w : World) (hB : B ≤ w.heap.size)
    (hp : PrS w b B v ts n) (ho : ObjV (PO b B) w vo o) (hT : ∀ W, Below b w W → Tab10 W)
    (hN : ∀ (W : World), 6 ≤ o.kind → 1 ≤ f → nodeE o d = 0 → n + 1 ≤ 4096 → B ≤ W.heap.size → PrS W b B v ts (n + 1) → ObjV (PO b B) W vo o → (∀ W', Below b W W' → Tab10 W') → Calls Tryz.prog 40 #[.pointer (some ⟨b, 0, none⟩), vo.val, .int .i64 d] W (AddPost b B v ts (nestR o.kind (kidsF (addF (f - 1) (d + 1)) (isD o) o.keys o.kids (n + 1))) W)) :
    Calls Tryz.prog 20 #[.pointer (some ⟨b, 0, none⟩), vo.val, .int .i64 d] w (AddPost b B v ts (addF f d o n) w) := by
  have HO := Lib.hid ho
  have HNd := Lib.hid fun W (hW : Below b w W) (h : ObjV (PO b B) W vo o) => node_any (PO b B) vo o d W h (hT W hW)
  obtain ⟨kv, dv, vs, rfl, h1, h2, -, -⟩ := ho.open_
  obtain ⟨A, ck, rfl⟩ := h1.form
  obtain ⟨Bd, cd, rfl⟩ := h2.form
  have HN := Lib.hid hN
  have HT := Lib.hid hT
  have HP := Lib.hid hp
  have HVo : Hid (∀ k, v.ownBlock = some k → B ≤ k ∧ k < w.heap.size) := fun k hk => own_lt hp.own k hk
  obtain ⟨c0, c1, f0, f1, hlt⟩ := hp.cells
  obtain ⟨k, i, t, keys, kids⟩ := o
  dsimp only [Ox.kind, Ox.int, Ox.text, Ox.keys, Ox.kids] at *
  obtain ⟨ox, hox⟩ : ∃ ox, ox = Ox.mk k i t keys kids := ⟨_, rfl⟩
  rw [← hox] at HO HN HNd ⊢
  have hsl : (strs keys).length = keys.length := by simp [strs]
  simp only [hsl] at HO HN HNd ⊢
  obtain ⟨S, hS⟩ : ∃ S : ByteArray, S = ⟨t.toArray⟩ := ⟨_, rfl⟩
  rw [← hS] at HO HN HNd ⊢
  have HS := Lib.hid hS
  have HOx := Lib.hid hox
  unfold V5.val at *
  dsimp only at *
  have hwr : IntKind.i64.wrap ((n : Int) + 1) = ((n + 1 : Nat) : Int) := by rw [IntWalk.i64_in _ (by omega)]; omega
  clear h1 h2 hN hT ho hp hS hox hsl
  have hpb : PrS ((w.setCell ⟨b, 1, none⟩ (.int .i64 ((n : Int) + 1))).alloc (.cells #[.int .i64 k, .int .i64 i, .string S, .slice A keys.length ck, .slice Bd kids.length cd] 25)) b B v ts (n + 1) := by
    refine PrS.alloc (⟨by have := HP.out.blk.put 1 (.int .i64 ((n : Int) + 1)); simpa using this, own_setCell HP.out.own (.inr fun e => ?_) _⟩) _
    have := (HVo.out b e).1; omega
  have hfb : FrS w.heap.size (TPr b v) w ((w.setCell ⟨b, 1, none⟩ (.int .i64 ((n : Int) + 1))).alloc (.cells #[.int .i64 k, .int .i64 i, .string S, .slice A keys.length ck, .slice Bd kids.length cd] 25)) := ((FrS.refl w.heap.size (TPr b v) w).put (p := ⟨b, 1, none⟩) (.inr (.inl rfl)) _).alloc (by simp [World.setCell]) _
  have hbox : B5 ((w.setCell ⟨b, 1, none⟩ (.int .i64 ((n : Int) + 1))).alloc (.cells #[.int .i64 k, .int .i64 i, .string S, .slice A keys.length ck, .slice Bd kids.length cd] 25)) w.heap.size ⟨.int .i64 k, .int .i64 i, .string S, .slice A keys.length ck, .slice Bd kids.length cd⟩ := by
    have := Blk.new (w.setCell ⟨b, 1, none⟩ (.int .i64 ((n : Int) + 1))) 25 #[.int .i64 k, .int .i64 i, .string S, .slice A keys.length ck, .slice Bd kids.length cd]
    rwa [show (w.setCell ⟨b, 1, none⟩ (.int .i64 ((n : Int) + 1))).heap.size = w.heap.size by simp [World.setCell]] at this
  have hs1 : w.heap.size + 1 = ((w.setCell ⟨b, 1, none⟩ (.int .i64 ((n : Int) + 1))).alloc (.cells #[.int .i64 k, .int .i64 i, .string S, .slice A keys.length ck, .slice Bd kids.length cd] 25)).heap.size := by simp [World.setCell]
  have HP1 := Lib.hid hpb
  have HF1 := Lib.hid hfb
  have HBx := Lib.hid hbox
  have HS1 := Lib.hid hs1
  clear hpb hfb hbox hs1
  by_cases hbig : 4096 < n + 1
  · have hb1 : (4096 : Int) < ((n : Int) + 1) := by omega
    have HE := Lib.hid (add_big (f := f) (d := d) (o := ox) hbig)
    clear hbig
    go_enter Tryz.func20, Tryz.ntmps20
    go_wp2_with fail
    go_ret
    refine ⟨HF1.out, ?_⟩
    rw [HE.out]
    exact ⟨by decide, rfl⟩
  have hb1 : ¬ (4096 : Int) < ((n : Int) + 1) := by omega
  go_enter Tryz.func20, Tryz.ntmps20
  go_upto_region 4 with (fail)
  generalize (w.setCell ⟨b, 1, none⟩ (.int .i64 ((n : Int) + 1))).alloc (.cells #[.int .i64 k, .int .i64 i, .string S, .slice A keys.length ck, .slice Bd kids.length cd] 25) = w1 at *
  have hs1 := HS1.out
  have HO1 := Lib.hid (HO.out.keep HF1.out.size fun m hm hl => HF1.out.block m hl fun e => by
    rcases e with e | e
    · exact hm.2 e
    · have := (HVo.out m e).1; have := hm.1; omega)
  have HW1 : Hid (Below b w w1) := tpr_below HF1.out (by omega) fun m hm => by have := HVo.out m hm; omega
  obtain ⟨x0, x1, x2, x3, x4⟩ := b5_cells HBx.out
  obtain ⟨p0, p1, pf0, pf1, pl⟩ := HP1.out.cells
  go_wp2_with fail
  refine (HNd.out _ HW1.out HO1.out).mono ?_
  rintro e w2 ⟨rfl, hb2⟩
  have hs2 := hb2.size
  have HL2 := Lib.hid hb2
  have HP2 := Lib.hid (HP1.out.fr (FrS.of_below (S := fun _ => False) hb2 (Nat.le_refl _)) (Nat.le_refl _) (fun h => h) fun _ _ h => h)
  have HO2 := Lib.hid (HO1.out.later hb2)
  have HBx2 := Lib.hid (HBx.out.below hb2 HBx.out.lt)
  have HF2 : Hid (FrS w.heap.size (TPr b v) w w2) := HF1.out.trans (FrS.of_below hb2 (by omega))
  have HW2 : Hid (Below b w w2) := HW1.out.trans (hb2.mono (by omega))
  clear hb2 x0 x1 x2 x3 x4 p0 p1 pf0 pf1 pl
  by_cases hne : nodeE ox d = 0
  case neg =>
    have HE := Lib.hid (add_node (f := f) (n := n) hbig hne)
    have hne2 : (nodeE ox d != 0) = true := by simpa using hne
    have HNe := Lib.hid hne
    generalize nodeE ox d = E at *
    clear hne hbig
    go_wp2_with fail
    go_ret
    refine ⟨HF2.out, ?_⟩
    rw [HE.out]
    exact ⟨HNe.out, rfl⟩
  have HNe := Lib.hid hne
  rw [hne]
  have hf1 : 1 ≤ f := by
    have := (nodeE_zero hne).2.2.1
    omega
  obtain ⟨f, rfl⟩ : ∃ g, f = g + 1 := ⟨f - 1, by omega⟩
  have hkr := (nodeE_zero hne).1
  have hkr2 := (nodeE_zero hne).2.1
  have hox := HOx.out
  have hki : ox.kind = k := by rw [hox]; rfl
  rw [hki] at hkr hkr2
  have HKi := Lib.hid hki
  have HBig := Lib.hid hbig
  have hn1 : n + 1 ≤ 4096 := by omega
  clear hne hki hox hbig
  go_upto_region 8 with (fail)
  have htk := Blk.new w2 53 #[.int .i64 0, .int .i64 0, .string ⟨#[]⟩, .int .i64 0, .int .i64 0]
  have hf3 : FrS w2.heap.size (fun _ => False) w2 (w2.alloc (.cells #[.int .i64 0, .int .i64 0, .string ⟨#[]⟩, .int .i64 0, .int .i64 0] 53)) := (FrS.refl _ _ _).alloc (Nat.le_refl _) _
  have hs3 : w2.heap.size + 1 = (w2.alloc (.cells #[.int .i64 0, .int .i64 0, .string ⟨#[]⟩, .int .i64 0, .int .i64 0] 53)).heap.size := by simp
  have HTk := Lib.hid htk
  have HF3 := Lib.hid hf3
  have HS3 := Lib.hid hs3
  clear htk hf3 hs3
  generalize w2.alloc (.cells #[.int .i64 0, .int .i64 0, .string ⟨#[]⟩, .int .i64 0, .int .i64 0] 53) = w3 at *
  have hs3 := HS3.out
  have HP3 := Lib.hid (HP2.out.fr HF3.out (Nat.le_refl _) (fun h => h) fun _ _ h => h)
  have HO3 := Lib.hid (HO2.out.keep HF3.out.size fun m _ hl => HF3.out.block m hl (fun h => h))
  have HBx3 := Lib.hid (HF3.out.blk HBx2.out HBx2.out.lt (fun h => h))
  have HFr3 : Hid (FrS w.heap.size (TPr b v) w w3) := HF2.out.trans (HF3.out.weak (by omega) fun _ _ h => h.elim)
  have HW3 : Hid (Below b w w3) := tpr_below HFr3.out (by omega) fun m hm => by have := HVo.out m hm; omega
  obtain ⟨x0, x1, x2, x3, x4⟩ := b5_cells (v := ⟨.int .i64 k, .int .i64 i, .string S, .slice A keys.length ck, .slice Bd kids.length cd⟩) HBx3.out
  obtain ⟨k0, k1, k2, k3, k4⟩ := tok_cells HTk.out
  have zz0 := Blk.frozen HTk.out 0
  have zz1 := Blk.frozen HTk.out 1
  have zz2 := Blk.frozen HTk.out 2
  have zz3 := Blk.frozen HTk.out 3
  have zz4 := Blk.frozen HTk.out 4
  have zzl := HTk.out.lt
  have hk' : k = 0 ∨ k = 1 ∨ k = 2 ∨ k = 3 ∨ k = 4 ∨ k = 5 ∨ 6 ≤ k := by omega
  clear hkr
  rcases hk' with rfl | rfl | rfl | rfl | rfl | rfl | hk6
  · have HKl : Hid (ox.kind < 6) := by unfold Hid; rw [HKi.out]; decide
    have HEl := Lib.hid fun h => add_leaf (f := f) (d := d) HBig.out HNe.out HKl.out h
    have HEb := Lib.hid fun h => add_leafE (f := f) (d := d) HBig.out HNe.out HKl.out h
    have HPr := Lib.hid fun W hW => print_leaf (leafT ox) (fun h => leaf_valid HNe.out HKl.out h) (fun h => leaf_bad ⟨by rw [HKi.out]; decide, HKl.out⟩ h (fun _ => trivial)) W hW
    have HLf : Hid (leafT ox = ⟨5, 0, [110, 117, 108, 108]⟩) := by unfold Hid; rw [HOx.out]; rfl
    rw [HLf.out] at HPr HEl HEb
    unfold tokV at HPr
    dsimp only at HPr
    generalize tokE _ = TE at *
    clear hkr2
    go_upto_region 22 with (fail)
    have hk4 := tok_put HTk.out (.int .i64 5) (.int .i64 0) (.string ⟨#[110, 117, 108, 108]⟩) (.int .i64 0) (.int .i64 0)
    have hf4 : FrS w3.heap.size (fun m => m = w2.heap.size) w3 (((((w3.setCell ⟨w2.heap.size, 0, none⟩ (.int .i64 5)).setCell ⟨w2.heap.size, 1, none⟩ (.int .i64 0)).setCell ⟨w2.heap.size, 2, none⟩ (.string ⟨#[110, 117, 108, 108]⟩)).setCell ⟨w2.heap.size, 3, none⟩ (.int .i64 0)).setCell ⟨w2.heap.size, 4, none⟩ (.int .i64 0)) :=
      ((((FrS.put (p := ⟨w2.heap.size, 0, none⟩) (FrS.refl w3.heap.size (fun m => m = w2.heap.size) w3) (.inr rfl) _).put (p := ⟨w2.heap.size, 1, none⟩) (.inr rfl) _).put (p := ⟨w2.heap.size, 2, none⟩) (.inr rfl) _).put (p := ⟨w2.heap.size, 3, none⟩) (.inr rfl) _).put (p := ⟨w2.heap.size, 4, none⟩) (.inr rfl) _
    have HK4 := Lib.hid hk4
    have HF4 := Lib.hid hf4
    have hs4 : w3.heap.size ≤ (((((w3.setCell ⟨w2.heap.size, 0, none⟩ (.int .i64 5)).setCell ⟨w2.heap.size, 1, none⟩ (.int .i64 0)).setCell ⟨w2.heap.size, 2, none⟩ (.string ⟨#[110, 117, 108, 108]⟩)).setCell ⟨w2.heap.size, 3, none⟩ (.int .i64 0)).setCell ⟨w2.heap.size, 4, none⟩ (.int .i64 0)).heap.size := hf4.size
    clear hk4 hf4 x0 x1 x2 x3 x4 k0 k1 k2 k3 k4 zz0 zz1 zz2 zz3 zz4
    generalize World.setCell _ _ _ = w4 at *
    have HP4 := Lib.hid (HP3.out.fr HF4.out (Nat.le_refl _) (by omega) fun m h1 e => by have := HVo.out m h1; omega)
    have HFr4 : Hid (FrS w.heap.size (TPr b v) w w4) := HFr3.out.trans (HF4.out.weak (by omega) fun m h1 h2 => by omega)
    have HW4 : Hid (Below b w w4) := tpr_below HFr4.out (by omega) fun m hm => by have := HVo.out m hm; omega
    obtain ⟨Av, cv, rfl⟩ := own_form HP4.out.own
    obtain ⟨p0, p1, pf0, pf1, pl⟩ := HP4.out.cells
    obtain ⟨k0, k1, k2, k3, k4⟩ := tok_cells HK4.out
    have hS0 : (fun w' : World => w'.cell? ⟨b, 0, none⟩ = some (.slice Av ts.length cv) ∧ w'.cell? ⟨w2.heap.size, 0, none⟩ = some (.int .i64 5) ∧ w'.cell? ⟨w2.heap.size, 1, none⟩ = some (.int .i64 0) ∧ w'.cell? ⟨w2.heap.size, 2, none⟩ = some (.string ⟨#[110, 117, 108, 108]⟩) ∧ w'.cell? ⟨w2.heap.size, 3, none⟩ = some (.int .i64 0) ∧ w'.cell? ⟨w2.heap.size, 4, none⟩ = some (.int .i64 0)) w4.drew := ⟨p0, k0, k1, k2, k3, k4⟩
    refine wp_region_tail (fun w' : World => w'.cell? ⟨b, 0, none⟩ = some (.slice Av ts.length cv) ∧ w'.cell? ⟨w2.heap.size, 0, none⟩ = some (.int .i64 5) ∧ w'.cell? ⟨w2.heap.size, 1, none⟩ = some (.int .i64 0) ∧ w'.cell? ⟨w2.heap.size, 2, none⟩ = some (.string ⟨#[110, 117, 108, 108]⟩) ∧ w'.cell? ⟨w2.heap.size, 3, none⟩ = some (.int .i64 0) ∧ w'.cell? ⟨w2.heap.size, 4, none⟩ = some (.int .i64 0)) 8 (by kernel_rfl) (by kernel_rfl) hS0 (fun hHeld => ?_)
    refine wpAnyD_take 0 (v := ?_) rfl (by kernel_rfl) (by kernel_rfl) (by kernel_rfl) (fun _ _ _ h => h) hHeld (Or.inl ⟨by rfl, ?_⟩) ?_
    rotate_left
    · intro w' hw'; obtain ⟨h0, h1, h2, h3, h4, h5⟩ := hw'; go_simp; try with_reducible rfl
    try simp only [Act.put, List.setIfInBounds_toArray, List.set_cons_zero, List.set_cons_succ]
    refine wpAnyD_take 1 (v := ?_) rfl (by kernel_rfl) (by kernel_rfl) (by kernel_rfl) (fun _ _ _ h => h) hHeld (Or.inl ⟨by rfl, ?_⟩) ?_
    rotate_left
    · intro w' hw'; obtain ⟨h0, h1, h2, h3, h4, h5⟩ := hw'; go_simp; try with_reducible rfl
    try simp only [Act.put, List.setIfInBounds_toArray, List.set_cons_zero, List.set_cons_succ]
    refine wpAnyD_take 2 (v := ?_) rfl (by kernel_rfl) (by kernel_rfl) (by kernel_rfl) (fun _ _ _ h => h) hHeld (Or.inl ⟨by rfl, ?_⟩) ?_
    rotate_left
    · intro w' hw'; obtain ⟨h0, h1, h2, h3, h4, h5⟩ := hw'; go_simp; try with_reducible rfl
    try simp only [Act.put, List.setIfInBounds_toArray, List.set_cons_zero, List.set_cons_succ]
    refine wpAnyD_take 3 (v := ?_) rfl (by kernel_rfl) (by kernel_rfl) (by kernel_rfl) (fun _ _ _ h => h) hHeld (Or.inl ⟨by rfl, ?_⟩) ?_
    rotate_left
    · intro w' hw'; obtain ⟨h0, h1, h2, h3, h4, h5⟩ := hw'; go_simp; try with_reducible rfl
    try simp only [Act.put, List.setIfInBounds_toArray, List.set_cons_zero, List.set_cons_succ]
    refine wpAnyD_take 4 (v := ?_) rfl (by kernel_rfl) (by kernel_rfl) (by kernel_rfl) (fun _ _ _ h => h) hHeld (Or.inl ⟨by rfl, ?_⟩) ?_
    rotate_left
    · intro w' hw'; obtain ⟨h0, h1, h2, h3, h4, h5⟩ := hw'; go_simp; try with_reducible rfl
    try simp only [Act.put, List.setIfInBounds_toArray, List.set_cons_zero, List.set_cons_succ]
    refine wpAnyD_take 5 (v := ?_) rfl (by kernel_rfl) (by kernel_rfl) (by kernel_rfl) (fun _ _ _ h => h) hHeld (Or.inl ⟨by rfl, ?_⟩) ?_
    rotate_left
    · intro w' hw'; obtain ⟨h0, h1, h2, h3, h4, h5⟩ := hw'; go_simp; try with_reducible rfl
    try simp only [Act.put, List.setIfInBounds_toArray, List.set_cons_zero, List.set_cons_succ]
    refine wpAnyD_ready [6] (by kernel_rfl) ?_
    refine AllReadyD.cons rfl (fun K hK => ?_) AllReadyD.nil
    go_simp
    have hS1 : (fun w' : World => w'.cell? ⟨b, 0, none⟩ = some (.slice Av ts.length cv) ∧ w'.cell? ⟨w2.heap.size, 0, none⟩ = some (.int .i64 5) ∧ w'.cell? ⟨w2.heap.size, 1, none⟩ = some (.int .i64 0) ∧ w'.cell? ⟨w2.heap.size, 2, none⟩ = some (.string ⟨#[110, 117, 108, 108]⟩) ∧ w'.cell? ⟨w2.heap.size, 3, none⟩ = some (.int .i64 0) ∧ w'.cell? ⟨w2.heap.size, 4, none⟩ = some (.int .i64 0)) (w4.drew.alloc (.cells #[.int .i64 5, .int .i64 0, .string ⟨#[110, 117, 108, 108]⟩, .int .i64 0, .int .i64 0] 53)) := ⟨(cell_lt _ _ _ pl).trans p0, (cell_lt _ _ _ HK4.out.lt).trans k0, (cell_lt _ _ _ HK4.out.lt).trans k1, (cell_lt _ _ _ HK4.out.lt).trans k2, (cell_lt _ _ _ HK4.out.lt).trans k3, (cell_lt _ _ _ HK4.out.lt).trans k4⟩
    refine hK.out _ _ hS1 (fun hHeld => ?_)
    have HPd : Hid (PrS w4.drew b B (.slice Av ts.length cv) ts (n + 1)) := HP4.out.fr (FrS.refl w4.heap.size (fun _ => False) w4).drew (Nat.le_refl _) (fun h => h) fun _ _ h => h
    refine wpAnyD_ready [7] (by kernel_rfl) ?_
    refine AllReadyD.cons rfl (fun K hK => ?_) AllReadyD.nil
    refine step_pushk eTk rfl (.tmp 69) (.tmp 71) rfl B (.slice Av ts.length cv) ts.length _ rfl (HPd.out.alloc _).own ⟨w4.heap.size, 0, none⟩ 1 [.int .i64 5, .int .i64 0, .string ⟨#[110, 117, 108, 108]⟩, .int .i64 0, .int .i64 0] rfl rfl (news_new _ _ _ _ rfl) (by simp [Value.oneCell']) (by omega) (by omega) (by omega) (by simp; omega) ?_
    intro g5 c5 w5 hown5 hgr5 hv5
    have HO5 := Lib.hid hown5
    have HG5 := Lib.hid hgr5
    have HV5 : Hid ((Value.slice (some ⟨g5, 0, none⟩) (ts.length + 1) c5).ownBlock = (Value.slice Av ts.length cv).ownBlock ∨ (Value.slice (some ⟨g5, 0, none⟩) (ts.length + 1) c5).ownBlock = some (w4.drew.alloc (.cells #[.int .i64 5, .int .i64 0, .string ⟨#[110, 117, 108, 108]⟩, .int .i64 0, .int .i64 0] 53)).heap.size) := hv5.imp (fun h => h) fun h => congrArg some h
    have hb5 := HPd.out.alloc (.cells #[.int .i64 5, .int .i64 0, .string ⟨#[110, 117, 108, 108]⟩, .int .i64 0, .int .i64 0] 53)
    have hb6 := hb5.blk.grown hgr5 (fun e => by have := (HVo.out _ e.symm).1; omega)
    have hkk := ((Blk.drew HK4.out).alloc (.cells #[.int .i64 5, .int .i64 0, .string ⟨#[110, 117, 108, 108]⟩, .int .i64 0, .int .i64 0] 53)).grown hgr5 (fun e => by have := HVo.out _ e.symm; have := HK4.out.lt; omega)
    have q0 := Blk.cell hb6 0
    have qf := Blk.frozen hb6 0
    have ql := hb6.lt
    simp at q0
    obtain ⟨r0, r1, r2, r3, r4⟩ := tok_cells hkk
    refine hK.out _ _ ⟨q0, r0, r1, r2, r3, r4⟩ (fun hHeld => ?_)
    refine wpAnyD_done (by kernel_rfl) ?_
    simp only [List.drop_succ_cons, List.drop_zero]
    clear hS0 hS1 hHeld hK p0 p1 k0 k1 k2 k3 k4 hown5 hgr5 hv5 hb5 hb6 hkk r0 r1 r2 r3 r4
    go_upto_region 23 with (fail)
    have hpu := HPd.out.push hbB ⟨5, 0, [110, 117, 108, 108]⟩ rfl (HO5.out) HG5.out HV5.out
    have HP6 := Lib.hid hpu.1
    have HF6 := Lib.hid hpu.2.1
    have HV6 := Lib.hid hpu.2.2
    have hs6 : w4.heap.size ≤ (w5.setCell ⟨b, 0, none⟩ (.slice (some ⟨g5, 0, none⟩) (ts.length + 1) c5)).heap.size := hpu.2.1.size
    clear hpu q0 qf ql
    generalize w5.setCell ⟨b, 0, none⟩ (.slice (some ⟨g5, 0, none⟩) (ts.length + 1) c5) = w6 at *
    have hf6 : FrS w4.heap.size (TPr b (.slice Av ts.length cv)) w4 w6 := ⟨HF6.out.os, HF6.out.tape, HF6.out.output, HF6.out.size, HF6.out.block⟩
    have HFr6 : Hid (FrS w.heap.size (TPr b (.slice Av ts.length cv)) w w6) := HFr4.out.trans (hf6.weak (by omega) fun _ _ h => h)
    have HW6 : Hid (Below b w w6) := tpr_below HFr6.out (by omega) fun m hm => by have := HVo.out m hm; omega
    have hk6 := hf6.blk HK4.out HK4.out.lt (fun e => e.elim (fun e => by omega) fun e => by have := HVo.out _ e; omega)
    obtain ⟨k0, k1, k2, k3, k4⟩ := tok_cells hk6
    have hk6l := Blk.lt hk6
    clear hf6 hk6
    go_wp2_with fail
    refine (HPr.out _ (HT.out _ HW6.out)).mono ?_
    rintro e w7 ⟨s7, rfl, hb7⟩
    have HB7 := Lib.hid hb7
    clear hb7
    go_wp2_with fail
    go_ret
    refine ⟨HFr6.out.trans (FrS.of_below HB7.out (by omega)), ?_⟩
    by_cases hte : TE = 0
    · rw [HEl.out hte]
      exact ⟨by rw [hte]; rfl, _, HP6.out.fr (FrS.of_below (S := fun _ => False) HB7.out (Nat.le_refl _)) (Nat.le_refl _) (fun h => h) (fun _ _ h => h), HV6.out.imp id fun ⟨m, h1, h2⟩ => ⟨m, h1, by have h3 : w4.heap.size ≤ m := h2; omega⟩⟩
    · rw [HEb.out hte]
      exact ⟨hte, rfl⟩
  · have h01 : i = 0 ∨ i = 1 := by have h := nodeE_zero HNe.out; rw [HOx.out] at h; exact h.2.2.2.2.2.2.2.2.1 rfl
    rcases h01 with rfl | rfl
    · have HKl : Hid (ox.kind < 6) := by unfold Hid; rw [HKi.out]; decide
      have HEl := Lib.hid fun h => add_leaf (f := f) (d := d) HBig.out HNe.out HKl.out h
      have HEb := Lib.hid fun h => add_leafE (f := f) (d := d) HBig.out HNe.out HKl.out h
      have HPr := Lib.hid fun W hW => print_leaf (leafT ox) (fun h => leaf_valid HNe.out HKl.out h) (fun h => leaf_bad ⟨by rw [HKi.out]; decide, HKl.out⟩ h (fun _ => trivial)) W hW
      have HLf : Hid (leafT ox = ⟨5, 0, [102, 97, 108, 115, 101]⟩) := by unfold Hid; rw [HOx.out]; rfl
      rw [HLf.out] at HPr HEl HEb
      unfold tokV at HPr
      dsimp only at HPr
      generalize tokE _ = TE at *
      clear hkr2
      have HFb : Hid (∀ W, Calls Tryz.prog 39 #[.bool false] W fun e w' => e = .returned (.string ⟨#[102, 97, 108, 115, 101]⟩) ∧ W = w') := fun W => (strconv_FormatBool false W).mono fun e w' h => ⟨h.1, h.2.symm⟩
      go_upto_region 22 with (go_at_call 39; refine (HFb.out _).mono ?_; rintro e w' ⟨rfl, rfl⟩)
      have hk4 := tok_put HTk.out (.int .i64 5) (.int .i64 0) (.string ⟨#[102, 97, 108, 115, 101]⟩) (.int .i64 0) (.int .i64 0)
      have hf4 : FrS w3.heap.size (fun m => m = w2.heap.size) w3 (((((w3.setCell ⟨w2.heap.size, 0, none⟩ (.int .i64 5)).setCell ⟨w2.heap.size, 1, none⟩ (.int .i64 0)).setCell ⟨w2.heap.size, 2, none⟩ (.string ⟨#[102, 97, 108, 115, 101]⟩)).setCell ⟨w2.heap.size, 3, none⟩ (.int .i64 0)).setCell ⟨w2.heap.size, 4, none⟩ (.int .i64 0)) :=
        ((((FrS.put (p := ⟨w2.heap.size, 0, none⟩) (FrS.refl w3.heap.size (fun m => m = w2.heap.size) w3) (.inr rfl) _).put (p := ⟨w2.heap.size, 1, none⟩) (.inr rfl) _).put (p := ⟨w2.heap.size, 2, none⟩) (.inr rfl) _).put (p := ⟨w2.heap.size, 3, none⟩) (.inr rfl) _).put (p := ⟨w2.heap.size, 4, none⟩) (.inr rfl) _
      have HK4 := Lib.hid hk4
      have HF4 := Lib.hid hf4
      have hs4 : w3.heap.size ≤ (((((w3.setCell ⟨w2.heap.size, 0, none⟩ (.int .i64 5)).setCell ⟨w2.heap.size, 1, none⟩ (.int .i64 0)).setCell ⟨w2.heap.size, 2, none⟩ (.string ⟨#[102, 97, 108, 115, 101]⟩)).setCell ⟨w2.heap.size, 3, none⟩ (.int .i64 0)).setCell ⟨w2.heap.size, 4, none⟩ (.int .i64 0)).heap.size := hf4.size
      clear hk4 hf4 x0 x1 x2 x3 x4 k0 k1 k2 k3 k4 zz0 zz1 zz2 zz3 zz4
      generalize World.setCell _ _ _ = w4 at *
      have HP4 := Lib.hid (HP3.out.fr HF4.out (Nat.le_refl _) (by omega) fun m h1 e => by have := HVo.out m h1; omega)
      have HFr4 : Hid (FrS w.heap.size (TPr b v) w w4) := HFr3.out.trans (HF4.out.weak (by omega) fun m h1 h2 => by omega)
      have HW4 : Hid (Below b w w4) := tpr_below HFr4.out (by omega) fun m hm => by have := HVo.out m hm; omega
      obtain ⟨Av, cv, rfl⟩ := own_form HP4.out.own
      obtain ⟨p0, p1, pf0, pf1, pl⟩ := HP4.out.cells
      obtain ⟨k0, k1, k2, k3, k4⟩ := tok_cells HK4.out
      have hS0 : (fun w' : World => w'.cell? ⟨b, 0, none⟩ = some (.slice Av ts.length cv) ∧ w'.cell? ⟨w2.heap.size, 0, none⟩ = some (.int .i64 5) ∧ w'.cell? ⟨w2.heap.size, 1, none⟩ = some (.int .i64 0) ∧ w'.cell? ⟨w2.heap.size, 2, none⟩ = some (.string ⟨#[102, 97, 108, 115, 101]⟩) ∧ w'.cell? ⟨w2.heap.size, 3, none⟩ = some (.int .i64 0) ∧ w'.cell? ⟨w2.heap.size, 4, none⟩ = some (.int .i64 0)) w4.drew := ⟨p0, k0, k1, k2, k3, k4⟩
      refine wp_region_tail (fun w' : World => w'.cell? ⟨b, 0, none⟩ = some (.slice Av ts.length cv) ∧ w'.cell? ⟨w2.heap.size, 0, none⟩ = some (.int .i64 5) ∧ w'.cell? ⟨w2.heap.size, 1, none⟩ = some (.int .i64 0) ∧ w'.cell? ⟨w2.heap.size, 2, none⟩ = some (.string ⟨#[102, 97, 108, 115, 101]⟩) ∧ w'.cell? ⟨w2.heap.size, 3, none⟩ = some (.int .i64 0) ∧ w'.cell? ⟨w2.heap.size, 4, none⟩ = some (.int .i64 0)) 8 (by kernel_rfl) (by kernel_rfl) hS0 (fun hHeld => ?_)
      refine wpAnyD_take 0 (v := ?_) rfl (by kernel_rfl) (by kernel_rfl) (by kernel_rfl) (fun _ _ _ h => h) hHeld (Or.inl ⟨by rfl, ?_⟩) ?_
      rotate_left
      · intro w' hw'; obtain ⟨h0, h1, h2, h3, h4, h5⟩ := hw'; go_simp; try with_reducible rfl
      try simp only [Act.put, List.setIfInBounds_toArray, List.set_cons_zero, List.set_cons_succ]
      refine wpAnyD_take 1 (v := ?_) rfl (by kernel_rfl) (by kernel_rfl) (by kernel_rfl) (fun _ _ _ h => h) hHeld (Or.inl ⟨by rfl, ?_⟩) ?_
      rotate_left
      · intro w' hw'; obtain ⟨h0, h1, h2, h3, h4, h5⟩ := hw'; go_simp; try with_reducible rfl
      try simp only [Act.put, List.setIfInBounds_toArray, List.set_cons_zero, List.set_cons_succ]
      refine wpAnyD_take 2 (v := ?_) rfl (by kernel_rfl) (by kernel_rfl) (by kernel_rfl) (fun _ _ _ h => h) hHeld (Or.inl ⟨by rfl, ?_⟩) ?_
      rotate_left
      · intro w' hw'; obtain ⟨h0, h1, h2, h3, h4, h5⟩ := hw'; go_simp; try with_reducible rfl
      try simp only [Act.put, List.setIfInBounds_toArray, List.set_cons_zero, List.set_cons_succ]
      refine wpAnyD_take 3 (v := ?_) rfl (by kernel_rfl) (by kernel_rfl) (by kernel_rfl) (fun _ _ _ h => h) hHeld (Or.inl ⟨by rfl, ?_⟩) ?_
      rotate_left
      · intro w' hw'; obtain ⟨h0, h1, h2, h3, h4, h5⟩ := hw'; go_simp; try with_reducible rfl
      try simp only [Act.put, List.setIfInBounds_toArray, List.set_cons_zero, List.set_cons_succ]
      refine wpAnyD_take 4 (v := ?_) rfl (by kernel_rfl) (by kernel_rfl) (by kernel_rfl) (fun _ _ _ h => h) hHeld (Or.inl ⟨by rfl, ?_⟩) ?_
      rotate_left
      · intro w' hw'; obtain ⟨h0, h1, h2, h3, h4, h5⟩ := hw'; go_simp; try with_reducible rfl
      try simp only [Act.put, List.setIfInBounds_toArray, List.set_cons_zero, List.set_cons_succ]
      refine wpAnyD_take 5 (v := ?_) rfl (by kernel_rfl) (by kernel_rfl) (by kernel_rfl) (fun _ _ _ h => h) hHeld (Or.inl ⟨by rfl, ?_⟩) ?_
      rotate_left
      · intro w' hw'; obtain ⟨h0, h1, h2, h3, h4, h5⟩ := hw'; go_simp; try with_reducible rfl
      try simp only [Act.put, List.setIfInBounds_toArray, List.set_cons_zero, List.set_cons_succ]
      refine wpAnyD_ready [6] (by kernel_rfl) ?_
      refine AllReadyD.cons rfl (fun K hK => ?_) AllReadyD.nil
      go_simp
      have hS1 : (fun w' : World => w'.cell? ⟨b, 0, none⟩ = some (.slice Av ts.length cv) ∧ w'.cell? ⟨w2.heap.size, 0, none⟩ = some (.int .i64 5) ∧ w'.cell? ⟨w2.heap.size, 1, none⟩ = some (.int .i64 0) ∧ w'.cell? ⟨w2.heap.size, 2, none⟩ = some (.string ⟨#[102, 97, 108, 115, 101]⟩) ∧ w'.cell? ⟨w2.heap.size, 3, none⟩ = some (.int .i64 0) ∧ w'.cell? ⟨w2.heap.size, 4, none⟩ = some (.int .i64 0)) (w4.drew.alloc (.cells #[.int .i64 5, .int .i64 0, .string ⟨#[102, 97, 108, 115, 101]⟩, .int .i64 0, .int .i64 0] 53)) := ⟨(cell_lt _ _ _ pl).trans p0, (cell_lt _ _ _ HK4.out.lt).trans k0, (cell_lt _ _ _ HK4.out.lt).trans k1, (cell_lt _ _ _ HK4.out.lt).trans k2, (cell_lt _ _ _ HK4.out.lt).trans k3, (cell_lt _ _ _ HK4.out.lt).trans k4⟩
      refine hK.out _ _ hS1 (fun hHeld => ?_)
      have HPd : Hid (PrS w4.drew b B (.slice Av ts.length cv) ts (n + 1)) := HP4.out.fr (FrS.refl w4.heap.size (fun _ => False) w4).drew (Nat.le_refl _) (fun h => h) fun _ _ h => h
      refine wpAnyD_ready [7] (by kernel_rfl) ?_
      refine AllReadyD.cons rfl (fun K hK => ?_) AllReadyD.nil
      refine step_pushk eTk rfl (.tmp 69) (.tmp 71) rfl B (.slice Av ts.length cv) ts.length _ rfl (HPd.out.alloc _).own ⟨w4.heap.size, 0, none⟩ 1 [.int .i64 5, .int .i64 0, .string ⟨#[102, 97, 108, 115, 101]⟩, .int .i64 0, .int .i64 0] rfl rfl (news_new _ _ _ _ rfl) (by simp [Value.oneCell']) (by omega) (by omega) (by omega) (by simp; omega) ?_
      intro g5 c5 w5 hown5 hgr5 hv5
      have HO5 := Lib.hid hown5
      have HG5 := Lib.hid hgr5
      have HV5 : Hid ((Value.slice (some ⟨g5, 0, none⟩) (ts.length + 1) c5).ownBlock = (Value.slice Av ts.length cv).ownBlock ∨ (Value.slice (some ⟨g5, 0, none⟩) (ts.length + 1) c5).ownBlock = some (w4.drew.alloc (.cells #[.int .i64 5, .int .i64 0, .string ⟨#[102, 97, 108, 115, 101]⟩, .int .i64 0, .int .i64 0] 53)).heap.size) := hv5.imp (fun h => h) fun h => congrArg some h
      have hb5 := HPd.out.alloc (.cells #[.int .i64 5, .int .i64 0, .string ⟨#[102, 97, 108, 115, 101]⟩, .int .i64 0, .int .i64 0] 53)
      have hb6 := hb5.blk.grown hgr5 (fun e => by have := (HVo.out _ e.symm).1; omega)
      have hkk := ((Blk.drew HK4.out).alloc (.cells #[.int .i64 5, .int .i64 0, .string ⟨#[102, 97, 108, 115, 101]⟩, .int .i64 0, .int .i64 0] 53)).grown hgr5 (fun e => by have := HVo.out _ e.symm; have := HK4.out.lt; omega)
      have q0 := Blk.cell hb6 0
      have qf := Blk.frozen hb6 0
      have ql := hb6.lt
      simp at q0
      obtain ⟨r0, r1, r2, r3, r4⟩ := tok_cells hkk
      refine hK.out _ _ ⟨q0, r0, r1, r2, r3, r4⟩ (fun hHeld => ?_)
      refine wpAnyD_done (by kernel_rfl) ?_
      simp only [List.drop_succ_cons, List.drop_zero]
      clear hS0 hS1 hHeld hK p0 p1 k0 k1 k2 k3 k4 hown5 hgr5 hv5 hb5 hb6 hkk r0 r1 r2 r3 r4
      go_upto_region 23 with (fail)
      have hpu := HPd.out.push hbB ⟨5, 0, [102, 97, 108, 115, 101]⟩ rfl (HO5.out) HG5.out HV5.out
      have HP6 := Lib.hid hpu.1
      have HF6 := Lib.hid hpu.2.1
      have HV6 := Lib.hid hpu.2.2
      have hs6 : w4.heap.size ≤ (w5.setCell ⟨b, 0, none⟩ (.slice (some ⟨g5, 0, none⟩) (ts.length + 1) c5)).heap.size := hpu.2.1.size
      clear hpu q0 qf ql
      generalize w5.setCell ⟨b, 0, none⟩ (.slice (some ⟨g5, 0, none⟩) (ts.length + 1) c5) = w6 at *
      have hf6 : FrS w4.heap.size (TPr b (.slice Av ts.length cv)) w4 w6 := ⟨HF6.out.os, HF6.out.tape, HF6.out.output, HF6.out.size, HF6.out.block⟩
      have HFr6 : Hid (FrS w.heap.size (TPr b (.slice Av ts.length cv)) w w6) := HFr4.out.trans (hf6.weak (by omega) fun _ _ h => h)
      have HW6 : Hid (Below b w w6) := tpr_below HFr6.out (by omega) fun m hm => by have := HVo.out m hm; omega
      have hk6 := hf6.blk HK4.out HK4.out.lt (fun e => e.elim (fun e => by omega) fun e => by have := HVo.out _ e; omega)
      obtain ⟨k0, k1, k2, k3, k4⟩ := tok_cells hk6
      have hk6l := Blk.lt hk6
      clear hf6 hk6
      go_wp2_with fail
      refine (HPr.out _ (HT.out _ HW6.out)).mono ?_
      rintro e w7 ⟨s7, rfl, hb7⟩
      have HB7 := Lib.hid hb7
      clear hb7
      go_wp2_with fail
      go_ret
      refine ⟨HFr6.out.trans (FrS.of_below HB7.out (by omega)), ?_⟩
      by_cases hte : TE = 0
      · rw [HEl.out hte]
        exact ⟨by rw [hte]; rfl, _, HP6.out.fr (FrS.of_below (S := fun _ => False) HB7.out (Nat.le_refl _)) (Nat.le_refl _) (fun h => h) (fun _ _ h => h), HV6.out.imp id fun ⟨m, h1, h2⟩ => ⟨m, h1, by have h3 : w4.heap.size ≤ m := h2; omega⟩⟩
      · rw [HEb.out hte]
        exact ⟨hte, rfl⟩
    · have HKl : Hid (ox.kind < 6) := by unfold Hid; rw [HKi.out]; decide
      have HEl := Lib.hid fun h => add_leaf (f := f) (d := d) HBig.out HNe.out HKl.out h
      have HEb := Lib.hid fun h => add_leafE (f := f) (d := d) HBig.out HNe.out HKl.out h
      have HPr := Lib.hid fun W hW => print_leaf (leafT ox) (fun h => leaf_valid HNe.out HKl.out h) (fun h => leaf_bad ⟨by rw [HKi.out]; decide, HKl.out⟩ h (fun _ => trivial)) W hW
      have HLf : Hid (leafT ox = ⟨5, 0, [116, 114, 117, 101]⟩) := by unfold Hid; rw [HOx.out]; rfl
      rw [HLf.out] at HPr HEl HEb
      unfold tokV at HPr
      dsimp only at HPr
      generalize tokE _ = TE at *
      clear hkr2
      have HFb : Hid (∀ W, Calls Tryz.prog 39 #[.bool true] W fun e w' => e = .returned (.string ⟨#[116, 114, 117, 101]⟩) ∧ W = w') := fun W => (strconv_FormatBool true W).mono fun e w' h => ⟨h.1, h.2.symm⟩
      go_upto_region 22 with (go_at_call 39; refine (HFb.out _).mono ?_; rintro e w' ⟨rfl, rfl⟩)
      have hk4 := tok_put HTk.out (.int .i64 5) (.int .i64 0) (.string ⟨#[116, 114, 117, 101]⟩) (.int .i64 0) (.int .i64 0)
      have hf4 : FrS w3.heap.size (fun m => m = w2.heap.size) w3 (((((w3.setCell ⟨w2.heap.size, 0, none⟩ (.int .i64 5)).setCell ⟨w2.heap.size, 1, none⟩ (.int .i64 0)).setCell ⟨w2.heap.size, 2, none⟩ (.string ⟨#[116, 114, 117, 101]⟩)).setCell ⟨w2.heap.size, 3, none⟩ (.int .i64 0)).setCell ⟨w2.heap.size, 4, none⟩ (.int .i64 0)) :=
        ((((FrS.put (p := ⟨w2.heap.size, 0, none⟩) (FrS.refl w3.heap.size (fun m => m = w2.heap.size) w3) (.inr rfl) _).put (p := ⟨w2.heap.size, 1, none⟩) (.inr rfl) _).put (p := ⟨w2.heap.size, 2, none⟩) (.inr rfl) _).put (p := ⟨w2.heap.size, 3, none⟩) (.inr rfl) _).put (p := ⟨w2.heap.size, 4, none⟩) (.inr rfl) _
      have HK4 := Lib.hid hk4
      have HF4 := Lib.hid hf4
      have hs4 : w3.heap.size ≤ (((((w3.setCell ⟨w2.heap.size, 0, none⟩ (.int .i64 5)).setCell ⟨w2.heap.size, 1, none⟩ (.int .i64 0)).setCell ⟨w2.heap.size, 2, none⟩ (.string ⟨#[116, 114, 117, 101]⟩)).setCell ⟨w2.heap.size, 3, none⟩ (.int .i64 0)).setCell ⟨w2.heap.size, 4, none⟩ (.int .i64 0)).heap.size := hf4.size
      clear hk4 hf4 x0 x1 x2 x3 x4 k0 k1 k2 k3 k4 zz0 zz1 zz2 zz3 zz4
      generalize World.setCell _ _ _ = w4 at *
      have HP4 := Lib.hid (HP3.out.fr HF4.out (Nat.le_refl _) (by omega) fun m h1 e => by have := HVo.out m h1; omega)
      have HFr4 : Hid (FrS w.heap.size (TPr b v) w w4) := HFr3.out.trans (HF4.out.weak (by omega) fun m h1 h2 => by omega)
      have HW4 : Hid (Below b w w4) := tpr_below HFr4.out (by omega) fun m hm => by have := HVo.out m hm; omega
      obtain ⟨Av, cv, rfl⟩ := own_form HP4.out.own
      obtain ⟨p0, p1, pf0, pf1, pl⟩ := HP4.out.cells
      obtain ⟨k0, k1, k2, k3, k4⟩ := tok_cells HK4.out
      have hS0 : (fun w' : World => w'.cell? ⟨b, 0, none⟩ = some (.slice Av ts.length cv) ∧ w'.cell? ⟨w2.heap.size, 0, none⟩ = some (.int .i64 5) ∧ w'.cell? ⟨w2.heap.size, 1, none⟩ = some (.int .i64 0) ∧ w'.cell? ⟨w2.heap.size, 2, none⟩ = some (.string ⟨#[116, 114, 117, 101]⟩) ∧ w'.cell? ⟨w2.heap.size, 3, none⟩ = some (.int .i64 0) ∧ w'.cell? ⟨w2.heap.size, 4, none⟩ = some (.int .i64 0)) w4.drew := ⟨p0, k0, k1, k2, k3, k4⟩
      refine wp_region_tail (fun w' : World => w'.cell? ⟨b, 0, none⟩ = some (.slice Av ts.length cv) ∧ w'.cell? ⟨w2.heap.size, 0, none⟩ = some (.int .i64 5) ∧ w'.cell? ⟨w2.heap.size, 1, none⟩ = some (.int .i64 0) ∧ w'.cell? ⟨w2.heap.size, 2, none⟩ = some (.string ⟨#[116, 114, 117, 101]⟩) ∧ w'.cell? ⟨w2.heap.size, 3, none⟩ = some (.int .i64 0) ∧ w'.cell? ⟨w2.heap.size, 4, none⟩ = some (.int .i64 0)) 8 (by kernel_rfl) (by kernel_rfl) hS0 (fun hHeld => ?_)
      refine wpAnyD_take 0 (v := ?_) rfl (by kernel_rfl) (by kernel_rfl) (by kernel_rfl) (fun _ _ _ h => h) hHeld (Or.inl ⟨by rfl, ?_⟩) ?_
      rotate_left
      · intro w' hw'; obtain ⟨h0, h1, h2, h3, h4, h5⟩ := hw'; go_simp; try with_reducible rfl
      try simp only [Act.put, List.setIfInBounds_toArray, List.set_cons_zero, List.set_cons_succ]
      refine wpAnyD_take 1 (v := ?_) rfl (by kernel_rfl) (by kernel_rfl) (by kernel_rfl) (fun _ _ _ h => h) hHeld (Or.inl ⟨by rfl, ?_⟩) ?_
      rotate_left
      · intro w' hw'; obtain ⟨h0, h1, h2, h3, h4, h5⟩ := hw'; go_simp; try with_reducible rfl
      try simp only [Act.put, List.setIfInBounds_toArray, List.set_cons_zero, List.set_cons_succ]
      refine wpAnyD_take 2 (v := ?_) rfl (by kernel_rfl) (by kernel_rfl) (by kernel_rfl) (fun _ _ _ h => h) hHeld (Or.inl ⟨by rfl, ?_⟩) ?_
      rotate_left
      · intro w' hw'; obtain ⟨h0, h1, h2, h3, h4, h5⟩ := hw'; go_simp; try with_reducible rfl
      try simp only [Act.put, List.setIfInBounds_toArray, List.set_cons_zero, List.set_cons_succ]
      refine wpAnyD_take 3 (v := ?_) rfl (by kernel_rfl) (by kernel_rfl) (by kernel_rfl) (fun _ _ _ h => h) hHeld (Or.inl ⟨by rfl, ?_⟩) ?_
      rotate_left
      · intro w' hw'; obtain ⟨h0, h1, h2, h3, h4, h5⟩ := hw'; go_simp; try with_reducible rfl
      try simp only [Act.put, List.setIfInBounds_toArray, List.set_cons_zero, List.set_cons_succ]
      refine wpAnyD_take 4 (v := ?_) rfl (by kernel_rfl) (by kernel_rfl) (by kernel_rfl) (fun _ _ _ h => h) hHeld (Or.inl ⟨by rfl, ?_⟩) ?_
      rotate_left
      · intro w' hw'; obtain ⟨h0, h1, h2, h3, h4, h5⟩ := hw'; go_simp; try with_reducible rfl
      try simp only [Act.put, List.setIfInBounds_toArray, List.set_cons_zero, List.set_cons_succ]
      refine wpAnyD_take 5 (v := ?_) rfl (by kernel_rfl) (by kernel_rfl) (by kernel_rfl) (fun _ _ _ h => h) hHeld (Or.inl ⟨by rfl, ?_⟩) ?_
      rotate_left
      · intro w' hw'; obtain ⟨h0, h1, h2, h3, h4, h5⟩ := hw'; go_simp; try with_reducible rfl
      try simp only [Act.put, List.setIfInBounds_toArray, List.set_cons_zero, List.set_cons_succ]
      refine wpAnyD_ready [6] (by kernel_rfl) ?_
      refine AllReadyD.cons rfl (fun K hK => ?_) AllReadyD.nil
      go_simp
      have hS1 : (fun w' : World => w'.cell? ⟨b, 0, none⟩ = some (.slice Av ts.length cv) ∧ w'.cell? ⟨w2.heap.size, 0, none⟩ = some (.int .i64 5) ∧ w'.cell? ⟨w2.heap.size, 1, none⟩ = some (.int .i64 0) ∧ w'.cell? ⟨w2.heap.size, 2, none⟩ = some (.string ⟨#[116, 114, 117, 101]⟩) ∧ w'.cell? ⟨w2.heap.size, 3, none⟩ = some (.int .i64 0) ∧ w'.cell? ⟨w2.heap.size, 4, none⟩ = some (.int .i64 0)) (w4.drew.alloc (.cells #[.int .i64 5, .int .i64 0, .string ⟨#[116, 114, 117, 101]⟩, .int .i64 0, .int .i64 0] 53)) := ⟨(cell_lt _ _ _ pl).trans p0, (cell_lt _ _ _ HK4.out.lt).trans k0, (cell_lt _ _ _ HK4.out.lt).trans k1, (cell_lt _ _ _ HK4.out.lt).trans k2, (cell_lt _ _ _ HK4.out.lt).trans k3, (cell_lt _ _ _ HK4.out.lt).trans k4⟩
      refine hK.out _ _ hS1 (fun hHeld => ?_)
      have HPd : Hid (PrS w4.drew b B (.slice Av ts.length cv) ts (n + 1)) := HP4.out.fr (FrS.refl w4.heap.size (fun _ => False) w4).drew (Nat.le_refl _) (fun h => h) fun _ _ h => h
      refine wpAnyD_ready [7] (by kernel_rfl) ?_
      refine AllReadyD.cons rfl (fun K hK => ?_) AllReadyD.nil
      refine step_pushk eTk rfl (.tmp 69) (.tmp 71) rfl B (.slice Av ts.length cv) ts.length _ rfl (HPd.out.alloc _).own ⟨w4.heap.size, 0, none⟩ 1 [.int .i64 5, .int .i64 0, .string ⟨#[116, 114, 117, 101]⟩, .int .i64 0, .int .i64 0] rfl rfl (news_new _ _ _ _ rfl) (by simp [Value.oneCell']) (by omega) (by omega) (by omega) (by simp; omega) ?_
      intro g5 c5 w5 hown5 hgr5 hv5
      have HO5 := Lib.hid hown5
      have HG5 := Lib.hid hgr5
      have HV5 : Hid ((Value.slice (some ⟨g5, 0, none⟩) (ts.length + 1) c5).ownBlock = (Value.slice Av ts.length cv).ownBlock ∨ (Value.slice (some ⟨g5, 0, none⟩) (ts.length + 1) c5).ownBlock = some (w4.drew.alloc (.cells #[.int .i64 5, .int .i64 0, .string ⟨#[116, 114, 117, 101]⟩, .int .i64 0, .int .i64 0] 53)).heap.size) := hv5.imp (fun h => h) fun h => congrArg some h
      have hb5 := HPd.out.alloc (.cells #[.int .i64 5, .int .i64 0, .string ⟨#[116, 114, 117, 101]⟩, .int .i64 0, .int .i64 0] 53)
      have hb6 := hb5.blk.grown hgr5 (fun e => by have := (HVo.out _ e.symm).1; omega)
      have hkk := ((Blk.drew HK4.out).alloc (.cells #[.int .i64 5, .int .i64 0, .string ⟨#[116, 114, 117, 101]⟩, .int .i64 0, .int .i64 0] 53)).grown hgr5 (fun e => by have := HVo.out _ e.symm; have := HK4.out.lt; omega)
      have q0 := Blk.cell hb6 0
      have qf := Blk.frozen hb6 0
      have ql := hb6.lt
      simp at q0
      obtain ⟨r0, r1, r2, r3, r4⟩ := tok_cells hkk
      refine hK.out _ _ ⟨q0, r0, r1, r2, r3, r4⟩ (fun hHeld => ?_)
      refine wpAnyD_done (by kernel_rfl) ?_
      simp only [List.drop_succ_cons, List.drop_zero]
      clear hS0 hS1 hHeld hK p0 p1 k0 k1 k2 k3 k4 hown5 hgr5 hv5 hb5 hb6 hkk r0 r1 r2 r3 r4
      go_upto_region 23 with (fail)
      have hpu := HPd.out.push hbB ⟨5, 0, [116, 114, 117, 101]⟩ rfl (HO5.out) HG5.out HV5.out
      have HP6 := Lib.hid hpu.1
      have HF6 := Lib.hid hpu.2.1
      have HV6 := Lib.hid hpu.2.2
      have hs6 : w4.heap.size ≤ (w5.setCell ⟨b, 0, none⟩ (.slice (some ⟨g5, 0, none⟩) (ts.length + 1) c5)).heap.size := hpu.2.1.size
      clear hpu q0 qf ql
      generalize w5.setCell ⟨b, 0, none⟩ (.slice (some ⟨g5, 0, none⟩) (ts.length + 1) c5) = w6 at *
      have hf6 : FrS w4.heap.size (TPr b (.slice Av ts.length cv)) w4 w6 := ⟨HF6.out.os, HF6.out.tape, HF6.out.output, HF6.out.size, HF6.out.block⟩
      have HFr6 : Hid (FrS w.heap.size (TPr b (.slice Av ts.length cv)) w w6) := HFr4.out.trans (hf6.weak (by omega) fun _ _ h => h)
      have HW6 : Hid (Below b w w6) := tpr_below HFr6.out (by omega) fun m hm => by have := HVo.out m hm; omega
      have hk6 := hf6.blk HK4.out HK4.out.lt (fun e => e.elim (fun e => by omega) fun e => by have := HVo.out _ e; omega)
      obtain ⟨k0, k1, k2, k3, k4⟩ := tok_cells hk6
      have hk6l := Blk.lt hk6
      clear hf6 hk6
      go_wp2_with fail
      refine (HPr.out _ (HT.out _ HW6.out)).mono ?_
      rintro e w7 ⟨s7, rfl, hb7⟩
      have HB7 := Lib.hid hb7
      clear hb7
      go_wp2_with fail
      go_ret
      refine ⟨HFr6.out.trans (FrS.of_below HB7.out (by omega)), ?_⟩
      by_cases hte : TE = 0
      · rw [HEl.out hte]
        exact ⟨by rw [hte]; rfl, _, HP6.out.fr (FrS.of_below (S := fun _ => False) HB7.out (Nat.le_refl _)) (Nat.le_refl _) (fun h => h) (fun _ _ h => h), HV6.out.imp id fun ⟨m, h1, h2⟩ => ⟨m, h1, by have h3 : w4.heap.size ≤ m := h2; omega⟩⟩
      · rw [HEb.out hte]
        exact ⟨hte, rfl⟩
  · have HKl : Hid (ox.kind < 6) := by unfold Hid; rw [HKi.out]; decide
    have HEl := Lib.hid fun h => add_leaf (f := f) (d := d) HBig.out HNe.out HKl.out h
    have HEb := Lib.hid fun h => add_leafE (f := f) (d := d) HBig.out HNe.out HKl.out h
    have HPr := Lib.hid fun W hW => print_leaf (leafT ox) (fun h => leaf_valid HNe.out HKl.out h) (fun h => leaf_bad ⟨by rw [HKi.out]; decide, HKl.out⟩ h (fun _ => trivial)) W hW
    have HLf : Hid (leafT ox = ⟨1, i, []⟩) := by unfold Hid; rw [HOx.out]; rfl
    rw [HLf.out] at HPr HEl HEb
    unfold tokV at HPr
    dsimp only at HPr
    generalize tokE _ = TE at *
    clear hkr2
    go_upto_region 22 with (fail)
    have hk4 := tok_put HTk.out (.int .i64 1) (.int .i64 i) (.string ⟨#[]⟩) (.int .i64 0) (.int .i64 0)
    have hf4 : FrS w3.heap.size (fun m => m = w2.heap.size) w3 (((((w3.setCell ⟨w2.heap.size, 0, none⟩ (.int .i64 1)).setCell ⟨w2.heap.size, 1, none⟩ (.int .i64 i)).setCell ⟨w2.heap.size, 2, none⟩ (.string ⟨#[]⟩)).setCell ⟨w2.heap.size, 3, none⟩ (.int .i64 0)).setCell ⟨w2.heap.size, 4, none⟩ (.int .i64 0)) :=
      ((((FrS.put (p := ⟨w2.heap.size, 0, none⟩) (FrS.refl w3.heap.size (fun m => m = w2.heap.size) w3) (.inr rfl) _).put (p := ⟨w2.heap.size, 1, none⟩) (.inr rfl) _).put (p := ⟨w2.heap.size, 2, none⟩) (.inr rfl) _).put (p := ⟨w2.heap.size, 3, none⟩) (.inr rfl) _).put (p := ⟨w2.heap.size, 4, none⟩) (.inr rfl) _
    have HK4 := Lib.hid hk4
    have HF4 := Lib.hid hf4
    have hs4 : w3.heap.size ≤ (((((w3.setCell ⟨w2.heap.size, 0, none⟩ (.int .i64 1)).setCell ⟨w2.heap.size, 1, none⟩ (.int .i64 i)).setCell ⟨w2.heap.size, 2, none⟩ (.string ⟨#[]⟩)).setCell ⟨w2.heap.size, 3, none⟩ (.int .i64 0)).setCell ⟨w2.heap.size, 4, none⟩ (.int .i64 0)).heap.size := hf4.size
    clear hk4 hf4 x0 x1 x2 x3 x4 k0 k1 k2 k3 k4 zz0 zz1 zz2 zz3 zz4
    generalize World.setCell _ _ _ = w4 at *
    have HP4 := Lib.hid (HP3.out.fr HF4.out (Nat.le_refl _) (by omega) fun m h1 e => by have := HVo.out m h1; omega)
    have HFr4 : Hid (FrS w.heap.size (TPr b v) w w4) := HFr3.out.trans (HF4.out.weak (by omega) fun m h1 h2 => by omega)
    have HW4 : Hid (Below b w w4) := tpr_below HFr4.out (by omega) fun m hm => by have := HVo.out m hm; omega
    obtain ⟨Av, cv, rfl⟩ := own_form HP4.out.own
    obtain ⟨p0, p1, pf0, pf1, pl⟩ := HP4.out.cells
    obtain ⟨k0, k1, k2, k3, k4⟩ := tok_cells HK4.out
    have hS0 : (fun w' : World => w'.cell? ⟨b, 0, none⟩ = some (.slice Av ts.length cv) ∧ w'.cell? ⟨w2.heap.size, 0, none⟩ = some (.int .i64 1) ∧ w'.cell? ⟨w2.heap.size, 1, none⟩ = some (.int .i64 i) ∧ w'.cell? ⟨w2.heap.size, 2, none⟩ = some (.string ⟨#[]⟩) ∧ w'.cell? ⟨w2.heap.size, 3, none⟩ = some (.int .i64 0) ∧ w'.cell? ⟨w2.heap.size, 4, none⟩ = some (.int .i64 0)) w4.drew := ⟨p0, k0, k1, k2, k3, k4⟩
    refine wp_region_tail (fun w' : World => w'.cell? ⟨b, 0, none⟩ = some (.slice Av ts.length cv) ∧ w'.cell? ⟨w2.heap.size, 0, none⟩ = some (.int .i64 1) ∧ w'.cell? ⟨w2.heap.size, 1, none⟩ = some (.int .i64 i) ∧ w'.cell? ⟨w2.heap.size, 2, none⟩ = some (.string ⟨#[]⟩) ∧ w'.cell? ⟨w2.heap.size, 3, none⟩ = some (.int .i64 0) ∧ w'.cell? ⟨w2.heap.size, 4, none⟩ = some (.int .i64 0)) 8 (by kernel_rfl) (by kernel_rfl) hS0 (fun hHeld => ?_)
    refine wpAnyD_take 0 (v := ?_) rfl (by kernel_rfl) (by kernel_rfl) (by kernel_rfl) (fun _ _ _ h => h) hHeld (Or.inl ⟨by rfl, ?_⟩) ?_
    rotate_left
    · intro w' hw'; obtain ⟨h0, h1, h2, h3, h4, h5⟩ := hw'; go_simp; try with_reducible rfl
    try simp only [Act.put, List.setIfInBounds_toArray, List.set_cons_zero, List.set_cons_succ]
    refine wpAnyD_take 1 (v := ?_) rfl (by kernel_rfl) (by kernel_rfl) (by kernel_rfl) (fun _ _ _ h => h) hHeld (Or.inl ⟨by rfl, ?_⟩) ?_
    rotate_left
    · intro w' hw'; obtain ⟨h0, h1, h2, h3, h4, h5⟩ := hw'; go_simp; try with_reducible rfl
    try simp only [Act.put, List.setIfInBounds_toArray, List.set_cons_zero, List.set_cons_succ]
    refine wpAnyD_take 2 (v := ?_) rfl (by kernel_rfl) (by kernel_rfl) (by kernel_rfl) (fun _ _ _ h => h) hHeld (Or.inl ⟨by rfl, ?_⟩) ?_
    rotate_left
    · intro w' hw'; obtain ⟨h0, h1, h2, h3, h4, h5⟩ := hw'; go_simp; try with_reducible rfl
    try simp only [Act.put, List.setIfInBounds_toArray, List.set_cons_zero, List.set_cons_succ]
    refine wpAnyD_take 3 (v := ?_) rfl (by kernel_rfl) (by kernel_rfl) (by kernel_rfl) (fun _ _ _ h => h) hHeld (Or.inl ⟨by rfl, ?_⟩) ?_
    rotate_left
    · intro w' hw'; obtain ⟨h0, h1, h2, h3, h4, h5⟩ := hw'; go_simp; try with_reducible rfl
    try simp only [Act.put, List.setIfInBounds_toArray, List.set_cons_zero, List.set_cons_succ]
    refine wpAnyD_take 4 (v := ?_) rfl (by kernel_rfl) (by kernel_rfl) (by kernel_rfl) (fun _ _ _ h => h) hHeld (Or.inl ⟨by rfl, ?_⟩) ?_
    rotate_left
    · intro w' hw'; obtain ⟨h0, h1, h2, h3, h4, h5⟩ := hw'; go_simp; try with_reducible rfl
    try simp only [Act.put, List.setIfInBounds_toArray, List.set_cons_zero, List.set_cons_succ]
    refine wpAnyD_take 5 (v := ?_) rfl (by kernel_rfl) (by kernel_rfl) (by kernel_rfl) (fun _ _ _ h => h) hHeld (Or.inl ⟨by rfl, ?_⟩) ?_
    rotate_left
    · intro w' hw'; obtain ⟨h0, h1, h2, h3, h4, h5⟩ := hw'; go_simp; try with_reducible rfl
    try simp only [Act.put, List.setIfInBounds_toArray, List.set_cons_zero, List.set_cons_succ]
    refine wpAnyD_ready [6] (by kernel_rfl) ?_
    refine AllReadyD.cons rfl (fun K hK => ?_) AllReadyD.nil
    go_simp
    have hS1 : (fun w' : World => w'.cell? ⟨b, 0, none⟩ = some (.slice Av ts.length cv) ∧ w'.cell? ⟨w2.heap.size, 0, none⟩ = some (.int .i64 1) ∧ w'.cell? ⟨w2.heap.size, 1, none⟩ = some (.int .i64 i) ∧ w'.cell? ⟨w2.heap.size, 2, none⟩ = some (.string ⟨#[]⟩) ∧ w'.cell? ⟨w2.heap.size, 3, none⟩ = some (.int .i64 0) ∧ w'.cell? ⟨w2.heap.size, 4, none⟩ = some (.int .i64 0)) (w4.drew.alloc (.cells #[.int .i64 1, .int .i64 i, .string ⟨#[]⟩, .int .i64 0, .int .i64 0] 53)) := ⟨(cell_lt _ _ _ pl).trans p0, (cell_lt _ _ _ HK4.out.lt).trans k0, (cell_lt _ _ _ HK4.out.lt).trans k1, (cell_lt _ _ _ HK4.out.lt).trans k2, (cell_lt _ _ _ HK4.out.lt).trans k3, (cell_lt _ _ _ HK4.out.lt).trans k4⟩
    refine hK.out _ _ hS1 (fun hHeld => ?_)
    have HPd : Hid (PrS w4.drew b B (.slice Av ts.length cv) ts (n + 1)) := HP4.out.fr (FrS.refl w4.heap.size (fun _ => False) w4).drew (Nat.le_refl _) (fun h => h) fun _ _ h => h
    refine wpAnyD_ready [7] (by kernel_rfl) ?_
    refine AllReadyD.cons rfl (fun K hK => ?_) AllReadyD.nil
    refine step_pushk eTk rfl (.tmp 69) (.tmp 71) rfl B (.slice Av ts.length cv) ts.length _ rfl (HPd.out.alloc _).own ⟨w4.heap.size, 0, none⟩ 1 [.int .i64 1, .int .i64 i, .string ⟨#[]⟩, .int .i64 0, .int .i64 0] rfl rfl (news_new _ _ _ _ rfl) (by simp [Value.oneCell']) (by omega) (by omega) (by omega) (by simp; omega) ?_
    intro g5 c5 w5 hown5 hgr5 hv5
    have HO5 := Lib.hid hown5
    have HG5 := Lib.hid hgr5
    have HV5 : Hid ((Value.slice (some ⟨g5, 0, none⟩) (ts.length + 1) c5).ownBlock = (Value.slice Av ts.length cv).ownBlock ∨ (Value.slice (some ⟨g5, 0, none⟩) (ts.length + 1) c5).ownBlock = some (w4.drew.alloc (.cells #[.int .i64 1, .int .i64 i, .string ⟨#[]⟩, .int .i64 0, .int .i64 0] 53)).heap.size) := hv5.imp (fun h => h) fun h => congrArg some h
    have hb5 := HPd.out.alloc (.cells #[.int .i64 1, .int .i64 i, .string ⟨#[]⟩, .int .i64 0, .int .i64 0] 53)
    have hb6 := hb5.blk.grown hgr5 (fun e => by have := (HVo.out _ e.symm).1; omega)
    have hkk := ((Blk.drew HK4.out).alloc (.cells #[.int .i64 1, .int .i64 i, .string ⟨#[]⟩, .int .i64 0, .int .i64 0] 53)).grown hgr5 (fun e => by have := HVo.out _ e.symm; have := HK4.out.lt; omega)
    have q0 := Blk.cell hb6 0
    have qf := Blk.frozen hb6 0
    have ql := hb6.lt
    simp at q0
    obtain ⟨r0, r1, r2, r3, r4⟩ := tok_cells hkk
    refine hK.out _ _ ⟨q0, r0, r1, r2, r3, r4⟩ (fun hHeld => ?_)
    refine wpAnyD_done (by kernel_rfl) ?_
    simp only [List.drop_succ_cons, List.drop_zero]
    clear hS0 hS1 hHeld hK p0 p1 k0 k1 k2 k3 k4 hown5 hgr5 hv5 hb5 hb6 hkk r0 r1 r2 r3 r4
    go_upto_region 23 with (fail)
    have hpu := HPd.out.push hbB ⟨1, i, []⟩ rfl (HO5.out) HG5.out HV5.out
    have HP6 := Lib.hid hpu.1
    have HF6 := Lib.hid hpu.2.1
    have HV6 := Lib.hid hpu.2.2
    have hs6 : w4.heap.size ≤ (w5.setCell ⟨b, 0, none⟩ (.slice (some ⟨g5, 0, none⟩) (ts.length + 1) c5)).heap.size := hpu.2.1.size
    clear hpu q0 qf ql
    generalize w5.setCell ⟨b, 0, none⟩ (.slice (some ⟨g5, 0, none⟩) (ts.length + 1) c5) = w6 at *
    have hf6 : FrS w4.heap.size (TPr b (.slice Av ts.length cv)) w4 w6 := ⟨HF6.out.os, HF6.out.tape, HF6.out.output, HF6.out.size, HF6.out.block⟩
    have HFr6 : Hid (FrS w.heap.size (TPr b (.slice Av ts.length cv)) w w6) := HFr4.out.trans (hf6.weak (by omega) fun _ _ h => h)
    have HW6 : Hid (Below b w w6) := tpr_below HFr6.out (by omega) fun m hm => by have := HVo.out m hm; omega
    have hk6 := hf6.blk HK4.out HK4.out.lt (fun e => e.elim (fun e => by omega) fun e => by have := HVo.out _ e; omega)
    obtain ⟨k0, k1, k2, k3, k4⟩ := tok_cells hk6
    have hk6l := Blk.lt hk6
    clear hf6 hk6
    go_wp2_with fail
    refine (HPr.out _ (HT.out _ HW6.out)).mono ?_
    rintro e w7 ⟨s7, rfl, hb7⟩
    have HB7 := Lib.hid hb7
    clear hb7
    go_wp2_with fail
    go_ret
    refine ⟨HFr6.out.trans (FrS.of_below HB7.out (by omega)), ?_⟩
    by_cases hte : TE = 0
    · rw [HEl.out hte]
      exact ⟨by rw [hte]; rfl, _, HP6.out.fr (FrS.of_below (S := fun _ => False) HB7.out (Nat.le_refl _)) (Nat.le_refl _) (fun h => h) (fun _ _ h => h), HV6.out.imp id fun ⟨m, h1, h2⟩ => ⟨m, h1, by have h3 : w4.heap.size ≤ m := h2; omega⟩⟩
    · rw [HEb.out hte]
      exact ⟨hte, rfl⟩
  · have HKl : Hid (ox.kind < 6) := by unfold Hid; rw [HKi.out]; decide
    have HEl := Lib.hid fun h => add_leaf (f := f) (d := d) HBig.out HNe.out HKl.out h
    have HEb := Lib.hid fun h => add_leafE (f := f) (d := d) HBig.out HNe.out HKl.out h
    have HPr := Lib.hid fun W hW => print_leaf (leafT ox) (fun h => leaf_valid HNe.out HKl.out h) (fun h => leaf_bad ⟨by rw [HKi.out]; decide, HKl.out⟩ h (fun _ => trivial)) W hW
    have HLf : Hid (leafT ox = ⟨2, 0, t⟩) := by unfold Hid; rw [HOx.out]; rfl
    rw [HLf.out] at HPr HEl HEb
    unfold tokV at HPr
    dsimp only at HPr
    generalize tokE _ = TE at *
    clear hkr2
    rw [← HS.out] at HPr
    go_upto_region 22 with (fail)
    have hk4 := tok_put HTk.out (.int .i64 2) (.int .i64 0) (.string S) (.int .i64 0) (.int .i64 0)
    have hf4 : FrS w3.heap.size (fun m => m = w2.heap.size) w3 (((((w3.setCell ⟨w2.heap.size, 0, none⟩ (.int .i64 2)).setCell ⟨w2.heap.size, 1, none⟩ (.int .i64 0)).setCell ⟨w2.heap.size, 2, none⟩ (.string S)).setCell ⟨w2.heap.size, 3, none⟩ (.int .i64 0)).setCell ⟨w2.heap.size, 4, none⟩ (.int .i64 0)) :=
      ((((FrS.put (p := ⟨w2.heap.size, 0, none⟩) (FrS.refl w3.heap.size (fun m => m = w2.heap.size) w3) (.inr rfl) _).put (p := ⟨w2.heap.size, 1, none⟩) (.inr rfl) _).put (p := ⟨w2.heap.size, 2, none⟩) (.inr rfl) _).put (p := ⟨w2.heap.size, 3, none⟩) (.inr rfl) _).put (p := ⟨w2.heap.size, 4, none⟩) (.inr rfl) _
    have HK4 := Lib.hid hk4
    have HF4 := Lib.hid hf4
    have hs4 : w3.heap.size ≤ (((((w3.setCell ⟨w2.heap.size, 0, none⟩ (.int .i64 2)).setCell ⟨w2.heap.size, 1, none⟩ (.int .i64 0)).setCell ⟨w2.heap.size, 2, none⟩ (.string S)).setCell ⟨w2.heap.size, 3, none⟩ (.int .i64 0)).setCell ⟨w2.heap.size, 4, none⟩ (.int .i64 0)).heap.size := hf4.size
    clear hk4 hf4 x0 x1 x2 x3 x4 k0 k1 k2 k3 k4 zz0 zz1 zz2 zz3 zz4
    generalize World.setCell _ _ _ = w4 at *
    have HP4 := Lib.hid (HP3.out.fr HF4.out (Nat.le_refl _) (by omega) fun m h1 e => by have := HVo.out m h1; omega)
    have HFr4 : Hid (FrS w.heap.size (TPr b v) w w4) := HFr3.out.trans (HF4.out.weak (by omega) fun m h1 h2 => by omega)
    have HW4 : Hid (Below b w w4) := tpr_below HFr4.out (by omega) fun m hm => by have := HVo.out m hm; omega
    obtain ⟨Av, cv, rfl⟩ := own_form HP4.out.own
    obtain ⟨p0, p1, pf0, pf1, pl⟩ := HP4.out.cells
    obtain ⟨k0, k1, k2, k3, k4⟩ := tok_cells HK4.out
    have hS0 : (fun w' : World => w'.cell? ⟨b, 0, none⟩ = some (.slice Av ts.length cv) ∧ w'.cell? ⟨w2.heap.size, 0, none⟩ = some (.int .i64 2) ∧ w'.cell? ⟨w2.heap.size, 1, none⟩ = some (.int .i64 0) ∧ w'.cell? ⟨w2.heap.size, 2, none⟩ = some (.string S) ∧ w'.cell? ⟨w2.heap.size, 3, none⟩ = some (.int .i64 0) ∧ w'.cell? ⟨w2.heap.size, 4, none⟩ = some (.int .i64 0)) w4.drew := ⟨p0, k0, k1, k2, k3, k4⟩
    refine wp_region_tail (fun w' : World => w'.cell? ⟨b, 0, none⟩ = some (.slice Av ts.length cv) ∧ w'.cell? ⟨w2.heap.size, 0, none⟩ = some (.int .i64 2) ∧ w'.cell? ⟨w2.heap.size, 1, none⟩ = some (.int .i64 0) ∧ w'.cell? ⟨w2.heap.size, 2, none⟩ = some (.string S) ∧ w'.cell? ⟨w2.heap.size, 3, none⟩ = some (.int .i64 0) ∧ w'.cell? ⟨w2.heap.size, 4, none⟩ = some (.int .i64 0)) 8 (by kernel_rfl) (by kernel_rfl) hS0 (fun hHeld => ?_)
    refine wpAnyD_take 0 (v := ?_) rfl (by kernel_rfl) (by kernel_rfl) (by kernel_rfl) (fun _ _ _ h => h) hHeld (Or.inl ⟨by rfl, ?_⟩) ?_
    rotate_left
    · intro w' hw'; obtain ⟨h0, h1, h2, h3, h4, h5⟩ := hw'; go_simp; try with_reducible rfl
    try simp only [Act.put, List.setIfInBounds_toArray, List.set_cons_zero, List.set_cons_succ]
    refine wpAnyD_take 1 (v := ?_) rfl (by kernel_rfl) (by kernel_rfl) (by kernel_rfl) (fun _ _ _ h => h) hHeld (Or.inl ⟨by rfl, ?_⟩) ?_
    rotate_left
    · intro w' hw'; obtain ⟨h0, h1, h2, h3, h4, h5⟩ := hw'; go_simp; try with_reducible rfl
    try simp only [Act.put, List.setIfInBounds_toArray, List.set_cons_zero, List.set_cons_succ]
    refine wpAnyD_take 2 (v := ?_) rfl (by kernel_rfl) (by kernel_rfl) (by kernel_rfl) (fun _ _ _ h => h) hHeld (Or.inl ⟨by rfl, ?_⟩) ?_
    rotate_left
    · intro w' hw'; obtain ⟨h0, h1, h2, h3, h4, h5⟩ := hw'; go_simp; try with_reducible rfl
    try simp only [Act.put, List.setIfInBounds_toArray, List.set_cons_zero, List.set_cons_succ]
    refine wpAnyD_take 3 (v := ?_) rfl (by kernel_rfl) (by kernel_rfl) (by kernel_rfl) (fun _ _ _ h => h) hHeld (Or.inl ⟨by rfl, ?_⟩) ?_
    rotate_left
    · intro w' hw'; obtain ⟨h0, h1, h2, h3, h4, h5⟩ := hw'; go_simp; try with_reducible rfl
    try simp only [Act.put, List.setIfInBounds_toArray, List.set_cons_zero, List.set_cons_succ]
    refine wpAnyD_take 4 (v := ?_) rfl (by kernel_rfl) (by kernel_rfl) (by kernel_rfl) (fun _ _ _ h => h) hHeld (Or.inl ⟨by rfl, ?_⟩) ?_
    rotate_left
    · intro w' hw'; obtain ⟨h0, h1, h2, h3, h4, h5⟩ := hw'; go_simp; try with_reducible rfl
    try simp only [Act.put, List.setIfInBounds_toArray, List.set_cons_zero, List.set_cons_succ]
    refine wpAnyD_take 5 (v := ?_) rfl (by kernel_rfl) (by kernel_rfl) (by kernel_rfl) (fun _ _ _ h => h) hHeld (Or.inl ⟨by rfl, ?_⟩) ?_
    rotate_left
    · intro w' hw'; obtain ⟨h0, h1, h2, h3, h4, h5⟩ := hw'; go_simp; try with_reducible rfl
    try simp only [Act.put, List.setIfInBounds_toArray, List.set_cons_zero, List.set_cons_succ]
    refine wpAnyD_ready [6] (by kernel_rfl) ?_
    refine AllReadyD.cons rfl (fun K hK => ?_) AllReadyD.nil
    go_simp
    have hS1 : (fun w' : World => w'.cell? ⟨b, 0, none⟩ = some (.slice Av ts.length cv) ∧ w'.cell? ⟨w2.heap.size, 0, none⟩ = some (.int .i64 2) ∧ w'.cell? ⟨w2.heap.size, 1, none⟩ = some (.int .i64 0) ∧ w'.cell? ⟨w2.heap.size, 2, none⟩ = some (.string S) ∧ w'.cell? ⟨w2.heap.size, 3, none⟩ = some (.int .i64 0) ∧ w'.cell? ⟨w2.heap.size, 4, none⟩ = some (.int .i64 0)) (w4.drew.alloc (.cells #[.int .i64 2, .int .i64 0, .string S, .int .i64 0, .int .i64 0] 53)) := ⟨(cell_lt _ _ _ pl).trans p0, (cell_lt _ _ _ HK4.out.lt).trans k0, (cell_lt _ _ _ HK4.out.lt).trans k1, (cell_lt _ _ _ HK4.out.lt).trans k2, (cell_lt _ _ _ HK4.out.lt).trans k3, (cell_lt _ _ _ HK4.out.lt).trans k4⟩
    refine hK.out _ _ hS1 (fun hHeld => ?_)
    have HPd : Hid (PrS w4.drew b B (.slice Av ts.length cv) ts (n + 1)) := HP4.out.fr (FrS.refl w4.heap.size (fun _ => False) w4).drew (Nat.le_refl _) (fun h => h) fun _ _ h => h
    refine wpAnyD_ready [7] (by kernel_rfl) ?_
    refine AllReadyD.cons rfl (fun K hK => ?_) AllReadyD.nil
    refine step_pushk eTk rfl (.tmp 69) (.tmp 71) rfl B (.slice Av ts.length cv) ts.length _ rfl (HPd.out.alloc _).own ⟨w4.heap.size, 0, none⟩ 1 [.int .i64 2, .int .i64 0, .string S, .int .i64 0, .int .i64 0] rfl rfl (news_new _ _ _ _ rfl) (by simp [Value.oneCell']) (by omega) (by omega) (by omega) (by simp; omega) ?_
    intro g5 c5 w5 hown5 hgr5 hv5
    have HO5 := Lib.hid hown5
    have HG5 := Lib.hid hgr5
    have HV5 : Hid ((Value.slice (some ⟨g5, 0, none⟩) (ts.length + 1) c5).ownBlock = (Value.slice Av ts.length cv).ownBlock ∨ (Value.slice (some ⟨g5, 0, none⟩) (ts.length + 1) c5).ownBlock = some (w4.drew.alloc (.cells #[.int .i64 2, .int .i64 0, .string S, .int .i64 0, .int .i64 0] 53)).heap.size) := hv5.imp (fun h => h) fun h => congrArg some h
    have hb5 := HPd.out.alloc (.cells #[.int .i64 2, .int .i64 0, .string S, .int .i64 0, .int .i64 0] 53)
    have hb6 := hb5.blk.grown hgr5 (fun e => by have := (HVo.out _ e.symm).1; omega)
    have hkk := ((Blk.drew HK4.out).alloc (.cells #[.int .i64 2, .int .i64 0, .string S, .int .i64 0, .int .i64 0] 53)).grown hgr5 (fun e => by have := HVo.out _ e.symm; have := HK4.out.lt; omega)
    have q0 := Blk.cell hb6 0
    have qf := Blk.frozen hb6 0
    have ql := hb6.lt
    simp at q0
    obtain ⟨r0, r1, r2, r3, r4⟩ := tok_cells hkk
    refine hK.out _ _ ⟨q0, r0, r1, r2, r3, r4⟩ (fun hHeld => ?_)
    refine wpAnyD_done (by kernel_rfl) ?_
    simp only [List.drop_succ_cons, List.drop_zero]
    clear hS0 hS1 hHeld hK p0 p1 k0 k1 k2 k3 k4 hown5 hgr5 hv5 hb5 hb6 hkk r0 r1 r2 r3 r4
    go_upto_region 23 with (fail)
    have hpu := HPd.out.push hbB ⟨2, 0, t⟩ rfl (by have h := HO5.out; rw [HS.out] at h; exact h) HG5.out HV5.out
    have HP6 := Lib.hid hpu.1
    have HF6 := Lib.hid hpu.2.1
    have HV6 := Lib.hid hpu.2.2
    have hs6 : w4.heap.size ≤ (w5.setCell ⟨b, 0, none⟩ (.slice (some ⟨g5, 0, none⟩) (ts.length + 1) c5)).heap.size := hpu.2.1.size
    clear hpu q0 qf ql
    generalize w5.setCell ⟨b, 0, none⟩ (.slice (some ⟨g5, 0, none⟩) (ts.length + 1) c5) = w6 at *
    have hf6 : FrS w4.heap.size (TPr b (.slice Av ts.length cv)) w4 w6 := ⟨HF6.out.os, HF6.out.tape, HF6.out.output, HF6.out.size, HF6.out.block⟩
    have HFr6 : Hid (FrS w.heap.size (TPr b (.slice Av ts.length cv)) w w6) := HFr4.out.trans (hf6.weak (by omega) fun _ _ h => h)
    have HW6 : Hid (Below b w w6) := tpr_below HFr6.out (by omega) fun m hm => by have := HVo.out m hm; omega
    have hk6 := hf6.blk HK4.out HK4.out.lt (fun e => e.elim (fun e => by omega) fun e => by have := HVo.out _ e; omega)
    obtain ⟨k0, k1, k2, k3, k4⟩ := tok_cells hk6
    have hk6l := Blk.lt hk6
    clear hf6 hk6
    go_wp2_with fail
    refine (HPr.out _ (HT.out _ HW6.out)).mono ?_
    rintro e w7 ⟨s7, rfl, hb7⟩
    have HB7 := Lib.hid hb7
    clear hb7
    go_wp2_with fail
    go_ret
    refine ⟨HFr6.out.trans (FrS.of_below HB7.out (by omega)), ?_⟩
    by_cases hte : TE = 0
    · rw [HEl.out hte]
      exact ⟨by rw [hte]; rfl, _, HP6.out.fr (FrS.of_below (S := fun _ => False) HB7.out (Nat.le_refl _)) (Nat.le_refl _) (fun h => h) (fun _ _ h => h), HV6.out.imp id fun ⟨m, h1, h2⟩ => ⟨m, h1, by have h3 : w4.heap.size ≤ m := h2; omega⟩⟩
    · rw [HEb.out hte]
      exact ⟨hte, rfl⟩
  · have HKl : Hid (ox.kind < 6) := by unfold Hid; rw [HKi.out]; decide
    have HEl := Lib.hid fun h => add_leaf (f := f) (d := d) HBig.out HNe.out HKl.out h
    have HEb := Lib.hid fun h => add_leafE (f := f) (d := d) HBig.out HNe.out HKl.out h
    have HPr := Lib.hid fun W hW => print_leaf (leafT ox) (fun h => leaf_valid HNe.out HKl.out h) (fun h => leaf_bad ⟨by rw [HKi.out]; decide, HKl.out⟩ h (fun _ => trivial)) W hW
    have HLf : Hid (leafT ox = ⟨3, 0, t⟩) := by unfold Hid; rw [HOx.out]; rfl
    rw [HLf.out] at HPr HEl HEb
    unfold tokV at HPr
    dsimp only at HPr
    generalize tokE _ = TE at *
    clear hkr2
    rw [← HS.out] at HPr
    go_upto_region 22 with (fail)
    have hk4 := tok_put HTk.out (.int .i64 3) (.int .i64 0) (.string S) (.int .i64 0) (.int .i64 0)
    have hf4 : FrS w3.heap.size (fun m => m = w2.heap.size) w3 (((((w3.setCell ⟨w2.heap.size, 0, none⟩ (.int .i64 3)).setCell ⟨w2.heap.size, 1, none⟩ (.int .i64 0)).setCell ⟨w2.heap.size, 2, none⟩ (.string S)).setCell ⟨w2.heap.size, 3, none⟩ (.int .i64 0)).setCell ⟨w2.heap.size, 4, none⟩ (.int .i64 0)) :=
      ((((FrS.put (p := ⟨w2.heap.size, 0, none⟩) (FrS.refl w3.heap.size (fun m => m = w2.heap.size) w3) (.inr rfl) _).put (p := ⟨w2.heap.size, 1, none⟩) (.inr rfl) _).put (p := ⟨w2.heap.size, 2, none⟩) (.inr rfl) _).put (p := ⟨w2.heap.size, 3, none⟩) (.inr rfl) _).put (p := ⟨w2.heap.size, 4, none⟩) (.inr rfl) _
    have HK4 := Lib.hid hk4
    have HF4 := Lib.hid hf4
    have hs4 : w3.heap.size ≤ (((((w3.setCell ⟨w2.heap.size, 0, none⟩ (.int .i64 3)).setCell ⟨w2.heap.size, 1, none⟩ (.int .i64 0)).setCell ⟨w2.heap.size, 2, none⟩ (.string S)).setCell ⟨w2.heap.size, 3, none⟩ (.int .i64 0)).setCell ⟨w2.heap.size, 4, none⟩ (.int .i64 0)).heap.size := hf4.size
    clear hk4 hf4 x0 x1 x2 x3 x4 k0 k1 k2 k3 k4 zz0 zz1 zz2 zz3 zz4
    generalize World.setCell _ _ _ = w4 at *
    have HP4 := Lib.hid (HP3.out.fr HF4.out (Nat.le_refl _) (by omega) fun m h1 e => by have := HVo.out m h1; omega)
    have HFr4 : Hid (FrS w.heap.size (TPr b v) w w4) := HFr3.out.trans (HF4.out.weak (by omega) fun m h1 h2 => by omega)
    have HW4 : Hid (Below b w w4) := tpr_below HFr4.out (by omega) fun m hm => by have := HVo.out m hm; omega
    obtain ⟨Av, cv, rfl⟩ := own_form HP4.out.own
    obtain ⟨p0, p1, pf0, pf1, pl⟩ := HP4.out.cells
    obtain ⟨k0, k1, k2, k3, k4⟩ := tok_cells HK4.out
    have hS0 : (fun w' : World => w'.cell? ⟨b, 0, none⟩ = some (.slice Av ts.length cv) ∧ w'.cell? ⟨w2.heap.size, 0, none⟩ = some (.int .i64 3) ∧ w'.cell? ⟨w2.heap.size, 1, none⟩ = some (.int .i64 0) ∧ w'.cell? ⟨w2.heap.size, 2, none⟩ = some (.string S) ∧ w'.cell? ⟨w2.heap.size, 3, none⟩ = some (.int .i64 0) ∧ w'.cell? ⟨w2.heap.size, 4, none⟩ = some (.int .i64 0)) w4.drew := ⟨p0, k0, k1, k2, k3, k4⟩
    refine wp_region_tail (fun w' : World => w'.cell? ⟨b, 0, none⟩ = some (.slice Av ts.length cv) ∧ w'.cell? ⟨w2.heap.size, 0, none⟩ = some (.int .i64 3) ∧ w'.cell? ⟨w2.heap.size, 1, none⟩ = some (.int .i64 0) ∧ w'.cell? ⟨w2.heap.size, 2, none⟩ = some (.string S) ∧ w'.cell? ⟨w2.heap.size, 3, none⟩ = some (.int .i64 0) ∧ w'.cell? ⟨w2.heap.size, 4, none⟩ = some (.int .i64 0)) 8 (by kernel_rfl) (by kernel_rfl) hS0 (fun hHeld => ?_)
    refine wpAnyD_take 0 (v := ?_) rfl (by kernel_rfl) (by kernel_rfl) (by kernel_rfl) (fun _ _ _ h => h) hHeld (Or.inl ⟨by rfl, ?_⟩) ?_
    rotate_left
    · intro w' hw'; obtain ⟨h0, h1, h2, h3, h4, h5⟩ := hw'; go_simp; try with_reducible rfl
    try simp only [Act.put, List.setIfInBounds_toArray, List.set_cons_zero, List.set_cons_succ]
    refine wpAnyD_take 1 (v := ?_) rfl (by kernel_rfl) (by kernel_rfl) (by kernel_rfl) (fun _ _ _ h => h) hHeld (Or.inl ⟨by rfl, ?_⟩) ?_
    rotate_left
    · intro w' hw'; obtain ⟨h0, h1, h2, h3, h4, h5⟩ := hw'; go_simp; try with_reducible rfl
    try simp only [Act.put, List.setIfInBounds_toArray, List.set_cons_zero, List.set_cons_succ]
    refine wpAnyD_take 2 (v := ?_) rfl (by kernel_rfl) (by kernel_rfl) (by kernel_rfl) (fun _ _ _ h => h) hHeld (Or.inl ⟨by rfl, ?_⟩) ?_
    rotate_left
    · intro w' hw'; obtain ⟨h0, h1, h2, h3, h4, h5⟩ := hw'; go_simp; try with_reducible rfl
    try simp only [Act.put, List.setIfInBounds_toArray, List.set_cons_zero, List.set_cons_succ]
    refine wpAnyD_take 3 (v := ?_) rfl (by kernel_rfl) (by kernel_rfl) (by kernel_rfl) (fun _ _ _ h => h) hHeld (Or.inl ⟨by rfl, ?_⟩) ?_
    rotate_left
    · intro w' hw'; obtain ⟨h0, h1, h2, h3, h4, h5⟩ := hw'; go_simp; try with_reducible rfl
    try simp only [Act.put, List.setIfInBounds_toArray, List.set_cons_zero, List.set_cons_succ]
    refine wpAnyD_take 4 (v := ?_) rfl (by kernel_rfl) (by kernel_rfl) (by kernel_rfl) (fun _ _ _ h => h) hHeld (Or.inl ⟨by rfl, ?_⟩) ?_
    rotate_left
    · intro w' hw'; obtain ⟨h0, h1, h2, h3, h4, h5⟩ := hw'; go_simp; try with_reducible rfl
    try simp only [Act.put, List.setIfInBounds_toArray, List.set_cons_zero, List.set_cons_succ]
    refine wpAnyD_take 5 (v := ?_) rfl (by kernel_rfl) (by kernel_rfl) (by kernel_rfl) (fun _ _ _ h => h) hHeld (Or.inl ⟨by rfl, ?_⟩) ?_
    rotate_left
    · intro w' hw'; obtain ⟨h0, h1, h2, h3, h4, h5⟩ := hw'; go_simp; try with_reducible rfl
    try simp only [Act.put, List.setIfInBounds_toArray, List.set_cons_zero, List.set_cons_succ]
    refine wpAnyD_ready [6] (by kernel_rfl) ?_
    refine AllReadyD.cons rfl (fun K hK => ?_) AllReadyD.nil
    go_simp
    have hS1 : (fun w' : World => w'.cell? ⟨b, 0, none⟩ = some (.slice Av ts.length cv) ∧ w'.cell? ⟨w2.heap.size, 0, none⟩ = some (.int .i64 3) ∧ w'.cell? ⟨w2.heap.size, 1, none⟩ = some (.int .i64 0) ∧ w'.cell? ⟨w2.heap.size, 2, none⟩ = some (.string S) ∧ w'.cell? ⟨w2.heap.size, 3, none⟩ = some (.int .i64 0) ∧ w'.cell? ⟨w2.heap.size, 4, none⟩ = some (.int .i64 0)) (w4.drew.alloc (.cells #[.int .i64 3, .int .i64 0, .string S, .int .i64 0, .int .i64 0] 53)) := ⟨(cell_lt _ _ _ pl).trans p0, (cell_lt _ _ _ HK4.out.lt).trans k0, (cell_lt _ _ _ HK4.out.lt).trans k1, (cell_lt _ _ _ HK4.out.lt).trans k2, (cell_lt _ _ _ HK4.out.lt).trans k3, (cell_lt _ _ _ HK4.out.lt).trans k4⟩
    refine hK.out _ _ hS1 (fun hHeld => ?_)
    have HPd : Hid (PrS w4.drew b B (.slice Av ts.length cv) ts (n + 1)) := HP4.out.fr (FrS.refl w4.heap.size (fun _ => False) w4).drew (Nat.le_refl _) (fun h => h) fun _ _ h => h
    refine wpAnyD_ready [7] (by kernel_rfl) ?_
    refine AllReadyD.cons rfl (fun K hK => ?_) AllReadyD.nil
    refine step_pushk eTk rfl (.tmp 69) (.tmp 71) rfl B (.slice Av ts.length cv) ts.length _ rfl (HPd.out.alloc _).own ⟨w4.heap.size, 0, none⟩ 1 [.int .i64 3, .int .i64 0, .string S, .int .i64 0, .int .i64 0] rfl rfl (news_new _ _ _ _ rfl) (by simp [Value.oneCell']) (by omega) (by omega) (by omega) (by simp; omega) ?_
    intro g5 c5 w5 hown5 hgr5 hv5
    have HO5 := Lib.hid hown5
    have HG5 := Lib.hid hgr5
    have HV5 : Hid ((Value.slice (some ⟨g5, 0, none⟩) (ts.length + 1) c5).ownBlock = (Value.slice Av ts.length cv).ownBlock ∨ (Value.slice (some ⟨g5, 0, none⟩) (ts.length + 1) c5).ownBlock = some (w4.drew.alloc (.cells #[.int .i64 3, .int .i64 0, .string S, .int .i64 0, .int .i64 0] 53)).heap.size) := hv5.imp (fun h => h) fun h => congrArg some h
    have hb5 := HPd.out.alloc (.cells #[.int .i64 3, .int .i64 0, .string S, .int .i64 0, .int .i64 0] 53)
    have hb6 := hb5.blk.grown hgr5 (fun e => by have := (HVo.out _ e.symm).1; omega)
    have hkk := ((Blk.drew HK4.out).alloc (.cells #[.int .i64 3, .int .i64 0, .string S, .int .i64 0, .int .i64 0] 53)).grown hgr5 (fun e => by have := HVo.out _ e.symm; have := HK4.out.lt; omega)
    have q0 := Blk.cell hb6 0
    have qf := Blk.frozen hb6 0
    have ql := hb6.lt
    simp at q0
    obtain ⟨r0, r1, r2, r3, r4⟩ := tok_cells hkk
    refine hK.out _ _ ⟨q0, r0, r1, r2, r3, r4⟩ (fun hHeld => ?_)
    refine wpAnyD_done (by kernel_rfl) ?_
    simp only [List.drop_succ_cons, List.drop_zero]
    clear hS0 hS1 hHeld hK p0 p1 k0 k1 k2 k3 k4 hown5 hgr5 hv5 hb5 hb6 hkk r0 r1 r2 r3 r4
    go_upto_region 23 with (fail)
    have hpu := HPd.out.push hbB ⟨3, 0, t⟩ rfl (by have h := HO5.out; rw [HS.out] at h; exact h) HG5.out HV5.out
    have HP6 := Lib.hid hpu.1
    have HF6 := Lib.hid hpu.2.1
    have HV6 := Lib.hid hpu.2.2
    have hs6 : w4.heap.size ≤ (w5.setCell ⟨b, 0, none⟩ (.slice (some ⟨g5, 0, none⟩) (ts.length + 1) c5)).heap.size := hpu.2.1.size
    clear hpu q0 qf ql
    generalize w5.setCell ⟨b, 0, none⟩ (.slice (some ⟨g5, 0, none⟩) (ts.length + 1) c5) = w6 at *
    have hf6 : FrS w4.heap.size (TPr b (.slice Av ts.length cv)) w4 w6 := ⟨HF6.out.os, HF6.out.tape, HF6.out.output, HF6.out.size, HF6.out.block⟩
    have HFr6 : Hid (FrS w.heap.size (TPr b (.slice Av ts.length cv)) w w6) := HFr4.out.trans (hf6.weak (by omega) fun _ _ h => h)
    have HW6 : Hid (Below b w w6) := tpr_below HFr6.out (by omega) fun m hm => by have := HVo.out m hm; omega
    have hk6 := hf6.blk HK4.out HK4.out.lt (fun e => e.elim (fun e => by omega) fun e => by have := HVo.out _ e; omega)
    obtain ⟨k0, k1, k2, k3, k4⟩ := tok_cells hk6
    have hk6l := Blk.lt hk6
    clear hf6 hk6
    go_wp2_with fail
    refine (HPr.out _ (HT.out _ HW6.out)).mono ?_
    rintro e w7 ⟨s7, rfl, hb7⟩
    have HB7 := Lib.hid hb7
    clear hb7
    go_wp2_with fail
    go_ret
    refine ⟨HFr6.out.trans (FrS.of_below HB7.out (by omega)), ?_⟩
    by_cases hte : TE = 0
    · rw [HEl.out hte]
      exact ⟨by rw [hte]; rfl, _, HP6.out.fr (FrS.of_below (S := fun _ => False) HB7.out (Nat.le_refl _)) (Nat.le_refl _) (fun h => h) (fun _ _ h => h), HV6.out.imp id fun ⟨m, h1, h2⟩ => ⟨m, h1, by have h3 : w4.heap.size ≤ m := h2; omega⟩⟩
    · rw [HEb.out hte]
      exact ⟨hte, rfl⟩
  · have HKl : Hid (ox.kind < 6) := by unfold Hid; rw [HKi.out]; decide
    have HEl := Lib.hid fun h => add_leaf (f := f) (d := d) HBig.out HNe.out HKl.out h
    have HEb := Lib.hid fun h => add_leafE (f := f) (d := d) HBig.out HNe.out HKl.out h
    have HPr := Lib.hid fun W hW => print_leaf (leafT ox) (fun h => leaf_valid HNe.out HKl.out h) (fun h => leaf_bad ⟨by rw [HKi.out]; decide, HKl.out⟩ h (fun _ => trivial)) W hW
    have HLf : Hid (leafT ox = ⟨4, i, []⟩) := by unfold Hid; rw [HOx.out]; rfl
    rw [HLf.out] at HPr HEl HEb
    unfold tokV at HPr
    dsimp only at HPr
    generalize tokE _ = TE at *
    clear hkr2
    go_upto_region 22 with (fail)
    have hk4 := tok_put HTk.out (.int .i64 4) (.int .i64 i) (.string ⟨#[]⟩) (.int .i64 0) (.int .i64 0)
    have hf4 : FrS w3.heap.size (fun m => m = w2.heap.size) w3 (((((w3.setCell ⟨w2.heap.size, 0, none⟩ (.int .i64 4)).setCell ⟨w2.heap.size, 1, none⟩ (.int .i64 i)).setCell ⟨w2.heap.size, 2, none⟩ (.string ⟨#[]⟩)).setCell ⟨w2.heap.size, 3, none⟩ (.int .i64 0)).setCell ⟨w2.heap.size, 4, none⟩ (.int .i64 0)) :=
      ((((FrS.put (p := ⟨w2.heap.size, 0, none⟩) (FrS.refl w3.heap.size (fun m => m = w2.heap.size) w3) (.inr rfl) _).put (p := ⟨w2.heap.size, 1, none⟩) (.inr rfl) _).put (p := ⟨w2.heap.size, 2, none⟩) (.inr rfl) _).put (p := ⟨w2.heap.size, 3, none⟩) (.inr rfl) _).put (p := ⟨w2.heap.size, 4, none⟩) (.inr rfl) _
    have HK4 := Lib.hid hk4
    have HF4 := Lib.hid hf4
    have hs4 : w3.heap.size ≤ (((((w3.setCell ⟨w2.heap.size, 0, none⟩ (.int .i64 4)).setCell ⟨w2.heap.size, 1, none⟩ (.int .i64 i)).setCell ⟨w2.heap.size, 2, none⟩ (.string ⟨#[]⟩)).setCell ⟨w2.heap.size, 3, none⟩ (.int .i64 0)).setCell ⟨w2.heap.size, 4, none⟩ (.int .i64 0)).heap.size := hf4.size
    clear hk4 hf4 x0 x1 x2 x3 x4 k0 k1 k2 k3 k4 zz0 zz1 zz2 zz3 zz4
    generalize World.setCell _ _ _ = w4 at *
    have HP4 := Lib.hid (HP3.out.fr HF4.out (Nat.le_refl _) (by omega) fun m h1 e => by have := HVo.out m h1; omega)
    have HFr4 : Hid (FrS w.heap.size (TPr b v) w w4) := HFr3.out.trans (HF4.out.weak (by omega) fun m h1 h2 => by omega)
    have HW4 : Hid (Below b w w4) := tpr_below HFr4.out (by omega) fun m hm => by have := HVo.out m hm; omega
    obtain ⟨Av, cv, rfl⟩ := own_form HP4.out.own
    obtain ⟨p0, p1, pf0, pf1, pl⟩ := HP4.out.cells
    obtain ⟨k0, k1, k2, k3, k4⟩ := tok_cells HK4.out
    have hS0 : (fun w' : World => w'.cell? ⟨b, 0, none⟩ = some (.slice Av ts.length cv) ∧ w'.cell? ⟨w2.heap.size, 0, none⟩ = some (.int .i64 4) ∧ w'.cell? ⟨w2.heap.size, 1, none⟩ = some (.int .i64 i) ∧ w'.cell? ⟨w2.heap.size, 2, none⟩ = some (.string ⟨#[]⟩) ∧ w'.cell? ⟨w2.heap.size, 3, none⟩ = some (.int .i64 0) ∧ w'.cell? ⟨w2.heap.size, 4, none⟩ = some (.int .i64 0)) w4.drew := ⟨p0, k0, k1, k2, k3, k4⟩
    refine wp_region_tail (fun w' : World => w'.cell? ⟨b, 0, none⟩ = some (.slice Av ts.length cv) ∧ w'.cell? ⟨w2.heap.size, 0, none⟩ = some (.int .i64 4) ∧ w'.cell? ⟨w2.heap.size, 1, none⟩ = some (.int .i64 i) ∧ w'.cell? ⟨w2.heap.size, 2, none⟩ = some (.string ⟨#[]⟩) ∧ w'.cell? ⟨w2.heap.size, 3, none⟩ = some (.int .i64 0) ∧ w'.cell? ⟨w2.heap.size, 4, none⟩ = some (.int .i64 0)) 8 (by kernel_rfl) (by kernel_rfl) hS0 (fun hHeld => ?_)
    refine wpAnyD_take 0 (v := ?_) rfl (by kernel_rfl) (by kernel_rfl) (by kernel_rfl) (fun _ _ _ h => h) hHeld (Or.inl ⟨by rfl, ?_⟩) ?_
    rotate_left
    · intro w' hw'; obtain ⟨h0, h1, h2, h3, h4, h5⟩ := hw'; go_simp; try with_reducible rfl
    try simp only [Act.put, List.setIfInBounds_toArray, List.set_cons_zero, List.set_cons_succ]
    refine wpAnyD_take 1 (v := ?_) rfl (by kernel_rfl) (by kernel_rfl) (by kernel_rfl) (fun _ _ _ h => h) hHeld (Or.inl ⟨by rfl, ?_⟩) ?_
    rotate_left
    · intro w' hw'; obtain ⟨h0, h1, h2, h3, h4, h5⟩ := hw'; go_simp; try with_reducible rfl
    try simp only [Act.put, List.setIfInBounds_toArray, List.set_cons_zero, List.set_cons_succ]
    refine wpAnyD_take 2 (v := ?_) rfl (by kernel_rfl) (by kernel_rfl) (by kernel_rfl) (fun _ _ _ h => h) hHeld (Or.inl ⟨by rfl, ?_⟩) ?_
    rotate_left
    · intro w' hw'; obtain ⟨h0, h1, h2, h3, h4, h5⟩ := hw'; go_simp; try with_reducible rfl
    try simp only [Act.put, List.setIfInBounds_toArray, List.set_cons_zero, List.set_cons_succ]
    refine wpAnyD_take 3 (v := ?_) rfl (by kernel_rfl) (by kernel_rfl) (by kernel_rfl) (fun _ _ _ h => h) hHeld (Or.inl ⟨by rfl, ?_⟩) ?_
    rotate_left
    · intro w' hw'; obtain ⟨h0, h1, h2, h3, h4, h5⟩ := hw'; go_simp; try with_reducible rfl
    try simp only [Act.put, List.setIfInBounds_toArray, List.set_cons_zero, List.set_cons_succ]
    refine wpAnyD_take 4 (v := ?_) rfl (by kernel_rfl) (by kernel_rfl) (by kernel_rfl) (fun _ _ _ h => h) hHeld (Or.inl ⟨by rfl, ?_⟩) ?_
    rotate_left
    · intro w' hw'; obtain ⟨h0, h1, h2, h3, h4, h5⟩ := hw'; go_simp; try with_reducible rfl
    try simp only [Act.put, List.setIfInBounds_toArray, List.set_cons_zero, List.set_cons_succ]
    refine wpAnyD_take 5 (v := ?_) rfl (by kernel_rfl) (by kernel_rfl) (by kernel_rfl) (fun _ _ _ h => h) hHeld (Or.inl ⟨by rfl, ?_⟩) ?_
    rotate_left
    · intro w' hw'; obtain ⟨h0, h1, h2, h3, h4, h5⟩ := hw'; go_simp; try with_reducible rfl
    try simp only [Act.put, List.setIfInBounds_toArray, List.set_cons_zero, List.set_cons_succ]
    refine wpAnyD_ready [6] (by kernel_rfl) ?_
    refine AllReadyD.cons rfl (fun K hK => ?_) AllReadyD.nil
    go_simp
    have hS1 : (fun w' : World => w'.cell? ⟨b, 0, none⟩ = some (.slice Av ts.length cv) ∧ w'.cell? ⟨w2.heap.size, 0, none⟩ = some (.int .i64 4) ∧ w'.cell? ⟨w2.heap.size, 1, none⟩ = some (.int .i64 i) ∧ w'.cell? ⟨w2.heap.size, 2, none⟩ = some (.string ⟨#[]⟩) ∧ w'.cell? ⟨w2.heap.size, 3, none⟩ = some (.int .i64 0) ∧ w'.cell? ⟨w2.heap.size, 4, none⟩ = some (.int .i64 0)) (w4.drew.alloc (.cells #[.int .i64 4, .int .i64 i, .string ⟨#[]⟩, .int .i64 0, .int .i64 0] 53)) := ⟨(cell_lt _ _ _ pl).trans p0, (cell_lt _ _ _ HK4.out.lt).trans k0, (cell_lt _ _ _ HK4.out.lt).trans k1, (cell_lt _ _ _ HK4.out.lt).trans k2, (cell_lt _ _ _ HK4.out.lt).trans k3, (cell_lt _ _ _ HK4.out.lt).trans k4⟩
    refine hK.out _ _ hS1 (fun hHeld => ?_)
    have HPd : Hid (PrS w4.drew b B (.slice Av ts.length cv) ts (n + 1)) := HP4.out.fr (FrS.refl w4.heap.size (fun _ => False) w4).drew (Nat.le_refl _) (fun h => h) fun _ _ h => h
    refine wpAnyD_ready [7] (by kernel_rfl) ?_
    refine AllReadyD.cons rfl (fun K hK => ?_) AllReadyD.nil
    refine step_pushk eTk rfl (.tmp 69) (.tmp 71) rfl B (.slice Av ts.length cv) ts.length _ rfl (HPd.out.alloc _).own ⟨w4.heap.size, 0, none⟩ 1 [.int .i64 4, .int .i64 i, .string ⟨#[]⟩, .int .i64 0, .int .i64 0] rfl rfl (news_new _ _ _ _ rfl) (by simp [Value.oneCell']) (by omega) (by omega) (by omega) (by simp; omega) ?_
    intro g5 c5 w5 hown5 hgr5 hv5
    have HO5 := Lib.hid hown5
    have HG5 := Lib.hid hgr5
    have HV5 : Hid ((Value.slice (some ⟨g5, 0, none⟩) (ts.length + 1) c5).ownBlock = (Value.slice Av ts.length cv).ownBlock ∨ (Value.slice (some ⟨g5, 0, none⟩) (ts.length + 1) c5).ownBlock = some (w4.drew.alloc (.cells #[.int .i64 4, .int .i64 i, .string ⟨#[]⟩, .int .i64 0, .int .i64 0] 53)).heap.size) := hv5.imp (fun h => h) fun h => congrArg some h
    have hb5 := HPd.out.alloc (.cells #[.int .i64 4, .int .i64 i, .string ⟨#[]⟩, .int .i64 0, .int .i64 0] 53)
    have hb6 := hb5.blk.grown hgr5 (fun e => by have := (HVo.out _ e.symm).1; omega)
    have hkk := ((Blk.drew HK4.out).alloc (.cells #[.int .i64 4, .int .i64 i, .string ⟨#[]⟩, .int .i64 0, .int .i64 0] 53)).grown hgr5 (fun e => by have := HVo.out _ e.symm; have := HK4.out.lt; omega)
    have q0 := Blk.cell hb6 0
    have qf := Blk.frozen hb6 0
    have ql := hb6.lt
    simp at q0
    obtain ⟨r0, r1, r2, r3, r4⟩ := tok_cells hkk
    refine hK.out _ _ ⟨q0, r0, r1, r2, r3, r4⟩ (fun hHeld => ?_)
    refine wpAnyD_done (by kernel_rfl) ?_
    simp only [List.drop_succ_cons, List.drop_zero]
    clear hS0 hS1 hHeld hK p0 p1 k0 k1 k2 k3 k4 hown5 hgr5 hv5 hb5 hb6 hkk r0 r1 r2 r3 r4
    go_upto_region 23 with (fail)
    have hpu := HPd.out.push hbB ⟨4, i, []⟩ rfl (HO5.out) HG5.out HV5.out
    have HP6 := Lib.hid hpu.1
    have HF6 := Lib.hid hpu.2.1
    have HV6 := Lib.hid hpu.2.2
    have hs6 : w4.heap.size ≤ (w5.setCell ⟨b, 0, none⟩ (.slice (some ⟨g5, 0, none⟩) (ts.length + 1) c5)).heap.size := hpu.2.1.size
    clear hpu q0 qf ql
    generalize w5.setCell ⟨b, 0, none⟩ (.slice (some ⟨g5, 0, none⟩) (ts.length + 1) c5) = w6 at *
    have hf6 : FrS w4.heap.size (TPr b (.slice Av ts.length cv)) w4 w6 := ⟨HF6.out.os, HF6.out.tape, HF6.out.output, HF6.out.size, HF6.out.block⟩
    have HFr6 : Hid (FrS w.heap.size (TPr b (.slice Av ts.length cv)) w w6) := HFr4.out.trans (hf6.weak (by omega) fun _ _ h => h)
    have HW6 : Hid (Below b w w6) := tpr_below HFr6.out (by omega) fun m hm => by have := HVo.out m hm; omega
    have hk6 := hf6.blk HK4.out HK4.out.lt (fun e => e.elim (fun e => by omega) fun e => by have := HVo.out _ e; omega)
    obtain ⟨k0, k1, k2, k3, k4⟩ := tok_cells hk6
    have hk6l := Blk.lt hk6
    clear hf6 hk6
    go_wp2_with fail
    refine (HPr.out _ (HT.out _ HW6.out)).mono ?_
    rintro e w7 ⟨s7, rfl, hb7⟩
    have HB7 := Lib.hid hb7
    clear hb7
    go_wp2_with fail
    go_ret
    refine ⟨HFr6.out.trans (FrS.of_below HB7.out (by omega)), ?_⟩
    by_cases hte : TE = 0
    · rw [HEl.out hte]
      exact ⟨by rw [hte]; rfl, _, HP6.out.fr (FrS.of_below (S := fun _ => False) HB7.out (Nat.le_refl _)) (Nat.le_refl _) (fun h => h) (fun _ _ h => h), HV6.out.imp id fun ⟨m, h1, h2⟩ => ⟨m, h1, by have h3 : w4.heap.size ≤ m := h2; omega⟩⟩
    · rw [HEb.out hte]
      exact ⟨hte, rfl⟩
  · have HKn : Hid (¬ ox.kind < 6) := by unfold Hid; rw [HKi.out]; omega
    have HEn : Hid (addF (f + 1) d ox n = nestR k (kidsF (addF f (d + 1)) (isD ox) keys kids (n + 1))) := by
      have h := add_nest (f := f) (d := d) HBig.out HNe.out HKn.out
      unfold Hid; rw [HOx.out] at h ⊢; exact h
    have HNs := Lib.hid (HN.out w3 hk6 (by omega) HNe.out hn1 (by omega) HP3.out HO3.out (fun W' hW => HT.out W' (HW3.out.trans hW)))
    rw [show f + 1 - 1 = f from rfl] at HNs
    obtain ⟨r, hr⟩ : ∃ r, r = nestR k (kidsF (addF f (d + 1)) (isD ox) keys kids (n + 1)) := ⟨_, rfl⟩
    have HNr : Hid (Calls Tryz.prog 40 #[.pointer (some ⟨b, 0, none⟩), .agg #[.int .i64 k, .int .i64 i, .string S, .slice A keys.length ck, .slice Bd kids.length cd], .int .i64 d] w3 (AddPost b B v ts r w3)) := by unfold Hid; rw [hr]; exact HNs.out
    rw [← hr] at HEn
    clear HNs hr
    have q0 : (k == 0) = false := by rw [beq_eq_false_iff_ne]; omega
    have q1 : (k == 1) = false := by rw [beq_eq_false_iff_ne]; omega
    have q2 : (k == 2) = false := by rw [beq_eq_false_iff_ne]; omega
    have q3 : (k == 3) = false := by rw [beq_eq_false_iff_ne]; omega
    have q4 : (k == 4) = false := by rw [beq_eq_false_iff_ne]; omega
    have q5 : (k == 5) = false := by rw [beq_eq_false_iff_ne]; omega
    clear hkr2
    go_wp2_with fail
    refine HNr.out.mono ?_
    rintro e w4 ⟨hf4, hq4⟩
    have HF4 : Hid (FrS w.heap.size (TPr b v) w w4) := HFr3.out.trans (hf4.weak (by omega) fun _ _ h => h)
    clear hf4
    cases r with
    | error er =>
      obtain ⟨h1, rfl⟩ := hq4
      have H1 := Lib.hid h1
      clear h1
      go_wp2_with fail
      go_ret
      refine ⟨HF4.out, ?_⟩
      rw [HEn.out]
      exact ⟨H1.out, rfl⟩
    | ok lm =>
      obtain ⟨l, m⟩ := lm
      obtain ⟨rfl, v', h1, h2⟩ := hq4
      have H1 := Lib.hid h1
      have H2 := Lib.hid h2
      clear h1 h2
      go_wp2_with fail
      go_ret
      refine ⟨HF4.out, ?_⟩
      rw [HEn.out]
      exact ⟨rfl, v', H1.out, H2.out.imp id fun ⟨g, h1, h2⟩ => ⟨g, h1, by omega⟩⟩
end Go.Proofs.YthbdhijkdldmoaaGreatDoor
