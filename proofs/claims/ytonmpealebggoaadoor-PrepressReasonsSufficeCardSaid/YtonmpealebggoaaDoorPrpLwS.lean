/- The walks of low and judged: whether a rule is judged. Reasons in plain words: the facts of a reason suffice, and none can be left out. No program is in sight here. Small things of the laws of reasons: rows of facts of a law's own, within at a range that reaches below zero. -/
import Derived.Test.YtonmpealebggoaaDoorPrpJdg
import Derived.Test.YtonmpealebggoaaDoorPrpTru
import Derived.Test.YtonmpealebggoaaDoorPrpDel
import Derived.Test.YtonmpealebggoaaDoorWithin
namespace Go.Proofs.YtonmpealebggoaaDoor
open Go.RowKit Pr
set_option maxRecDepth 100000 in
set_option maxHeartbeats 4000000 in
theorem low_any (nm : ByteArray) (k : Int) (w : World) :
    Calls Tryd.prog 36 #[.string nm, .int .i64 k] w fun e w' => ∃ g, e = .returned (.agg #[.string ⟨#[97]⟩, .int .i64 0, .slice (some ⟨g, 0, none⟩) 1 1, .int .i64 1, .int .i64 k, .slice none 0 0]) ∧ Blk w' g 113 #[.int .i64 1, .string nm] ∧ Below w.heap.size w w' := by
  go_enter Tryd.func36, Tryd.ntmps36
  go_wp2_with fail
  have hb1 := (Blk.new w 36 #[.string ⟨#[97]⟩, .int .i64 0, .slice (some ⟨w.heap.size + 1, 0, none⟩) 1 1, .int .i64 1, .int .i64 k, .slice none 0 0]).alloc (.cells #[.int .i64 1, .string nm] 113)
  have hb2 := Blk.new (w.alloc (.cells #[.string ⟨#[97]⟩, .int .i64 0, .slice (some ⟨w.heap.size + 1, 0, none⟩) 1 1, .int .i64 1, .int .i64 k, .slice none 0 0] 36)) 113 #[.int .i64 1, .string nm]
  have hbx := ((Below.refl w.heap.size w).alloc (Nat.le_refl _) (.cells #[.string ⟨#[97]⟩, .int .i64 0, .slice (some ⟨w.heap.size + 1, 0, none⟩) 1 1, .int .i64 1, .int .i64 k, .slice none 0 0] 36)).alloc (by simp) (.cells #[.int .i64 1, .string nm] 113)
  rw [show (w.alloc (.cells #[.string ⟨#[97]⟩, .int .i64 0, .slice (some ⟨w.heap.size + 1, 0, none⟩) 1 1, .int .i64 1, .int .i64 k, .slice none 0 0] 36)).heap.size = w.heap.size + 1 by simp] at hb2
  obtain ⟨x0, x1, x2, x3, x4, x5⟩ := b6_cells hb1
  refine bodyPost_ret (v := .agg #[.string ⟨#[97]⟩, .int .i64 0, .slice (some ⟨w.heap.size + 1, 0, none⟩) 1 1, .int .i64 1, .int .i64 k, .slice none 0 0]) (by simp [results, Tryd.results36, go_sem, x0, x1, x2, x3, x4, x5]) rfl ?_
  exact ⟨_, rfl, hb2, hbx⟩
def jdRl : Rl := ([97], .mk 0 [(1, [98])] 1 2 [])
def jdFs : List Ft := [([98], 3), ([99], 0)]
theorem jd_check : checkE [jdRl] = 0 := by decide +kernel
theorem jd_facts : factsE jdFs = 0 := by decide +kernel
theorem jd_truth : truthF 12 jdFs jdRl.2 = 0 := by decide +kernel
theorem jd_bec : becF 12 jdRl.2 [] jdFs = [([98], 3)] := by decide +kernel
set_option maxRecDepth 100000 in
set_option maxHeartbeats 8000000 in
theorem judged_any (w : World) (hT : Tabs w) :
    Calls Tryd.prog 16 #[] w fun e w' => e = .returned (.bool true) ∧ Below w.heap.size w w' := by
  have HT := Lib.hid hT
  clear hT
  go_enter Tryd.func16, Tryd.ntmps16
  go_wp2_with fail
  refine (low_any _ _ _).mono ?_
  rintro e w2 ⟨g, rfl, hg, hb2⟩
  have hb2' := hb2
  have hJ : Hid (∀ b0 fA W, Below w2.heap.size w2 W → Blk W b0 36 #[.string ⟨#[97]⟩, .int .i64 0, .slice (some ⟨g, 0, none⟩) 1 1, .int .i64 1, .int .i64 2, .slice none 0 0] → Blk W fA 50 #[.string ⟨#[98]⟩, .int .i64 3, .string ⟨#[99]⟩, .int .i64 0] →
      Calls Tryd.prog 17 #[.slice (some ⟨b0, 0, none⟩) 1 1, .slice (some ⟨fA, 0, none⟩) 2 2] W fun e w' => Below W.heap.size W w' ∧ ∃ (q cap : Nat) (bs : Value), e = .returned (.tuple #[.slice (some ⟨q, 0, none⟩) 1 cap, .int .i64 0]) ∧ q < w'.heap.size ∧ 1 ≤ cap ∧ cap ≤ maxLen ∧ w'.cell? ⟨q, 0, none⟩ = some (.string ⟨#[97]⟩) ∧ w'.cell? ⟨q, 1, none⟩ = some (.bool false) ∧ w'.cell? ⟨q, 2, none⟩ = some bs ∧ SlM w' (fun _ => True) bs 1 [.string ⟨#[98]⟩]) := by
    intro b0 fA W hW h0 hf
    have hu : CdV (fun _ => True) W ⟨.int .i64 0, .slice (some ⟨g, 0, none⟩) 1 1, .int .i64 1, .int .i64 2, .slice none 0 0⟩ jdRl.2 :=
      CdV.mk 0 [(1, [98])] 1 2 [] _ _ [] ⟨_, 1, rfl, Nat.le_refl _, by decide, fun _ => ⟨g, 0, rfl, trivial, Nat.lt_of_lt_of_le hg.lt hW.size, fun k u hu => by rw [Nat.zero_add, (hg.below hW hg.lt).cell k]; simpa [tcells, tcell] using hu⟩⟩ (SlM.nil _ _) rfl (fun j h => absurd h (by simp)) (by decide) ⟨by decide, by decide⟩
    have hF : FtsM (fun _ => True) W (.slice (some ⟨fA, 0, none⟩) 2 2) jdFs :=
      ⟨⟨_, 2, rfl, Nat.le_refl _, by decide, fun _ => ⟨fA, 0, rfl, trivial, hf.lt, fun k u hu => by rw [Nat.zero_add, hf.cell k]; simpa [fcells, fcell, jdFs] using hu⟩⟩, by decide⟩
    refine (judge_any jdRl ⟨.int .i64 0, .slice (some ⟨g, 0, none⟩) 1 1, .int .i64 1, .int .i64 2, .slice none 0 0⟩ jdFs b0 _ _ _ W h0 hu (by decide) hF (HT.out.later ((hb2'.trans (hW.mono hb2'.size))))).mono ?_
    rintro e w' ⟨hb, -, -, h3⟩
    obtain ⟨-, h4, -⟩ := h3 jd_check jd_facts
    obtain ⟨q, cap, bs, h5, h6, h7, h8, h9, h10, h11, h12⟩ := h4 jd_truth
    rw [jd_bec] at h12
    exact ⟨hb, q, cap, bs, h5, h6, h7, h8, h9, h10, h11, h12⟩
  have HB2 := Lib.hid hb2
  clear hb2 hb2' hg
  have k0 := (Blk.new w2 36 #[.string ⟨#[97]⟩, .int .i64 0, .slice (some ⟨g, 0, none⟩) 1 1, .int .i64 1, .int .i64 2, .slice none 0 0]).alloc (.cells #[.string ⟨#[98]⟩, .int .i64 3, .string ⟨#[99]⟩, .int .i64 0] 50)
  have k1 := Blk.new (w2.alloc (.cells #[.string ⟨#[97]⟩, .int .i64 0, .slice (some ⟨g, 0, none⟩) 1 1, .int .i64 1, .int .i64 2, .slice none 0 0] 36)) 50 #[.string ⟨#[98]⟩, .int .i64 3, .string ⟨#[99]⟩, .int .i64 0]
  rw [show (w2.alloc (.cells #[.string ⟨#[97]⟩, .int .i64 0, .slice (some ⟨g, 0, none⟩) 1 1, .int .i64 1, .int .i64 2, .slice none 0 0] 36)).heap.size = w2.heap.size + 1 by simp] at k1
  have kb := ((Below.refl w2.heap.size w2).alloc (Nat.le_refl _) (.cells #[.string ⟨#[97]⟩, .int .i64 0, .slice (some ⟨g, 0, none⟩) 1 1, .int .i64 1, .int .i64 2, .slice none 0 0] 36)).alloc (by simp) (.cells #[.string ⟨#[98]⟩, .int .i64 3, .string ⟨#[99]⟩, .int .i64 0] 50)
  have HJ := Lib.hid (hJ.out _ _ _ kb k0 k1)
  have KB := Lib.hid (HB2.out.trans (kb.mono HB2.out.size))
  clear k0 k1 kb hJ
  go_wp2_with fail
  generalize (w2.alloc (.cells #[.string ⟨#[97]⟩, .int .i64 0, .slice (some ⟨g, 0, none⟩) 1 1, .int .i64 1, .int .i64 2, .slice none 0 0] 36)).alloc (.cells #[.string ⟨#[98]⟩, .int .i64 3, .string ⟨#[99]⟩, .int .i64 0] 50) = w3 at *
  refine HJ.out.mono ?_
  rintro e w4 ⟨hb4, q, cap, bs, rfl, hq, hc1, hc2, q0, q1, q2, hs⟩
  have HB4 := Lib.hid (KB.out.trans (hb4.mono KB.out.size))
  obtain ⟨b, off, cp, rfl, -, hbl, hd1, hd2, hcell⟩ := hs.open_ (by decide)
  have hcb := hcell 0 _ rfl
  clear hb4 hs HJ KB hcell
  go_wp2_with fail
  have hq1 := Blk.new w4 9 #[.string ⟨#[98]⟩]
  have hbe := (Below.refl w4.heap.size w4).alloc (Nat.le_refl _) (.cells #[.string ⟨#[98]⟩] 9)
  have HBe := Lib.hid (HB4.out.trans (hbe.mono HB4.out.size))
  refine (slices_Equal_string b off 1 cp w4.heap.size 0 1 1 [⟨#[98]⟩] [⟨#[98]⟩] _ (by decide) (by decide) (by decide) (by decide) (fun j hj => ?_) (fun j hj => ?_)).mono ?_
  · obtain rfl : j = 0 := by simpa using hj
    rw [hbe.cell (p := ⟨b, off + 0, none⟩) hbl]; exact hcb
  · obtain rfl : j = 0 := by simpa using hj
    exact hq1.cell 0
  rintro e w5 ⟨rfl, n5, rfl⟩
  clear hq1 hbe hcb hbl q0 q1 q2 hq HB4
  go_wp2_with fail
  go_ret
  exact ⟨by rfl, below_drewN HBe.out n5⟩
end Go.Proofs.YtonmpealebggoaaDoor
namespace Go.Proofs.YtonmpealebggoaaDoor
namespace Pr
/-- Whether a name is one of a reason's. -/
def hasN (R : List Ft) (nm : Src) : Bool := R.any fun x => x.1 == nm
theorem hasN_iff {R : List Ft} {nm : Src} : hasN R nm = true ↔ ∃ x ∈ R, x.1 = nm := by unfold hasN; rw [List.any_eq_true]; simp
theorem hasN_str {R : List Ft} {nm : Src} : Lib.containsS (R.map fun x => Bs x.1) (Bs nm) = hasN R nm := by
  rw [Bool.eq_iff_iff, Lib.containsS_iff, hasN_iff, List.mem_map]
  constructor
  · rintro ⟨x, hx, e⟩; exact ⟨x, hx, by have := congrArg (fun b : ByteArray => b.data.toList) e; simpa [Bs] using this⟩
  · rintro ⟨x, hx, e⟩; exact ⟨x, hx, by rw [e]⟩
def fewF (R l : List Ft) : List Ft := l.filter fun x => hasN R x.1
def restF (R : List Ft) (s : Src) (l : List Ft) : List Ft := l.filter fun x => x.1 != s && hasN R x.1
def chgF (R : List Ft) (k : Int) (l : List Ft) : List Ft := l.map fun x => if hasN R x.1 = true then x else (x.1, k)
theorem names_one {l : List Ft} (h : l.Pairwise (fun a b => ltB a.1 b.1 = true)) {x y : Ft} (hx : x ∈ l) (hy : y ∈ l) (e : x.1 = y.1) : x = y := by
  have h1 := (factV_mem h (nm := x.1) (v := x.2)).2 hx
  have h2 := (factV_mem h (nm := y.1) (v := y.2)).2 hy
  rw [e] at h1
  rw [h1] at h2
  exact Prod.ext e (by injection h2)
theorem filter_sub {l R : List Ft} (hs : R.Sublist l) : ∀ (p : Ft → Bool), (∀ x ∈ l, p x = true ↔ x ∈ R) → l.Nodup → l.filter p = R := by
  induction hs with
  | slnil => intro p _ _; rfl
  | @cons l1 l2 a h ih =>
    intro p hp hn
    obtain ⟨n1, n2⟩ := List.nodup_cons.1 hn
    have ha : p a = false := by
      cases hpa : p a with
      | false => rfl
      | true => exact absurd (h.subset ((hp a (by simp)).1 hpa)) n1
    rw [List.filter_cons_of_neg (by rw [ha]; simp)]
    exact ih p (fun x hx => hp x (by simp [hx])) n2
  | @cons_cons l1 l2 a h ih =>
    intro p hp hn
    obtain ⟨n1, n2⟩ := List.nodup_cons.1 hn
    rw [List.filter_cons_of_pos ((hp a (by simp)).2 (by simp))]
    congr 1
    refine ih p (fun x hx => ?_) n2
    rw [hp x (by simp [hx])]
    constructor
    · intro h1
      rcases List.mem_cons.1 h1 with rfl | h1
      · exact absurd hx n1
      · exact h1
    · intro h1; simp [h1]
theorem fts_nodup {l : List Ft} (h : l.Pairwise (fun a b => ltB a.1 b.1 = true)) : l.Nodup := by
  unfold List.Nodup
  exact h.imp fun {a b} hab => fun e => ltB_ne hab (by rw [e])
theorem has_mem {l R : List Ft} (ho : FtsOk l) (hs : R.Sublist l) {x : Ft} (hx : x ∈ l) : hasN R x.1 = true ↔ x ∈ R := by
  rw [hasN_iff]
  constructor
  · rintro ⟨y, hy, e⟩
    rwa [← names_one ho.2.2 (hs.subset hy) hx e]
  · intro h; exact ⟨x, h, rfl⟩
theorem few_eq {l R : List Ft} (ho : FtsOk l) (hs : R.Sublist l) : fewF R l = R := filter_sub hs _ (fun _ hx => has_mem ho hs hx) (fts_nodup ho.2.2)
theorem rest_eq {l R : List Ft} (ho : FtsOk l) (hs : R.Sublist l) (s : Src) : restF R s l = R.filter fun x => x.1 != s := by
  have h := few_eq ho hs
  unfold restF
  conv => rhs; rw [← h]
  unfold fewF
  rw [List.filter_filter]
theorem plain_zero {x : Ft} (h : FtOk x) {k : Int} (h1 : -1000 ≤ k) (h2 : k ≤ 1000) : FtOk (x.1, k) := ⟨h.nm, by show -2147483648 ≤ k; omega, by show k ≤ 2147483648; omega⟩
theorem chg_ok {l R : List Ft} (ho : FtsOk l) {k : Int} (h1 : -1000 ≤ k) (h2 : k ≤ 1000) : FtsOk (chgF R k l) := by
  have hn : ∀ x : Ft, (if hasN R x.1 = true then x else (x.1, k)).1 = x.1 := fun x => by split <;> rfl
  refine ⟨by unfold chgF; rw [List.length_map]; exact ho.1, fun y hy => ?_, ?_⟩
  · obtain ⟨x, hx, rfl⟩ := List.mem_map.1 hy
    split
    · exact ho.2.1 x hx
    · exact plain_zero (ho.2.1 x hx) h1 h2
  · unfold chgF
    rw [List.pairwise_map]
    exact ho.2.2.imp fun {a b} h => by rw [hn, hn]; exact h
theorem chg_tells {l R : List Ft} (ho : FtsOk l) (hs : R.Sublist l) {k : Int} (h1 : -1000 ≤ k) (h2 : k ≤ 1000) : Tells R (chgF R k l) :=
  tells_sub (chg_ok ho h1 h2) (fun x hx => List.mem_map.2 ⟨x, hs.subset hx, by rw [if_pos (hasN_iff.2 ⟨x, hx, rfl⟩)]⟩) (ho.2.2.sublist hs)
/-- What the laws ask of a rule that is violated. -/
theorem suffice {r : Rl} {l : List Ft} (hc : checkE [r] = 0) (hf : factsE l = 0) (ht : truthF 12 l r.2 = 0) {k : Int} (h1 : -1000 ≤ k) (h2 : k ≤ 1000) :
    fewF (becF 12 r.2 [] l) l = becF 12 r.2 [] l ∧ trutE r (fewF (becF 12 r.2 [] l) l) = (0, 0) ∧ trutE r (chgF (becF 12 r.2 [] l) k l) = (0, 0) := by
  have ho := factsE_zero.1 hf
  have hs : (becF 12 r.2 [] l).Sublist l := bec_sub 12 r.2 [] l
  have h0 : truthF 12 (becF 12 r.2 [] l) r.2 = 0 := bec_false 12 r.2 [] l ht
  have he := few_eq ho hs
  refine ⟨he, ?_, ?_⟩
  · rw [he]
    unfold trutE
    rw [if_neg (by rw [hc]; simp), if_neg (by rw [factsE_zero.2 (ho.sub hs)]; simp), h0]
  · unfold trutE
    rw [if_neg (by rw [hc]; simp), if_neg (by rw [factsE_zero.2 (chg_ok ho h1 h2)]; simp)]
    rcases truth_more (chg_tells ho hs h1 h2) 12 r.2 with h3 | h3
    · rw [h0] at h3; cases h3
    · rw [h3, h0]
theorem minimal {r : Rl} {l : List Ft} (hc : checkE [r] = 0) (hf : factsE l = 0) {x : Ft} (hx : x ∈ becF 12 r.2 [] l) :
    (trutE r (restF (becF 12 r.2 [] l) x.1 l)).2 = 0 ∧ (trutE r (restF (becF 12 r.2 [] l) x.1 l)).1 ≠ 0 := by
  have ho := factsE_zero.1 hf
  have hs : (becF 12 r.2 [] l).Sublist l := bec_sub 12 r.2 [] l
  rw [rest_eq ho hs]
  have hsr : ((becF 12 r.2 [] l).filter fun y => y.1 != x.1).Sublist (becF 12 r.2 [] l) := List.filter_sublist
  unfold trutE
  rw [if_neg (by rw [hc]; simp), if_neg (by rw [factsE_zero.2 (ho.sub (hsr.trans hs))]; simp)]
  refine ⟨rfl, bec_min 12 r.2 [] l ho (fun x hx => by cases hx) x hx _ hsr fun h => ?_⟩
  have := (List.mem_filter.1 h).2
  simp at this
end Pr
end Go.Proofs.YtonmpealebggoaaDoor
namespace Go.Proofs.YtonmpealebggoaaDoor
open Go.RowKit Pr
theorem eFf : ElemK Tryd.prog 42 50 (.agg #[.string ⟨#[]⟩, .int .i64 0]) 2 24 := ElemK.mk_ Tryd.underlying42 (by kernel_rfl) rfl
theorem within_k (n : Int) (w : World) :
    Calls Tryd.prog 14 #[.int .i64 n, .int .i64 (-1000), .int .i64 1000] w fun e w' => e = .returned (.int .i64 (wi n (-1000) 1000)) ∧ w = w' := by
  have hu := u64_nonneg n
  have e0 := Int.emod_nonneg (IntKind.u64.wrap n) (b := 1000 - (-1000) + 1) (by omega)
  have e1 := Int.emod_lt_of_pos (IntKind.u64.wrap n) (b := 1000 - (-1000) + 1) (by omega)
  go_enter Tryd.func14, Tryd.ntmps14
  go_wp2
  go_ret
  exact ⟨rfl, rfl⟩
/-- A row of facts of a caller's own reads as facts. -/
theorem own_ftz {w : World} {base : Nat} {v : Value} {l : List Ft} (h : w.ownsRow base 50 2 v l.length (fcells l)) (ho : ∀ x ∈ l, x.1.length ≤ maxLen) : FtsM (fun _ => True) w v l := ⟨(SlM.of_own h).mono fun _ _ _ => trivial, ho⟩
theorem rest_sub {R : List Ft} {s : Src} {l : List Ft} {x : Ft} (h : x ∈ restF R s l) : x ∈ l := (List.mem_filter.1 h).1
theorem few_sub {R l : List Ft} {x : Ft} (h : x ∈ fewF R l) : x ∈ l := (List.mem_filter.1 h).1
theorem chg_names {R : List Ft} {k : Int} {l : List Ft} {x : Ft} (h : x ∈ chgF R k l) : ∃ y ∈ l, x.1 = y.1 := by
  obtain ⟨y, hy, rfl⟩ := List.mem_map.1 h
  refine ⟨y, hy, ?_⟩
  split <;> rfl
/-- A row of a call's own is not touched by what grows another. -/
theorem own_other {w w' : World} {base n size : Nat} {e : TypeId} {v u : Value} {xs : List Value} (h : w.ownsRow base e size v n xs) (hg : w.grownBy w' u.ownBlock) (hne : ∀ g, v.ownBlock = some g → u.ownBlock ≠ some g) : w'.ownsRow base e size v n xs := by
  refine ⟨h.1, ?_⟩
  rcases h.2 with h2 | ⟨g, cap, cur, rfl, h3, h4, h5⟩
  · exact .inl h2
  · refine .inr ⟨g, cap, cur, rfl, h3, ?_, h5⟩
    have hl : g < w.heap.size := by
      rcases Nat.lt_or_ge g w.heap.size with h6 | h6
      · exact h6
      · rw [Array.getElem?_eq_none h6] at h4; cases h4
    rw [hg.block g hl (fun e => hne g rfl e.symm)]
    exact h4
theorem step_pushk {P : Program} {w : World} {ops : Array Oper} {o : Oper} {a : Act} {K : Act → World → Prop} {Q : Exit → Act → World → Prop} {E : Prop} {t e : TypeId} {z : Value} {size bytes : Nat} (T : ElemK P t e z size bytes) (hgd : o.guard = none) (s x : Operand)
    (ho : o.op = .call { callee := .builtin .append, args := #[s, x], argTypes := #[t, t] })
    (base : Nat) (v : Value) (n : Nat) (xs : List Value) (hs : a.eval s = v) (hown : w.ownsRow base e size v n xs)
    (ad : Addr) (c : Nat) (news : List Value) (hx : a.eval x = .slice (some ad) 1 c) (hl : news.length = 1 * size) (hu : ∀ j u, news[j]? = some u → w.cell? (ad.add j) = some u) (h1 : ∀ u ∈ news, u.oneCell' = true) (hbytes : (n + 1) * bytes ≤ 140737488355328) (hpos : 0 < bytes) (hsz : 0 < size) (hbase : base ≤ w.heap.size)
    (h : ∀ g cap w', w'.ownsRow base e size (.slice (some ⟨g, 0, none⟩) (n + 1) cap) (n + 1) (xs ++ news) → w.grownBy w' v.ownBlock → (some g = v.ownBlock ∨ some g = some w.heap.size) → K (a.put o.dst (.slice (some ⟨g, 0, none⟩) (n + 1) cap)) w') :
    if Region.wanted o (yielded ops a.tmps) = true then Oper.wp P o a w K Q else E := by
  have hw : Region.wanted o (yielded ops a.tmps) = true := by simp [Region.wanted, hgd]
  rw [if_pos hw]
  obtain ⟨i, h2, h3, h4, h5⟩ := T.hi
  have hlen : n + 1 ≤ maxLen := by
    have := Nat.le_mul_of_pos_right (n + 1) hpos
    unfold maxLen; omega
  obtain ⟨v', w', hrun, a1, a2, _, a4⟩ := run_append_own_at (P := P) w base t o.type e i z size bytes T.ht h2 h3 h4 h5 T.hz hsz v n xs hown ad 1 c news hl hu h1 hlen hbytes hbase
  unfold Oper.wp execOp
  simp only [ho, resolve, invoke, builtin, Sem.run_bind, Sem.run_pure, Result.andThen_ok, List.map_toArray, List.map_cons, List.map_nil, hs, hx, hrun]
  have hg : ∃ g cap, v' = .slice (some ⟨g, 0, none⟩) (n + 1) cap := by
    rcases a1.2 with ⟨_, h0⟩ | ⟨g, cap, cur, hv, _⟩
    · omega
    · exact ⟨g, cap, hv⟩
  obtain ⟨g, cap, rfl⟩ := hg
  exact h g cap w' a1 a2 (by simpa [Value.ownBlock] using a4)
/-- Two rows of facts of a call's own that grow side by side; in block s lies the fact in hand. -/
structure TwJ (B s : Nat) (w0 : World) (Y y v u : Value) (n m : Nat) (xs ys : List Value) (W : World) : Prop where
  o1 : W.ownsRow B 50 2 v n xs
  o2 : W.ownsRow B 50 2 u m ys
  ap : ∀ g, v.ownBlock = some g → u.ownBlock ≠ some g
  be : Below B w0 W
  sz : s < W.heap.size
  n1 : v.ownBlock ≠ some s
  n2 : u.ownBlock ≠ some s
  c0 : W.cell? ⟨s, 0, none⟩ = some Y
  c1 : W.cell? ⟨s, 1, none⟩ = some y
section
variable {B s n m : Nat} {w0 W W' : World} {Y y v u v' : Value} {xs ys zs : List Value}
theorem TwJ.alloc (h : TwJ B s w0 Y y v u n m xs ys W) (hB : B ≤ W.heap.size) (o : Obj) : TwJ B s w0 Y y v u n m xs ys (W.alloc o) := by
  have hb := (Below.refl W.heap.size W).alloc (Nat.le_refl _) o
  exact ⟨own_below h.o1 hb, own_below h.o2 hb, h.ap, h.be.alloc hB o, Nat.lt_of_lt_of_le h.sz hb.size, h.n1, h.n2, (hb.cell (p := ⟨s, 0, none⟩) h.sz).trans h.c0, (hb.cell (p := ⟨s, 1, none⟩) h.sz).trans h.c1⟩
theorem TwJ.drewN (h : TwJ B s w0 Y y v u n m xs ys W) (k : Nat) : TwJ B s w0 Y y v u n m xs ys (W.drewN k) := ⟨h.o1, h.o2, h.ap, below_drewN h.be k, h.sz, h.n1, h.n2, h.c0, h.c1⟩
theorem TwJ.drew (h : TwJ B s w0 Y y v u n m xs ys W) : TwJ B s w0 Y y v u n m xs ys W.drew := ⟨h.o1, h.o2, h.ap, h.be.drew, h.sz, h.n1, h.n2, h.c0, h.c1⟩
theorem TwJ.push1 (h : TwJ B s w0 Y y v u n m xs ys W) (hB : B ≤ W.heap.size) (ho : W'.ownsRow B 50 2 v' (n + 1) zs) (hg : W.grownBy W' v.ownBlock) (hk : v'.ownBlock = v.ownBlock ∨ v'.ownBlock = some W.heap.size) : TwJ B s w0 Y y v' u (n + 1) m zs ys W' := by
  refine ⟨ho, own_other h.o2 hg fun g h1 h2 => h.ap g h2 h1, fun g h1 h2 => ?_, h.be.grown hg hB fun k hk => (own_lt h.o1 k hk).1, Nat.lt_of_lt_of_le h.sz hg.size, fun e => ?_, h.n2, (grown_cell hg (p := ⟨s, 0, none⟩) h.sz fun e => h.n1 e.symm).trans h.c0, (grown_cell hg (p := ⟨s, 1, none⟩) h.sz fun e => h.n1 e.symm).trans h.c1⟩
  · rcases hk with e | e
    · exact h.ap g (e ▸ h1) h2
    · rw [e] at h1
      injection h1 with h1
      have := (own_lt h.o2 g h2).2
      omega
  · rcases hk with e' | e'
    · exact h.n1 (e' ▸ e)
    · rw [e'] at e
      injection e with e
      have := h.sz
      omega
theorem TwJ.swap (h : TwJ B s w0 Y y v u n m xs ys W) : TwJ B s w0 Y y u v m n ys xs W := ⟨h.o2, h.o1, fun g h1 h2 => h.ap g h2 h1, h.be, h.sz, h.n2, h.n1, h.c0, h.c1⟩
theorem TwJ.push2 (h : TwJ B s w0 Y y v u n m xs ys W) (hB : B ≤ W.heap.size) (ho : W'.ownsRow B 50 2 v' (m + 1) zs) (hg : W.grownBy W' u.ownBlock) (hk : v'.ownBlock = u.ownBlock ∨ v'.ownBlock = some W.heap.size) : TwJ B s w0 Y y v v' n (m + 1) xs zs W' := (h.swap.push1 hB ho hg hk).swap
end
/-- Block b begins with the cells xs. -/
def FtAt (W : World) (b : Nat) (xs : List Value) : Prop := ∀ j u, xs[j]? = some u → W.cell? ⟨b, j, none⟩ = some u
theorem FtAt.add {W : World} {b : Nat} {xs : List Value} (h : FtAt W b xs) : ∀ j u, xs[j]? = some u → W.cell? ((⟨b, 0, none⟩ : Addr).add j) = some u := fun j u hu => by rw [add_plain, Nat.zero_add]; exact h j u hu
theorem FtAt.new (X : World) (t : TypeId) (cs : List Value) {n : Nat} (hn : n = X.heap.size) : FtAt (X.alloc (.cells cs.toArray t)) n cs := fun j u hu => by
  have := news_new X t cs n hn j u hu
  rwa [add_plain, Nat.zero_add] at this
theorem FtAt.lt {W : World} {b : Nat} {u : Value} {xs : List Value} (h : FtAt W b (u :: xs)) : b < W.heap.size := by
  have := h 0 u rfl
  rcases Nat.lt_or_ge b W.heap.size with h1 | h1
  · exact h1
  · simp [World.cell?, Array.getElem?_eq_none h1] at this
theorem FtAt.alloc {W : World} {b : Nat} {u : Value} {xs : List Value} (h : FtAt W b (u :: xs)) (o : Obj) : FtAt (W.alloc o) b (u :: xs) := fun j z hz => (((Below.refl W.heap.size W).alloc (Nat.le_refl _) o).cell (p := ⟨b, j, none⟩) h.lt).trans (h j z hz)
theorem FtAt.grown {W W' : World} {b : Nat} {u : Value} {xs : List Value} {r : Option Nat} (h : FtAt W b (u :: xs)) (hg : W.grownBy W' r) (hr : r ≠ some b) : FtAt W' b (u :: xs) := fun j z hz => (grown_cell hg (p := ⟨b, j, none⟩) h.lt fun e => hr e.symm).trans (h j z hz)
end Go.Proofs.YtonmpealebggoaaDoor
