/- A part lies deeper than its glyph; what 'need' marks, in plain words. The part of a font that codes need, in plain words. What is known of the part of a font that codes need, in plain words. -/
import Derived.Test.YtefkglmdkjkbiaaDoorFntBtw
import Derived.Test.YtefkglmdkjkbiaaDoorFntChk
namespace Go.Proofs.YtefkglmdkjkbiaaDoor
open Fnt
namespace Fnt
def Rk (F : Font) (L : List Nst) : Prop := ∀ i, (nst L i).st = 2 → ∀ p ∈ (gl F i).ps, (nst L p.g.toNat).st = 2 ∧ (nst L p.g.toNat).dp + 1 ≤ (nst L i).dp
theorem parts_rk {F : Font} {f N : Nat} {V : Nat → List Nst → Int × List Nst} (hK : ∀ g L, Keeps L (V g L).2)
    (hV : ∀ g L, fresh L < f → L.length = N → g < N → Rk F L → (V g L).1 = 0 → Rk F (V g L).2 ∧ (nst (V g L).2 g).st = 2) :
    ∀ (a : List Part) (n : Nst) (L : List Nst), (∀ p ∈ a, p.g.toNat < N) → fresh L < f → L.length = N → Rk F L → n.st = 2 → (parts V a n L).1 = 0 →
      Rk F (parts V a n L).2.2 ∧ (parts V a n L).2.1.st = 2 ∧ n.dp ≤ (parts V a n L).2.1.dp ∧ ∀ p ∈ a, (nst (parts V a n L).2.2 p.g.toNat).st = 2 ∧ (nst (parts V a n L).2.2 p.g.toNat).dp + 1 ≤ (parts V a n L).2.1.dp
  | [], n, L, _, _, _, hR, hn, _ => ⟨hR, hn, Int.le_refl _, fun p hp => absurd hp (by simp)⟩
  | p :: r, n, L, hp, hf, hl, hR, hn, h0 => by
    simp only [parts] at h0 ⊢
    by_cases h1 : (V p.g.toNat L).1 = 0
    · rw [if_pos h1] at h0 ⊢
      obtain ⟨k1, k2⟩ := hV p.g.toNat L hf hl (hp p (by simp)) hR h1
      have hk := hK p.g.toNat L
      obtain ⟨a1, a2, a3, a4⟩ := parts_rk hK hV r ⟨2, max n.dp ((nst (V p.g.toNat L).2 p.g.toNat).dp + 1), min (n.pt + (nst (V p.g.toNat L).2 p.g.toNat).pt) 1048576⟩ (V p.g.toNat L).2
        (fun q hq => hp q (by simp [hq])) (by have := hk.fresh; omega) (by rw [hk.1]; exact hl) k1 rfl h0
      have hkp := parts_keeps hK r ⟨2, max n.dp ((nst (V p.g.toNat L).2 p.g.toNat).dp + 1), min (n.pt + (nst (V p.g.toNat L).2 p.g.toNat).pt) 1048576⟩ (V p.g.toNat L).2
      have he := hkp.2 p.g.toNat (by rw [k2]; decide)
      dsimp only at a3
      refine ⟨a1, a2, by omega, fun q hq => ?_⟩
      rcases List.mem_cons.1 hq with rfl | hq
      · rw [he]; exact ⟨k2, by omega⟩
      · exact a4 q hq
    · rw [if_neg h1] at h0; exact absurd h0 h1
theorem vis_rk {F : Font} {N : Nat} (hP : ∀ i, ∀ p ∈ (gl F i).ps, p.g.toNat < N) : ∀ (f g : Nat) (L : List Nst), fresh L < f → L.length = N → g < N → Rk F L → (vis F f g L).1 = 0 → Rk F (vis F f g L).2 ∧ (nst (vis F f g L).2 g).st = 2
  | 0, _, _, h, _, _, _, _ => absurd h (by omega)
  | f + 1, g, L, hf, hl, hg, hR, h0 => by
    unfold vis at h0 ⊢
    by_cases h1 : (nst L g).st = 1
    · rw [if_pos h1] at h0; exact absurd h0 (by simp)
    · rw [if_neg h1] at h0 ⊢
      by_cases h2 : (nst L g).st = 2
      · rw [if_pos h2]; exact ⟨hR, h2⟩
      · rw [if_neg h2] at h0 ⊢
        have hz : (nst L g).st = 0 := st_zero _ h1 h2
        have hfr := fresh_begin (L := L) (g := g) (by omega) hz (nst L g).dp (nst L g).pt
        have hR1 : Rk F (L.set g ⟨1, (nst L g).dp, (nst L g).pt⟩) := fun i hi p hp => by
          rw [nst_set] at hi
          by_cases hgi : g = i ∧ g < L.length
          · rw [if_pos hgi] at hi; exact absurd hi (by show (1 : Fin 3) ≠ 2; decide)
          · rw [if_neg hgi] at hi
            obtain ⟨b1, b2⟩ := hR i hi p hp
            have hne : ¬ (g = p.g.toNat ∧ g < L.length) := fun e => by rw [← e.1, hz] at b1; exact absurd b1 (by decide)
            rw [nst_set, if_neg hne, nst_set, if_neg hgi]
            exact ⟨b1, b2⟩
        dsimp only at h0 ⊢
        have hk := parts_keeps (vis_keeps F f) (gl F g).ps ⟨2, 1, own (gl F g)⟩ (L.set g ⟨1, (nst L g).dp, (nst L g).pt⟩)
        have hq := parts_rk (V := vis F f) (vis_keeps F f) (vis_rk hP f) (gl F g).ps ⟨2, 1, own (gl F g)⟩ (L.set g ⟨1, (nst L g).dp, (nst L g).pt⟩) (hP g) (by omega) (by rw [List.length_set]; exact hl) hR1 rfl
        generalize hr : parts (vis F f) (gl F g).ps ⟨2, 1, own (gl F g)⟩ (L.set g ⟨1, (nst L g).dp, (nst L g).pt⟩) = r at *
        by_cases h3 : r.1 = 0
        · rw [if_pos h3] at h0 ⊢
          obtain ⟨a1, a2, a3, a4⟩ := hq h3
          have hs : (nst r.2.2 g).st = 1 := by
            have e : nst (L.set g ⟨1, (nst L g).dp, (nst L g).pt⟩) g = ⟨1, (nst L g).dp, (nst L g).pt⟩ := by rw [nst_set, if_pos ⟨rfl, by omega⟩]
            rw [hk.2 g (by rw [e]; show (1 : Fin 3) ≠ 0; decide), e]
          have hlen : r.2.2.length = L.length := by rw [hk.1, List.length_set]
          have hne : ∀ q : Nat, (nst r.2.2 q).st = 2 → ¬ (g = q ∧ g < r.2.2.length) := fun q hq e => by rw [← e.1, hs] at hq; exact absurd hq (by decide)
          refine ⟨fun i hi p hp => ?_, by rw [nst_set, if_pos ⟨rfl, by omega⟩]; exact a2⟩
          by_cases hgi : g = i
          · subst hgi
            obtain ⟨b1, b2⟩ := a4 p hp
            rw [nst_set, if_neg (hne _ b1), nst_set, if_pos ⟨rfl, by omega⟩]
            exact ⟨b1, b2⟩
          · rw [nst_set, if_neg (fun e => hgi e.1)] at hi
            obtain ⟨b1, b2⟩ := a1 i hi p hp
            rw [nst_set, if_neg (hne _ b1), nst_set, if_neg (fun e => hgi e.1)]
            exact ⟨b1, b2⟩
        · rw [if_neg h3] at h0; exact absurd h0 h3
theorem visits_rk {F : Font} (hP : ∀ i, ∀ p ∈ (gl F i).ps, p.g.toNat < F.gs.length) : ∀ k, k ≤ F.gs.length → (visits F k).1 = 0 → Rk F (visits F k).2 ∧ ∀ i, i < k → (nst (visits F k).2 i).st = 2
  | 0, _, _ => ⟨fun i hi => by
      have : nst (List.replicate F.gs.length ⟨0, 0, 0⟩) i = ⟨0, 0, 0⟩ := by
        unfold nst; rw [List.getD_eq_getElem?_getD, List.getElem?_replicate]; split <;> rfl
      simp only [visits, this] at hi
      exact absurd hi (by decide), fun i hi => absurd hi (by omega)⟩
  | k + 1, hk, h => by
    by_cases h0 : (visits F k).1 = 0
    · obtain ⟨a, b⟩ := visits_rk hP k (by omega) h0
      simp only [visits] at h ⊢
      rw [if_pos h0] at h ⊢
      obtain ⟨c, d⟩ := vis_rk hP (F.gs.length + 1) k (visits F k).2 (visits_fresh k) (visits_keeps F k) (by omega) a h
      refine ⟨c, fun i hi => ?_⟩
      rcases Nat.lt_succ_iff_lt_or_eq.1 hi with h1 | rfl
      · rw [(vis_keeps F _ _ _).2 i (by rw [b i h1]; decide)]; exact b i h1
      · exact d
    · simp only [visits] at h
      rw [if_neg h0] at h
      exact absurd h h0
/-- How deep a glyph goes. -/
def rk (F : Font) (g : Nat) : Nat := (nst (visits F F.gs.length).2 g).dp.toNat
theorem FOk.parts {F : Font} (h : FOk F) : ∀ i, ∀ p ∈ (Fnt.gl F i).ps, 0 ≤ p.g ∧ p.g.toNat < F.gs.length := fun i p hp => by
  rcases Nat.lt_or_ge i F.gs.length with hi | hi
  · have := (h.gl i hi).par p hp; omega
  · have : Fnt.gl F i = default := by unfold Fnt.gl; rw [List.getD_eq_getElem?_getD, List.getElem?_eq_none hi]; rfl
    rw [this] at hp
    exact absurd hp (by show p ∉ ([] : List Part); simp)
theorem rk_facts {F : Font} (h : FOk F) : ∀ g, g < F.gs.length → rk F g < 5 ∧ ∀ p ∈ (gl F g).ps, rk F p.g.toNat < rk F g := by
  have hn := h.ns
  unfold nestsE at hn
  have hv : (visits F F.gs.length).1 = 0 := by
    split at hn
    · assumption
    · exact hn
  rw [if_pos hv] at hn
  have hs : scan (fun i => nestE (nst (visits F F.gs.length).2 i)) F.gs.length = 0 := by
    split at hn
    · assumption
    · exact hn
  obtain ⟨a, b⟩ := visits_rk (fun i p hp => (h.parts i p hp).2) F.gs.length (Nat.le_refl _) hv
  have hb := visits_bd (F := F) (own_all h.gl) F.gs.length
  intro g hg
  have h1 := scan_zero.1 hs g hg
  unfold nestE at h1
  refine ⟨?_, fun p hp => ?_⟩
  · unfold rk
    split at h1
    · omega
    · omega
  · have h2 := (a g (b g hg) p hp).2
    have h3 := (hb p.g.toNat).1
    have h4 := (hb g).1
    unfold rk
    omega
/-- What 'need' marks. -/
def need (F : Font) : Nat → Nat → List Bool → List Bool
  | 0, _, K => K
  | f + 1, g, K => (gl F g).ps.foldl (fun K p => need F f p.g.toNat K) (K.set g true)
/-- Whether a glyph is reached from another one. -/
def rch (F : Font) : Nat → Nat → Nat → Bool
  | 0, _, _ => false
  | f + 1, g, i => decide (i = g) || (gl F g).ps.any fun p => rch F f p.g.toNat i
theorem fold_rch {F : Font} {f : Nat} {N : Nat} (hN : ∀ g K, g < N → K.length = N → (need F f g K).length = N ∧ ∀ i, (need F f g K).getD i false = (K.getD i false || rch F f g i)) :
    ∀ (a : List Part) (K : List Bool), (∀ p ∈ a, p.g.toNat < N) → K.length = N → (a.foldl (fun K p => need F f p.g.toNat K) K).length = N ∧ ∀ i, (a.foldl (fun K p => need F f p.g.toNat K) K).getD i false = (K.getD i false || a.any fun p => rch F f p.g.toNat i)
  | [], K, _, hK => ⟨hK, fun i => by simp⟩
  | p :: r, K, hp, hK => by
    obtain ⟨a, b⟩ := hN p.g.toNat K (hp p (by simp)) hK
    obtain ⟨c, d⟩ := fold_rch hN r (need F f p.g.toNat K) (fun q hq => hp q (by simp [hq])) a
    refine ⟨c, fun i => ?_⟩
    rw [List.foldl_cons, d i, b i, List.any_cons, Bool.or_assoc]
theorem getD_set (K : List Bool) (g i : Nat) (hg : g < K.length) : (K.set g true).getD i false = (K.getD i false || decide (i = g)) := by
  rw [List.getD_eq_getElem?_getD, List.getD_eq_getElem?_getD, List.getElem?_set]
  by_cases h : g = i
  · subst h; simp [hg]
  · rw [if_neg h, decide_eq_false (fun e => h e.symm)]; simp
theorem need_rch {F : Font} (h : FOk F) : ∀ (f g : Nat) (K : List Bool), g < F.gs.length → K.length = F.gs.length → (need F f g K).length = F.gs.length ∧ ∀ i, (need F f g K).getD i false = (K.getD i false || rch F f g i)
  | 0, _, K, _, hK => ⟨hK, fun i => by simp [need, rch]⟩
  | f + 1, g, K, hg, hK => by
    obtain ⟨a, b⟩ := fold_rch (need_rch h f) (gl F g).ps (K.set g true) (fun p hp => (h.parts g p hp).2) (by rw [List.length_set]; exact hK)
    refine ⟨a, fun i => ?_⟩
    simp only [need, rch]
    rw [b i, getD_set K g i (by omega), Bool.or_assoc]
theorem rch_self (F : Font) (f g : Nat) (h : 0 < f) : rch F f g g = true := by
  cases f with
  | zero => omega
  | succ f => simp [rch]
/-- What a reached glyph has as parts is reached. -/
theorem rch_closed {F : Font} (h : FOk F) : ∀ (f r g : Nat), r < F.gs.length → rk F r < f → rch F f r g = true → ∀ p ∈ (gl F g).ps, rch F f r p.g.toNat = true
  | 0, _, _, _, hf, _, _, _ => absurd hf (by omega)
  | f + 1, r, g, hr, hf, hg, p, hp => by
    have hk := (rk_facts h r hr).2
    simp only [rch, Bool.or_eq_true, decide_eq_true_eq, List.any_eq_true] at hg ⊢
    rcases hg with rfl | ⟨q, hq, hqg⟩
    · exact Or.inr ⟨p, hp, rch_self F f _ (by have := hk p hp; omega)⟩
    · exact Or.inr ⟨q, hq, rch_closed h f q.g.toNat g (h.parts r q hq).2 (by have := hk q hq; omega) hqg p hp⟩
theorem rch_lt {F : Font} (h : FOk F) : ∀ (f r g : Nat), r < F.gs.length → rch F f r g = true → g < F.gs.length
  | 0, _, _, _, hg => absurd hg (by simp [rch])
  | f + 1, r, g, hr, hg => by
    simp only [rch, Bool.or_eq_true, decide_eq_true_eq, List.any_eq_true] at hg
    rcases hg with rfl | ⟨q, hq, hqg⟩
    · exact hr
    · exact rch_lt h f q.g.toNat g (h.parts r q hq).2 hqg
end Fnt
end Go.Proofs.YtefkglmdkjkbiaaDoor
namespace Go.Proofs.YtefkglmdkjkbiaaDoor
open Fnt
namespace Fnt
def keepOf (F : Font) (cs : List Int) : List Bool := cs.foldl (fun K c => need F 5 (find F c).toNat K) (need F 5 0 (List.replicate F.gs.length false))
def ktp (K : List Bool) (g : Nat) : Bool := K.getD g false
/-- The kept ones of the first n glyphs. -/
def keptTo (K : List Bool) (n : Nat) : List Nat := (List.range n).filter (ktp K)
def oldOf (K : List Bool) : List Nat := keptTo K K.length
def num (K : List Bool) (g : Nat) : Nat := if ktp K g then (keptTo K g).length else 0
def newGl (K : List Bool) (x : Gl) : Gl := ⟨x.adv, x.cs, x.ps.map fun p => ⟨num K p.g.toNat, p.x, p.y⟩⟩
def addC (m : List Rg) (c g : Int) : List Rg :=
  if decide (0 < m.length) && (decide ((m.getD (m.length - 1) default).hi = c - 1) && decide ((m.getD (m.length - 1) default).g + c - (m.getD (m.length - 1) default).lo = g)) then m.set (m.length - 1) ⟨(m.getD (m.length - 1) default).lo, c, (m.getD (m.length - 1) default).g⟩
  else m ++ [⟨c, c, g⟩]
def mapOf (cs : List Int) (fn : Int → Int) : List Rg := cs.foldl (fun m c => addC m c (fn c)) []
def newKp (K : List Bool) (k : Kp) : Kp := ⟨num K k.l.toNat, num K k.r.toNat, k.by_⟩
def kpk (K : List Bool) (k : Kp) : Bool := ktp K k.l.toNat && ktp K k.r.toNat
def subF (F : Font) (cs : List Int) : Font :=
  ⟨F.unit, (oldOf (keepOf F cs)).map fun g => newGl (keepOf F cs) (gl F g), mapOf cs (fun c => num (keepOf F cs) (find F c).toNat), (F.kern.filter (kpk (keepOf F cs))).map (newKp (keepOf F cs))⟩
structure Cs (F : Font) (codes cs : List Int) : Prop where
  inc : cs.Pairwise (· < ·)
  mem : ∀ c, c ∈ cs ↔ c ∈ codes ∧ find F c ≠ 0
/-! Two increasing lists with the same members. -/
theorem inc_unique : ∀ {a b : List Int}, a.Pairwise (· < ·) → b.Pairwise (· < ·) → (∀ c, c ∈ a ↔ c ∈ b) → a = b
  | [], [], _, _, _ => rfl
  | [], y :: b, _, _, h => absurd ((h y).2 (by simp)) (by simp)
  | x :: a, [], _, _, h => absurd ((h x).1 (by simp)) (by simp)
  | x :: a, y :: b, ha, hb, h => by
    rw [List.pairwise_cons] at ha hb
    have hxy : x = y := by
      have h1 := (h x).1 (by simp)
      have h2 := (h y).2 (by simp)
      rw [List.mem_cons] at h1 h2
      rcases h1 with h1 | h1
      · exact h1
      · rcases h2 with h2 | h2
        · exact h2.symm
        · have := hb.1 x h1; have := ha.1 y h2; omega
    subst hxy
    rw [inc_unique ha.2 hb.2 fun c => ⟨fun hc => by
      have := (h c).1 (by simp [hc])
      rw [List.mem_cons] at this
      rcases this with rfl | h1
      · have := ha.1 c hc; omega
      · exact h1, fun hc => by
      have := (h c).2 (by simp [hc])
      rw [List.mem_cons] at this
      rcases this with rfl | h1
      · have := hb.1 c hc; omega
      · exact h1⟩]
/-! The new numbers of glyphs. -/
theorem keptTo_succ (K : List Bool) (n : Nat) : keptTo K (n + 1) = if ktp K n then keptTo K n ++ [n] else keptTo K n := by
  unfold keptTo
  rw [List.range_succ, List.filter_append]
  by_cases h : ktp K n = true
  · simp [h]
  · simp [h]
theorem keptTo_at (K : List Bool) (g : Nat) (hg : ktp K g = true) : ∀ n, g < n → (keptTo K n)[(keptTo K g).length]? = some g ∧ (keptTo K g).length < (keptTo K n).length
  | 0, h => absurd h (by omega)
  | n + 1, h => by
    rw [keptTo_succ]
    rcases Nat.lt_or_ge g n with h1 | h1
    · obtain ⟨a, b⟩ := keptTo_at K g hg n h1
      split
      · exact ⟨by rw [List.getElem?_append_left b]; exact a, by rw [List.length_append]; omega⟩
      · exact ⟨a, b⟩
    · obtain rfl : g = n := by omega
      rw [if_pos hg]
      exact ⟨by rw [List.getElem?_append_right (Nat.le_refl _)]; simp, by simp⟩
theorem keptTo_of (K : List Bool) : ∀ (n j g : Nat), (keptTo K n)[j]? = some g → ktp K g = true ∧ g < n ∧ (keptTo K g).length = j
  | 0, j, g, h => absurd h (by simp [keptTo])
  | n + 1, j, g, h => by
    rw [keptTo_succ] at h
    split at h
    · rename_i hk
      rcases Nat.lt_or_ge j (keptTo K n).length with h1 | h1
      · rw [List.getElem?_append_left h1] at h
        obtain ⟨a, b, c⟩ := keptTo_of K n j g h
        exact ⟨a, by omega, c⟩
      · rw [List.getElem?_append_right h1] at h
        have hj : j - (keptTo K n).length = 0 := by
          rcases Nat.eq_zero_or_pos (j - (keptTo K n).length) with h2 | h2
          · exact h2
          · rw [List.getElem?_eq_none (by simp; omega)] at h; exact absurd h (by simp)
        rw [hj] at h
        have : n = g := by simpa using h
        subst this
        exact ⟨hk, by omega, by omega⟩
    · obtain ⟨a, b, c⟩ := keptTo_of K n j g h
      exact ⟨a, by omega, c⟩
theorem num_zero (K : List Bool) : num K 0 = 0 := by unfold num; split <;> simp [keptTo]
theorem ktp_lt {K : List Bool} {g : Nat} (h : ktp K g = true) : g < K.length := by
  rcases Nat.lt_or_ge g K.length with h1 | h1
  · exact h1
  · unfold ktp at h; rw [List.getD_eq_getElem?_getD, List.getElem?_eq_none h1] at h; exact absurd h (by simp)
theorem num_old {K : List Bool} {g : Nat} (h : ktp K g = true) : (oldOf K)[num K g]? = some g ∧ num K g < (oldOf K).length := by
  unfold num oldOf
  rw [if_pos h]
  exact keptTo_at K g h _ (ktp_lt h)
theorem old_num {K : List Bool} {j g : Nat} (h : (oldOf K)[j]? = some g) : ktp K g = true ∧ num K g = j := by
  obtain ⟨a, b, c⟩ := keptTo_of K _ j g h
  exact ⟨a, by unfold num; rw [if_pos a]; exact c⟩
theorem num_inj {K : List Bool} {g h : Nat} (hg : ktp K g = true) (hh : ktp K h = true) (e : num K g = num K h) : g = h := by
  have a := (num_old hg).1
  rw [e, (num_old hh).1] at a
  exact (Option.some.inj a).symm
theorem num_pos {K : List Bool} {g : Nat} (h0 : ktp K 0 = true) (hg : ktp K g = true) (h : g ≠ 0) : num K g ≠ 0 := fun e => h (num_inj hg h0 (by rw [e, num_zero]))
/-! The map of codes. -/
structure Cov (m : List Rg) (cs : List Int) (fn : Int → Int) : Prop where
  mem : ∀ c, c ∈ cs ↔ ∃ i, i < m.length ∧ (m.getD i default).lo ≤ c ∧ c ≤ (m.getD i default).hi
  val : ∀ i, i < m.length → ∀ c, (m.getD i default).lo ≤ c → c ≤ (m.getD i default).hi → (m.getD i default).g + c - (m.getD i default).lo = fn c
  le : ∀ i, i < m.length → (m.getD i default).lo ≤ (m.getD i default).hi
theorem getD_setR (m : List Rg) (k i : Nat) (x : Rg) (hk : k < m.length) : (m.set k x).getD i default = if k = i then x else m.getD i default := by
  rw [List.getD_eq_getElem?_getD, List.getD_eq_getElem?_getD, List.getElem?_set]
  by_cases h : k = i
  · subst h; simp [hk]
  · simp [h]
theorem getD_snoc (m : List Rg) (i : Nat) (x : Rg) : (m ++ [x]).getD i default = if i < m.length then m.getD i default else if i = m.length then x else default := by
  rw [List.getD_eq_getElem?_getD, List.getD_eq_getElem?_getD]
  by_cases h : i < m.length
  · rw [List.getElem?_append_left h, if_pos h]
  · rw [List.getElem?_append_right (by omega), if_neg h]
    by_cases h2 : i = m.length
    · simp [h2]
    · rw [if_neg h2, List.getElem?_eq_none (by simp; omega)]; rfl
theorem Cov.add {m : List Rg} {cs : List Int} {fn : Int → Int} (h : Cov m cs fn) (c : Int) : Cov (addC m c (fn c)) (cs ++ [c]) fn := by
  unfold addC
  split
  · rename_i hc
    simp only [Bool.and_eq_true, decide_eq_true_eq] at hc
    obtain ⟨h0, h1, h2⟩ := hc
    have hk : m.length - 1 < m.length := by omega
    refine ⟨fun d => ?_, fun i hi d h3 h4 => ?_, fun i hi => ?_⟩
    · rw [List.mem_append, h.mem d, List.mem_singleton]
      constructor
      · rintro (⟨i, hi, ha, hb⟩ | rfl)
        · refine ⟨i, by rw [List.length_set]; exact hi, ?_⟩
          rw [getD_setR _ _ _ _ hk]
          split
          · rename_i e; subst e; dsimp only; omega
          · exact ⟨ha, hb⟩
        · refine ⟨m.length - 1, by rw [List.length_set]; exact hk, ?_⟩
          rw [getD_setR _ _ _ _ hk, if_pos rfl]
          have := h.le _ hk
          dsimp only; omega
      · rintro ⟨i, hi, ha, hb⟩
        rw [List.length_set] at hi
        rw [getD_setR _ _ _ _ hk] at ha hb
        by_cases e : m.length - 1 = i
        · rw [if_pos e] at ha hb
          dsimp only at ha hb
          by_cases hd : d = c
          · exact Or.inr hd
          · exact Or.inl ⟨m.length - 1, hk, ha, by omega⟩
        · rw [if_neg e] at ha hb; exact Or.inl ⟨i, hi, ha, hb⟩
    · rw [List.length_set] at hi
      rw [getD_setR _ _ _ _ hk] at h3 h4 ⊢
      by_cases e : m.length - 1 = i
      · rw [if_pos e] at h3 h4 ⊢
        dsimp only at h3 h4 ⊢
        by_cases hd : d = c
        · rw [hd]; exact h2
        · exact h.val _ hk d h3 (by omega)
      · rw [if_neg e] at h3 h4 ⊢; exact h.val i hi d h3 h4
    · rw [List.length_set] at hi
      rw [getD_setR _ _ _ _ hk]
      split
      · have := h.le _ hk; dsimp only; omega
      · exact h.le i hi
  · refine ⟨fun d => ?_, fun i hi d h3 h4 => ?_, fun i hi => ?_⟩
    · rw [List.mem_append, h.mem d, List.mem_singleton]
      constructor
      · rintro (⟨i, hi, ha, hb⟩ | rfl)
        · exact ⟨i, by rw [List.length_append]; omega, by rw [getD_snoc, if_pos hi]; exact ⟨ha, hb⟩⟩
        · exact ⟨m.length, by simp, by rw [getD_snoc, if_neg (by omega), if_pos rfl]; exact ⟨Int.le_refl _, Int.le_refl _⟩⟩
      · rintro ⟨i, hi, ha, hb⟩
        rw [List.length_append, List.length_singleton] at hi
        rw [getD_snoc] at ha hb
        by_cases e : i < m.length
        · rw [if_pos e] at ha hb; exact Or.inl ⟨i, e, ha, hb⟩
        · rw [if_neg e, if_pos (by omega)] at ha hb
          dsimp only at ha hb
          exact Or.inr (by omega)
    · rw [List.length_append, List.length_singleton] at hi
      rw [getD_snoc] at h3 h4 ⊢
      by_cases e : i < m.length
      · rw [if_pos e] at h3 h4 ⊢; exact h.val i e d h3 h4
      · rw [if_neg e, if_pos (by omega)] at h3 h4 ⊢
        dsimp only at h3 h4 ⊢
        obtain rfl : d = c := by omega
        omega
    · rw [List.length_append, List.length_singleton] at hi
      rw [getD_snoc]
      by_cases e : i < m.length
      · rw [if_pos e]; exact h.le i e
      · rw [if_neg e, if_pos (by omega)]; exact Int.le_refl _
theorem cov_fold (fn : Int → Int) : ∀ (cs : List Int) (m : List Rg) (ds : List Int), Cov m ds fn → Cov (cs.foldl (fun m c => addC m c (fn c)) m) (ds ++ cs) fn
  | [], m, ds, h => by rw [List.append_nil]; exact h
  | c :: cs, m, ds, h => by
    have := cov_fold fn cs _ _ (h.add c)
    rw [List.append_assoc] at this
    exact this
theorem cov_map (cs : List Int) (fn : Int → Int) : Cov (mapOf cs fn) cs fn := by
  have := cov_fold fn cs [] [] ⟨fun c => by simp, fun i hi => absurd hi (by simp), fun i hi => absurd hi (by simp)⟩
  exact this
/-! The glyph of a code, from the ranges that cover it. -/
theorem rg_mono {F : Font} (h : FOk F) : ∀ (d t : Nat), t + d + 1 < F.map.length → (rg F t).hi < (rg F (t + d + 1)).lo
  | 0, t, ht => by
    have := rg_order (h.mp (t + 0 + 1) ht) (by omega)
    rw [show t + 0 + 1 - 1 = t by omega] at this; exact this
  | d + 1, t, ht => by
    have h1 := rg_mono h d t (by omega)
    have h2 := rg_order (h.mp (t + (d + 1) + 1) ht) (by omega)
    rw [show t + (d + 1) + 1 - 1 = t + d + 1 by omega] at h2
    have h3 := (h.rg (t + d + 1) (by omega)).le
    omega
theorem fIdx_spec {F : Font} (h : FOk F) (c : Int) : (∀ t, t < fIdx F c → (rg F t).lo < c) ∧ ∀ t, fIdx F c ≤ t → t < F.map.length → c ≤ (rg F t).lo := by
  have mono : ∀ t s, t < s → s < F.map.length → (rg F t).hi < (rg F s).lo := fun t s hts hs => by
    have := rg_mono h (s - t - 1) t (by omega)
    rwa [show t + (s - t - 1) + 1 = s by omega] at this
  obtain ⟨k, hk, h1, h2⟩ := threshold (fun t => decide (t < F.map.length) && decide ((rg F t).lo < c)) (fun t s hts hs => by
    simp only [Bool.and_eq_true, decide_eq_true_eq] at hs ⊢
    have := mono t s hts hs.1
    have := (h.rg t (by omega)).le
    omega) F.map.length (fun t ht => by simp; omega)
  have hI : fIdx F c = k := by
    unfold fIdx
    rw [bs_congr _ (fun t => decide (t < F.map.length) && decide ((rg F t).lo < c)) _ _ _ fun t ht => by rw [decide_eq_true ht]; rfl]
    exact Lib.bsGo_spec _ k h1 h2 _ _ _ (by omega) (Nat.zero_le _) hk
  rw [hI]
  refine ⟨fun t ht => ?_, fun t ht hn => ?_⟩
  · have := h1 t ht
    simp only [Bool.and_eq_true, decide_eq_true_eq] at this
    exact this.2
  · have := h2 t ht
    rw [decide_eq_true hn] at this
    simp only [Bool.true_and, decide_eq_false_iff_not] at this
    omega
theorem find_cov {F : Font} (h : FOk F) {i : Nat} (hi : i < F.map.length) {c : Int} (h1 : (rg F i).lo ≤ c) (h2 : c ≤ (rg F i).hi) : find F c = (rg F i).g + c - (rg F i).lo := by
  have mono : ∀ t s, t < s → s < F.map.length → (rg F t).hi < (rg F s).lo := fun t s hts hs => by
    have := rg_mono h (s - t - 1) t (by omega)
    rwa [show t + (s - t - 1) + 1 = s by omega] at this
  obtain ⟨a, b⟩ := fIdx_spec h c
  have hle := fIdx_le F c
  have hR : fRange F c = i + 1 := by
    unfold fRange fHit
    by_cases hc : (rg F i).lo < c
    · have hk : fIdx F c = i + 1 := by
        rcases Nat.lt_trichotomy (fIdx F c) (i + 1) with h3 | h3 | h3
        · have := b i (by omega) hi; omega
        · exact h3
        · have := a (i + 1) h3; have := mono i (i + 1) (by omega) (by omega); omega
      rw [hk, if_neg]
      intro hh
      simp only [Bool.and_eq_true, decide_eq_true_eq] at hh
      have := mono i (i + 1) (by omega) hh.1
      omega
    · have hk : fIdx F c = i := by
        rcases Nat.lt_trichotomy (fIdx F c) i with h3 | h3 | h3
        · have := b (fIdx F c) (Nat.le_refl _) (by omega)
          have := mono (fIdx F c) i h3 hi
          have := (h.rg (fIdx F c) (by omega)).le
          omega
        · exact h3
        · have := a i h3; omega
      rw [hk, if_pos]
      simp only [Bool.and_eq_true, decide_eq_true_eq]
      omega
  unfold find
  rw [hR, if_neg (by omega), Nat.add_sub_cancel, if_neg (by omega)]
theorem find_none {F : Font} {c : Int} (hc : ∀ i, i < F.map.length → ¬ ((rg F i).lo ≤ c ∧ c ≤ (rg F i).hi)) : find F c = 0 := by
  unfold find
  split
  · rfl
  · rename_i h0
    have h1 := fRange_lo F c (by omega)
    have h2 := fRange_le F c
    have h3 := hc (fRange F c - 1) (by omega)
    rw [if_pos (by omega)]
end Fnt
end Go.Proofs.YtefkglmdkjkbiaaDoor
namespace Go.Proofs.YtefkglmdkjkbiaaDoor
open Fnt
namespace Fnt
theorem find_nat {F : Font} (h : FOk F) (c : Int) : ((find F c).toNat : Int) = find F c ∧ (find F c).toNat < F.gs.length := by
  have := find_bd h.rg h.n0 c
  omega
theorem keep_fold {F : Font} (h : FOk F) : ∀ (cs : List Int) (K : List Bool), K.length = F.gs.length → (cs.foldl (fun K c => need F 5 (find F c).toNat K) K).length = F.gs.length ∧ ∀ i, (cs.foldl (fun K c => need F 5 (find F c).toNat K) K).getD i false = (K.getD i false || cs.any fun c => rch F 5 (find F c).toNat i)
  | [], K, hK => ⟨hK, fun i => by simp⟩
  | c :: r, K, hK => by
    obtain ⟨a, b⟩ := need_rch h 5 (find F c).toNat K (find_nat h c).2 hK
    obtain ⟨d, e⟩ := keep_fold h r _ a
    refine ⟨d, fun i => ?_⟩
    rw [List.foldl_cons, e i, b i, List.any_cons, Bool.or_assoc]
theorem keep_spec {F : Font} (h : FOk F) (cs : List Int) : (keepOf F cs).length = F.gs.length ∧ ∀ i, ktp (keepOf F cs) i = (rch F 5 0 i || cs.any fun c => rch F 5 (find F c).toNat i) := by
  obtain ⟨a, b⟩ := need_rch h 5 0 (List.replicate F.gs.length false) h.n0 (by simp)
  obtain ⟨c, d⟩ := keep_fold h cs _ a
  refine ⟨c, fun i => ?_⟩
  show (keepOf F cs).getD i false = _
  unfold keepOf
  rw [d i, b i]
  have : (List.replicate F.gs.length false).getD i false = false := by
    rw [List.getD_eq_getElem?_getD, List.getElem?_replicate]; split <;> rfl
  rw [this, Bool.false_or]
theorem keep_zero {F : Font} (h : FOk F) (cs : List Int) : ktp (keepOf F cs) 0 = true := by
  rw [(keep_spec h cs).2, rch_self F 5 0 (by decide)]; rfl
theorem keep_find {F : Font} (h : FOk F) {cs : List Int} {c : Int} (hc : c ∈ cs) : ktp (keepOf F cs) (find F c).toNat = true := by
  rw [(keep_spec h cs).2, Bool.or_eq_true, List.any_eq_true]
  exact Or.inr ⟨c, hc, rch_self F 5 _ (by decide)⟩
theorem keep_closed {F : Font} (h : FOk F) {cs : List Int} {g : Nat} (hg : ktp (keepOf F cs) g = true) {p : Part} (hp : p ∈ (gl F g).ps) : ktp (keepOf F cs) p.g.toNat = true := by
  rw [(keep_spec h cs).2, Bool.or_eq_true, List.any_eq_true] at hg ⊢
  rcases hg with hg | ⟨c, hc, hg⟩
  · exact Or.inl (rch_closed h 5 0 g h.n0 (rk_facts h 0 h.n0).1 hg p hp)
  · exact Or.inr ⟨c, hc, rch_closed h 5 _ g (find_nat h c).2 (rk_facts h _ (find_nat h c).2).1 hg p hp⟩
theorem gl_sub {F : Font} {cs : List Int} {g : Nat} (hg : ktp (keepOf F cs) g = true) : gl (subF F cs) (num (keepOf F cs) g) = newGl (keepOf F cs) (gl F g) := by
  show ((oldOf (keepOf F cs)).map fun g => newGl (keepOf F cs) (gl F g)).getD (num (keepOf F cs) g) default = _
  rw [List.getD_eq_getElem?_getD, List.getElem?_map, (num_old hg).1]
  rfl
theorem gs_sub (F : Font) (cs : List Int) : (subF F cs).gs.length = (oldOf (keepOf F cs)).length := by
  show ((oldOf (keepOf F cs)).map _).length = _
  rw [List.length_map]
theorem any_ext {α : Type} {p q : α → Bool} : ∀ {l : List α}, (∀ a ∈ l, p a = q a) → l.any p = l.any q
  | [], _ => rfl
  | a :: l, h => by rw [List.any_cons, List.any_cons, h a (by simp), any_ext fun b hb => h b (by simp [hb])]
theorem rch_sub {F : Font} (h : FOk F) {cs : List Int} : ∀ (f g i : Nat), ktp (keepOf F cs) g = true → ktp (keepOf F cs) i = true → rch (subF F cs) f (num (keepOf F cs) g) (num (keepOf F cs) i) = rch F f g i
  | 0, _, _, _, _ => rfl
  | f + 1, g, i, hg, hi => by
    simp only [rch]
    rw [gl_sub hg]
    have h1 : decide (num (keepOf F cs) i = num (keepOf F cs) g) = decide (i = g) := by
      by_cases e : i = g
      · subst e; simp
      · rw [decide_eq_false e, decide_eq_false fun e2 => e (num_inj hi hg e2)]
    rw [h1]
    congr 1
    show ((gl F g).ps.map _).any _ = _
    rw [List.any_map]
    refine any_ext fun p hp => ?_
    show rch (subF F cs) f ((num (keepOf F cs) p.g.toNat : Int)).toNat (num (keepOf F cs) i) = _
    rw [Int.toNat_natCast]
    exact rch_sub h f p.g.toNat i (keep_closed h hg hp) hi
theorem find_sub {F : Font} {codes cs : List Int} (hS : FOk (subF F cs)) (hc : Cs F codes cs) {c : Int} (h : c ∈ codes) : find (subF F cs) c = num (keepOf F cs) (find F c).toNat := by
  have hv := cov_map cs fun c => (num (keepOf F cs) (find F c).toNat : Int)
  by_cases hm : c ∈ cs
  · obtain ⟨i, hi, h1, h2⟩ := (hv.mem c).1 hm
    rw [find_cov hS (i := i) hi h1 h2]
    exact hv.val i hi c h1 h2
  · have h0 : find F c = 0 := by
      by_cases e : find F c = 0
      · exact e
      · exact absurd ((hc.mem c).2 ⟨h, e⟩) hm
    rw [find_none (F := subF F cs) fun i hi e => hm ((hv.mem c).2 ⟨i, hi, e.1, e.2⟩), h0]
    show (0 : Int) = (num (keepOf F cs) 0 : Nat)
    rw [num_zero]; rfl
theorem kept_code {F : Font} (h : FOk F) {codes cs : List Int} (hc : Cs F codes cs) {c : Int} (hm : c ∈ codes) : ktp (keepOf F cs) (find F c).toNat = true := by
  by_cases e : find F c = 0
  · rw [e]; exact keep_zero h cs
  · exact keep_find h ((hc.mem c).2 ⟨hm, e⟩)
theorem cs_sub {F : Font} (h : FOk F) {codes cs : List Int} (hS : FOk (subF F cs)) (hc : Cs F codes cs) : Cs (subF F cs) codes cs := by
  refine ⟨hc.inc, fun c => ?_⟩
  rw [hc.mem c]
  constructor
  · rintro ⟨a, b⟩
    refine ⟨a, ?_⟩
    rw [find_sub hS hc a]
    have := num_pos (keep_zero h cs) (kept_code h hc a) (by have := (find_nat h c).1; omega)
    omega
  · rintro ⟨a, b⟩
    refine ⟨a, fun e => b ?_⟩
    rw [find_sub hS hc a, e]
    show ((num (keepOf F cs) 0 : Nat) : Int) = 0
    rw [num_zero]; rfl
theorem keep_all {F : Font} (h : FOk F) {codes cs : List Int} (hS : FOk (subF F cs)) (hc : Cs F codes cs) {j : Nat} (hj : j < (subF F cs).gs.length) : ktp (keepOf (subF F cs) cs) j = true := by
  rw [gs_sub] at hj
  obtain ⟨g, hg⟩ : ∃ g, (oldOf (keepOf F cs))[j]? = some g := ⟨_, List.getElem?_eq_getElem hj⟩
  obtain ⟨a, b⟩ := old_num hg
  have h0 := rch_sub h (cs := cs) 5 0 g (keep_zero h cs) a
  rw [num_zero, b] at h0
  rw [(keep_spec hS cs).2, h0]
  have a2 := a
  rw [(keep_spec h cs).2, Bool.or_eq_true, List.any_eq_true] at a2
  rw [Bool.or_eq_true, List.any_eq_true]
  rcases a2 with a2 | ⟨c, hm, a2⟩
  · exact Or.inl a2
  · refine Or.inr ⟨c, hm, ?_⟩
    rw [find_sub hS hc ((hc.mem c).1 hm).1, Int.toNat_natCast, ← b, rch_sub h 5 _ g (keep_find h hm) a]
    exact a2
theorem filter_all {α : Type} {p : α → Bool} {l : List α} (h : ∀ a ∈ l, p a = true) : l.filter p = l := List.filter_eq_self.2 h
theorem keptTo_all {K : List Bool} : ∀ {n : Nat}, (∀ i, i < n → ktp K i = true) → keptTo K n = List.range n := fun h => filter_all fun i hi => h i (by simpa using hi)
theorem num_all {K : List Bool} {g : Nat} (h : ∀ i, i ≤ g → ktp K i = true) : num K g = g := by
  unfold num
  rw [if_pos (h g (Nat.le_refl _)), keptTo_all fun i hi => h i (by omega), List.length_range]
theorem foldl_ext {α β : Type} {f g : β → α → β} : ∀ {l : List α} {b : β}, (∀ b, ∀ a ∈ l, f b a = g b a) → l.foldl f b = l.foldl g b
  | [], _, _ => rfl
  | a :: l, b, h => by rw [List.foldl_cons, List.foldl_cons, h b a (by simp)]; exact foldl_ext fun b c hc => h b c (by simp [hc])
theorem kp_mem {F : Font} {k : Kp} (h : k ∈ F.kern) : ∃ i, i < F.kern.length ∧ kp F i = k := by
  obtain ⟨i, hi, e⟩ := List.getElem_of_mem h
  exact ⟨i, hi, by unfold kp; rw [List.getD_eq_getElem?_getD, List.getElem?_eq_getElem hi]; exact e⟩
theorem kern_ok {F : Font} (h : FOk F) {k : Kp} (hk : k ∈ F.kern) : KpOk k F.gs.length := by
  obtain ⟨i, hi, e⟩ := kp_mem hk
  rw [← e]; exact kp_ok (h.kn i hi)
theorem gl_mem {F : Font} {x : Gl} (h : x ∈ F.gs) : ∃ i, i < F.gs.length ∧ gl F i = x := by
  obtain ⟨i, hi, e⟩ := List.getElem_of_mem h
  exact ⟨i, hi, by unfold gl; rw [List.getD_eq_getElem?_getD, List.getElem?_eq_getElem hi]; exact e⟩
/-- The subset of a subset is the subset. -/
theorem sub_sub {F : Font} (h : FOk F) {codes cs : List Int} (hS : FOk (subF F cs)) (hc : Cs F codes cs) : subF (subF F cs) cs = subF F cs ∧ oldOf (keepOf (subF F cs) cs) = List.range (subF F cs).gs.length := by
  have hall := fun j hj => keep_all h hS hc (j := j) hj
  have hlen := (keep_spec hS cs).1
  have hnum : ∀ g, g < (subF F cs).gs.length → num (keepOf (subF F cs) cs) g = g := fun g hg => num_all fun i hi => hall i (by omega)
  have hold : oldOf (keepOf (subF F cs) cs) = List.range (subF F cs).gs.length := by
    unfold oldOf; rw [hlen]; exact keptTo_all hall
  refine ⟨?_, hold⟩
  have e1 : ((oldOf (keepOf (subF F cs) cs)).map fun g => newGl (keepOf (subF F cs) cs) (gl (subF F cs) g)) = (subF F cs).gs := by
    rw [hold]
    refine List.ext_getElem (by simp) fun i h1 h2 => ?_
    rw [List.getElem_map, List.getElem_range]
    have e : gl (subF F cs) i = (subF F cs).gs[i] := by unfold gl; rw [List.getD_eq_getElem?_getD, List.getElem?_eq_getElem h2]; rfl
    rw [← e]
    have hp := hS.parts i
    generalize gl (subF F cs) i = X at hp ⊢
    obtain ⟨a, c, ps⟩ := X
    unfold newGl
    congr 1
    show List.map _ ps = ps
    refine (List.map_congr_left fun p hp' => ?_).trans (List.map_id ps)
    have := hp p hp'
    rw [hnum _ this.2]
    obtain ⟨g, x, y⟩ := p
    show Part.mk _ _ _ = Part.mk _ _ _
    congr 1
    have := this.1
    dsimp only at this ⊢
    omega
  have e2 : mapOf cs (fun c => (num (keepOf (subF F cs) cs) (find (subF F cs) c).toNat : Int)) = (subF F cs).map := by
    show cs.foldl _ _ = cs.foldl _ _
    refine foldl_ext fun m c hm => ?_
    dsimp only
    rw [hnum _ (find_nat hS c).2, (find_nat hS c).1, find_sub hS hc ((hc.mem c).1 hm).1]
  have e3 : (((subF F cs).kern.filter (kpk (keepOf (subF F cs) cs))).map (newKp (keepOf (subF F cs) cs))) = (subF F cs).kern := by
    have hk := fun k hk => kern_ok hS (k := k) hk
    rw [filter_all fun k hm => by
      have ho := hk k hm
      unfold kpk
      rw [hall _ (by have := ho.l0; have := ho.l1; omega), hall _ (by have := ho.r0; have := ho.r1; omega)]; rfl]
    refine (List.map_congr_left fun k hm => ?_).trans (List.map_id _)
    have := hk k hm
    obtain ⟨l, r, b⟩ := k
    obtain ⟨l0, l1, r0, r1, _, _, _⟩ := this
    dsimp only at l0 l1 r0 r1
    unfold newKp
    dsimp only
    rw [hnum _ (by omega), hnum _ (by omega), Int.toNat_of_nonneg l0, Int.toNat_of_nonneg r0]
    rfl
  show Font.mk _ _ _ _ = _
  rw [e1, e2, e3]
/-! Shifts and places. -/
theorem btw_hit {F : Font} (h : FOk F) {k : Kp} (hk : k ∈ F.kern) : btw F k.l k.r = k.by_ := by
  obtain ⟨i, hi, rfl⟩ := kp_mem hk
  rw [← btw_last h]
  refine lastBy_one ⟨rfl, rfl⟩ _ hi fun t h1 h2 e => ?_
  have := kern_mono h (t - i - 1) i (by omega)
  rw [show i + (t - i - 1) + 1 = t by omega, pairC_lt] at this
  omega
theorem btw_none {F : Font} (h : FOk F) {a b : Int} (hk : ∀ k ∈ F.kern, ¬ (k.l = a ∧ k.r = b)) : btw F a b = 0 := by
  rw [← btw_last h]
  refine lastBy_none _ fun t ht => hk _ ?_
  unfold kp
  rw [List.getD_eq_getElem?_getD, List.getElem?_eq_getElem ht]
  exact List.getElem_mem ht
theorem btw_sub {F : Font} (h : FOk F) {cs : List Int} (hS : FOk (subF F cs)) {a b : Nat} (ha : ktp (keepOf F cs) a = true) (hb : ktp (keepOf F cs) b = true) :
    btw (subF F cs) (num (keepOf F cs) a) (num (keepOf F cs) b) = btw F a b := by
  by_cases hx : ∃ k ∈ F.kern, k.l = (a : Int) ∧ k.r = (b : Int)
  · obtain ⟨k, hk, h1, h2⟩ := hx
    have hm : newKp (keepOf F cs) k ∈ (subF F cs).kern := by
      show _ ∈ (F.kern.filter _).map _
      refine List.mem_map.2 ⟨k, List.mem_filter.2 ⟨hk, ?_⟩, rfl⟩
      unfold kpk
      rw [h1, h2, Int.toNat_natCast, Int.toNat_natCast, ha, hb]; rfl
    have e1 := btw_hit hS hm
    have e2 := btw_hit h hk
    unfold newKp at e1
    dsimp only at e1
    rw [h1, h2, Int.toNat_natCast, Int.toNat_natCast] at e1
    rw [h1, h2] at e2
    rw [e1, e2]
  · rw [btw_none h fun k hk e => hx ⟨k, hk, e⟩]
    refine btw_none hS fun k hk e => hx ?_
    obtain ⟨k0, hk0, rfl⟩ := List.mem_map.1 (show k ∈ (F.kern.filter _).map _ from hk)
    obtain ⟨hk1, hk2⟩ := List.mem_filter.1 hk0
    unfold kpk at hk2
    rw [Bool.and_eq_true] at hk2
    have ho := kern_ok h hk1
    refine ⟨k0, hk1, ?_, ?_⟩
    · have := num_inj hk2.1 ha (by have := e.1; unfold newKp at this; dsimp only at this; omega)
      have := ho.l0; omega
    · have := num_inj hk2.2 hb (by have := e.2; unfold newKp at this; dsimp only at this; omega)
      have := ho.r0; omega
theorem gls_sub {F : Font} (h : FOk F) {codes cs : List Int} (hS : FOk (subF F cs)) (hc : Cs F codes cs) {j : Nat} (hj : j < codes.length) : ∃ g : Nat, ktp (keepOf F cs) g = true ∧ (gls F codes).getD j 0 = (g : Int) ∧ (gls (subF F cs) codes).getD j 0 = (num (keepOf F cs) g : Int) := by
  have hm : codes.getD j 0 ∈ codes := by rw [List.getD_eq_getElem?_getD, List.getElem?_eq_getElem hj]; exact List.getElem_mem hj
  refine ⟨(find F (codes.getD j 0)).toNat, kept_code h hc hm, ?_, ?_⟩
  · rw [gls_get F codes hj, (find_nat h _).1]
  · rw [gls_get _ codes hj, find_sub hS hc hm]
theorem adv_sub {F : Font} {cs : List Int} {g : Nat} (hg : ktp (keepOf F cs) g = true) : adv (subF F cs) (num (keepOf F cs) g) = adv F g := by
  unfold adv
  rw [Int.toNat_natCast, Int.toNat_natCast, gl_sub hg]; rfl
theorem shift_sub {F : Font} (h : FOk F) {codes cs : List Int} (hS : FOk (subF F cs)) (hc : Cs F codes cs) {i : Nat} (hi : i < codes.length) :
    (if i = 0 then 0 else btw (subF F cs) ((gls (subF F cs) codes).getD (i - 1) 0) ((gls (subF F cs) codes).getD i 0)) = (if i = 0 then 0 else btw F ((gls F codes).getD (i - 1) 0) ((gls F codes).getD i 0)) := by
  by_cases h0 : i = 0
  · rw [if_pos h0, if_pos h0]
  · rw [if_neg h0, if_neg h0]
    obtain ⟨a, a1, a2, a3⟩ := gls_sub h hS hc (j := i - 1) (by omega)
    obtain ⟨b, b1, b2, b3⟩ := gls_sub h hS hc hi
    rw [a2, a3, b2, b3]
    exact btw_sub h hS a1 b1
theorem wid_sub {F : Font} (h : FOk F) {codes cs : List Int} (hS : FOk (subF F cs)) (hc : Cs F codes cs) : ∀ i, i ≤ codes.length → wid (subF F cs) (gls (subF F cs) codes) i = wid F (gls F codes) i
  | 0, _ => rfl
  | i + 1, hi => by
    simp only [wid]
    rw [wid_sub h hS hc i (by omega), shift_sub h hS hc (by omega)]
    obtain ⟨b, b1, b2, b3⟩ := gls_sub h hS hc (j := i) (by omega)
    rw [b2, b3, adv_sub b1]
theorem pla_sub {F : Font} (h : FOk F) {codes cs : List Int} (hS : FOk (subF F cs)) (hc : Cs F codes cs) {i : Nat} (hi : i < codes.length) : pla (subF F cs) (gls (subF F cs) codes) i = pla F (gls F codes) i := by
  unfold pla
  rw [wid_sub h hS hc i (by omega), shift_sub h hS hc hi]
/-! Outlines. -/
def shiftC (x y : Int) (c : List Pt) : List Pt := c.map fun p => ⟨p.x + x, p.y + y, p.on⟩
def outl (F : Font) : Nat → Nat → Int → Int → List (List Pt)
  | 0, _, _, _ => []
  | f + 1, g, x, y => (gl F g).cs.map (shiftC x y) ++ (gl F g).ps.flatMap fun p => outl F f p.g.toNat (x + p.x) (y + p.y)
theorem flatMap_ext {α β : Type} {f g : α → List β} : ∀ {l : List α}, (∀ a ∈ l, f a = g a) → l.flatMap f = l.flatMap g
  | [], _ => rfl
  | a :: l, h => by rw [List.flatMap_cons, List.flatMap_cons, h a (by simp), flatMap_ext fun b hb => h b (by simp [hb])]
theorem outl_sub {F : Font} (h : FOk F) {cs : List Int} : ∀ (f g : Nat) (x y : Int), ktp (keepOf F cs) g = true → outl (subF F cs) f (num (keepOf F cs) g) x y = outl F f g x y
  | 0, _, _, _, _ => rfl
  | f + 1, g, x, y, hg => by
    simp only [outl]
    rw [gl_sub hg]
    show (gl F g).cs.map _ ++ ((gl F g).ps.map _).flatMap _ = _
    rw [List.flatMap_map]
    congr 1
    refine flatMap_ext fun p hp => ?_
    show outl (subF F cs) f ((num (keepOf F cs) p.g.toNat : Int)).toNat _ _ = _
    rw [Int.toNat_natCast]
    exact outl_sub h f p.g.toNat _ _ (keep_closed h hg hp)
end Fnt
end Go.Proofs.YtefkglmdkjkbiaaDoor
