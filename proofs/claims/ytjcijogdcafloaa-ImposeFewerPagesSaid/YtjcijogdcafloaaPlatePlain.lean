/- Pages on a plate as pictures, plain law: with fewer pages, the plate is that with empty pages at the end. No program is in sight here. -/
import Derived.Test.YtjcijogdcafloaaMarkPlain
namespace Go.Proofs.Ytjcijogdcafloaa
/-- A picture asked pixel by pixel. -/
def bldL (W H : Nat) (f : Nat → Nat → UInt8) : List UInt8 := (List.range (W * H)).map fun i => f (i % W) (i / W)
theorem bldL_length (W H : Nat) (f : Nat → Nat → UInt8) : (bldL W H f).length = W * H := by simp [bldL]
theorem bldL_get {W H : Nat} (f : Nat → Nat → UInt8) {i : Nat} (h : i < W * H) : pixN (bldL W H f) i = f (i % W) (i / W) := by
  unfold pixN bldL
  rw [List.getD_eq_getElem?_getD, List.getElem?_map, List.getElem?_range h]; rfl
/-- A picture turned by quarter turns, clockwise. -/
def trnL (W H : Nat) (g : List UInt8) (k : Nat) : List UInt8 :=
  if k = 1 then bldL H W fun x y => pixN g ((H - 1 - x) * W + y)
  else if k = 2 then bldL W H fun x y => pixN g ((H - 1 - y) * W + W - 1 - x)
  else if k = 3 then bldL H W fun x y => pixN g (x * W + W - 1 - y) else g
theorem trnL_length {W H : Nat} {g : List UInt8} (hg : g.length = W * H) (k : Nat) : (trnL W H g k).length = W * H := by
  unfold trnL
  split
  · rw [bldL_length, Nat.mul_comm]
  · split
    · rw [bldL_length]
    · split
      · rw [bldL_length, Nat.mul_comm]
      · exact hg
theorem pixN_zero (n i : Nat) : pixN (List.replicate n 0) i = 0 := by
  unfold pixN; rw [List.getD_eq_getElem?_getD, List.getElem?_replicate]; split <;> rfl
theorem trnL_zero (W H : Nat) (k i : Nat) : pixN (trnL W H (List.replicate (W * H) 0) k) i = 0 := by
  have key : ∀ A B (f : Nat → Nat → UInt8), (∀ x y, f x y = 0) → pixN (bldL A B f) i = 0 := by
    intro A B f hf
    unfold pixN bldL
    rw [List.getD_eq_getElem?_getD, List.getElem?_map]
    cases (List.range (A * B))[i]? with
    | none => rfl
    | some v => simp [hf]
  unfold trnL
  split
  · exact key _ _ _ fun _ _ => pixN_zero _ _
  · split
    · exact key _ _ _ fun _ _ => pixN_zero _ _
    · split
      · exact key _ _ _ fun _ _ => pixN_zero _ _
      · exact pixN_zero _ _
/-- A page's picture in the list of pages. -/
def pcN (pages : List (List UInt8)) (i : Nat) : List UInt8 := pages.getD i []
/-- One more page on the plate. -/
def Lay.pg1 (L : Lay) (PW PH : Nat) (pages : List (List UInt8)) (img : List UInt8) (p : Pla) : List UInt8 :=
  pasL PW PH img p.x p.y (L.bw p.turn).toNat (L.bh p.turn).toNat (trnL L.W.toNat L.H.toNat (pcN pages (p.page - 1).toNat) p.turn.toNat)
def Lay.pgs (L : Lay) (PW PH : Nat) (pages : List (List UInt8)) (img : List UInt8) (l : List Pla) : List UInt8 := l.foldl (L.pg1 PW PH pages) img
theorem pg1_length (L : Lay) (PW PH : Nat) (pages : List (List UInt8)) (img : List UInt8) (p : Pla) : (L.pg1 PW PH pages img p).length = PW * PH := by
  unfold Lay.pg1 pasL; exact pasTo_length ..
theorem pgs_snoc (L : Lay) (PW PH : Nat) (pages : List (List UInt8)) (img : List UInt8) (l : List Pla) (p : Pla) : L.pgs PW PH pages img (l ++ [p]) = L.pg1 PW PH pages (L.pgs PW PH pages img l) p := by
  unfold Lay.pgs; rw [List.foldl_append]; rfl
theorem pgs_append (L : Lay) (PW PH : Nat) (pages : List (List UInt8)) (img : List UInt8) (l m : List Pla) : L.pgs PW PH pages img (l ++ m) = L.pgs PW PH pages (L.pgs PW PH pages img l) m := by
  unfold Lay.pgs; rw [List.foldl_append]
theorem pgs_length (L : Lay) (PW PH : Nat) (pages : List (List UInt8)) (img : List UInt8) (h : img.length = PW * PH) (l : List Pla) : (L.pgs PW PH pages img l).length = PW * PH := by
  induction l generalizing img with
  | nil => exact h
  | cons p l ih => exact ih _ (pg1_length ..)
theorem pgs_congr (L : Lay) (PW PH : Nat) {pages pages' : List (List UInt8)} (img : List UInt8) {l : List Pla} (h : ∀ p ∈ l, pcN pages (p.page - 1).toNat = pcN pages' (p.page - 1).toNat) : L.pgs PW PH pages img l = L.pgs PW PH pages' img l := by
  induction l generalizing img with
  | nil => rfl
  | cons p l ih =>
    unfold Lay.pgs
    rw [List.foldl_cons, List.foldl_cons]
    have e : L.pg1 PW PH pages img p = L.pg1 PW PH pages' img p := by unfold Lay.pg1; rw [h p (by simp)]
    rw [e]
    exact ih _ fun q hq => h q (by simp [hq])
/-- A placed page has the pixel i. -/
def Lay.hasP (L : Lay) (PW : Nat) (p : Pla) (i : Nat) : Prop := p.x ≤ (i % PW : Nat) ∧ ((i % PW : Nat) : Int) < p.x + L.bw p.turn ∧ p.y ≤ (i / PW : Nat) ∧ ((i / PW : Nat) : Int) < p.y + L.bh p.turn
theorem pg1_other {L : Lay} (hb : ∀ t, 0 ≤ L.bw t ∧ 0 ≤ L.bh t) {PW PH : Nat} (pages : List (List UInt8)) (img : List UInt8) (p : Pla) {i : Nat} (hi : i < PW * PH) (h : ¬ L.hasP PW p i) : pixN (L.pg1 PW PH pages img p) i = pixN img i := by
  unfold Lay.pg1 pasL
  rw [pasTo_get _ _ _ _ _ _ hi, if_neg]
  obtain ⟨h1, h2⟩ := hb p.turn
  unfold Lay.hasP at h
  omega
theorem pg1_zero {L : Lay} (hb : ∀ t, 0 ≤ L.bw t ∧ 0 ≤ L.bh t) {PW PH : Nat} {pages : List (List UInt8)} {img : List UInt8} (p : Pla) (hl : img.length = PW * PH) (hz : pcN pages (p.page - 1).toNat = List.replicate (L.W.toNat * L.H.toNat) 0) (h : ∀ i, i < PW * PH → L.hasP PW p i → pixN img i = 0) : L.pg1 PW PH pages img p = img := by
  apply pixN_ext (by rw [pg1_length, hl])
  intro i hi
  rw [pg1_length] at hi
  by_cases hc : L.hasP PW p i
  · rw [h i hi hc]
    unfold Lay.pg1 pasL
    rw [pasTo_get _ _ _ _ _ _ hi]
    split
    · rw [hz]; exact trnL_zero _ _ _ _
    · exact h i hi hc
  · exact pg1_other hb pages img p hi hc
theorem pgs_other {L : Lay} (hb : ∀ t, 0 ≤ L.bw t ∧ 0 ≤ L.bh t) {PW PH : Nat} (pages : List (List UInt8)) (img : List UInt8) {l : List Pla} {i : Nat} (hi : i < PW * PH) (h : ∀ p ∈ l, ¬ L.hasP PW p i) : pixN (L.pgs PW PH pages img l) i = pixN img i := by
  induction l generalizing img with
  | nil => rfl
  | cons p l ih =>
    unfold Lay.pgs
    rw [List.foldl_cons]
    exact (ih _ fun q hq => h q (by simp [hq])).trans (pg1_other hb pages img p hi (h p (by simp)))
/-- Empty pages change nothing where nothing lies. -/
theorem pgs_zero {L : Lay} (hb : ∀ t, 0 ≤ L.bw t ∧ 0 ≤ L.bh t) {PW PH : Nat} {pages : List (List UInt8)} {img : List UInt8} {l : List Pla} (hl : img.length = PW * PH) (hz : ∀ p ∈ l, pcN pages (p.page - 1).toNat = List.replicate (L.W.toNat * L.H.toNat) 0) (h : ∀ p ∈ l, ∀ i, i < PW * PH → L.hasP PW p i → pixN img i = 0) : L.pgs PW PH pages img l = img := by
  induction l with
  | nil => rfl
  | cons p l ih =>
    unfold Lay.pgs
    rw [List.foldl_cons, pg1_zero hb p hl (hz p (by simp)) (h p (by simp))]
    exact ih (fun q hq => hz q (by simp [hq])) fun q hq => h q (by simp [hq])
end Go.Proofs.Ytjcijogdcafloaa
