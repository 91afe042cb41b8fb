/- The bytes of a font and its first error, in plain words. -/
import Derived.Test.YtefkglmdkjkbiaaDoorFntPlain
import Derived.Test.YtefkglmdkjkbiaaDoorCrcPlain
namespace Go.Proofs.YtefkglmdkjkbiaaDoor
namespace Fnt
/-- A number of b bytes, the most significant one first. -/
def be (b : Nat) (n : Int) : List UInt8 := (List.range b).map fun i => UInt8.ofNat (n / 2 ^ (8 * (b - 1 - i)) % 256).toNat
theorem be_length (b : Nat) (n : Int) : (be b n).length = b := by simp [be]
def bit (b : Bool) : Int := if b then 1 else 0
def wPt (p : Pt) : List UInt8 := be 1 (bit p.on) ++ (be 2 p.x ++ be 2 p.y)
def wCon (c : List Pt) : List UInt8 := be 1 c.length ++ c.flatMap wPt
def wPart (p : Part) : List UInt8 := be 1 p.g ++ (be 2 p.x ++ be 2 p.y)
def wGl (g : Gl) : List UInt8 := be 2 g.adv ++ (be 1 g.cs.length ++ be 1 g.ps.length) ++ g.cs.flatMap wCon ++ g.ps.flatMap wPart
def wRg (m : Rg) : List UInt8 := (be 3 m.lo ++ be 3 m.hi) ++ be 1 m.g
def wKp (k : Kp) : List UInt8 := (be 1 k.l ++ be 1 k.r) ++ be 2 k.by_
def sect (t : List UInt8) : List UInt8 := be 2 t.length ++ be 4 ((Crc.sum t).toNat : Int) ++ t
def head (F : Font) : List UInt8 := [102, 111, 110, 116] ++ be 2 F.unit ++ (be 1 F.gs.length ++ (be 1 F.map.length ++ be 1 F.kern.length))
def written (F : Font) : List UInt8 := head F ++ sect (F.gs.flatMap wGl) ++ sect (F.map.flatMap wRg) ++ sect (F.kern.flatMap wKp)
/-- The glyphs one after the other: what is known behind k of them. -/
def visits (F : Font) : Nat → Int × List Nst
  | 0 => (0, List.replicate F.gs.length ⟨0, 0, 0⟩)
  | k + 1 => if (visits F k).1 = 0 then vis F (F.gs.length + 1) k (visits F k).2 else visits F k
theorem visits_late (F : Font) {k : Nat} (h : (visits F k).1 ≠ 0) (m : Nat) : visits F (k + m) = visits F k := by
  induction m with
  | zero => rfl
  | succ m ih => rw [← Nat.add_assoc]; simp [visits, ih, h]
theorem visits_keeps (F : Font) (k : Nat) : (visits F k).2.length = F.gs.length := by
  induction k with
  | zero => simp [visits]
  | succ k ih =>
    simp only [visits]
    split
    · rw [(vis_keeps F _ _ _).1, ih]
    · exact ih
theorem visits_bd {F : Font} (hF : ∀ g, own (gl F g) ≤ 1048576) (k : Nat) : Bd (visits F k).2 := by
  induction k with
  | zero =>
    intro i
    have : nst (List.replicate F.gs.length ⟨0, 0, 0⟩) i = ⟨0, 0, 0⟩ := by
      unfold nst; rw [List.getD_eq_getElem?_getD, List.getElem?_replicate]; split <;> rfl
    simp [visits, this]
  | succ k ih =>
    simp only [visits]
    split
    · exact vis_bd hF _ _ _ ih
    · exact ih
def nestE (n : Nst) : Int := if 4 < n.dp then 15 else if 512 < n.pt then 2 else 0
def lastE (F : Font) : Int := if 4096 < (written F).length then 2 else 0
def nestsE (F : Font) : Int :=
  if (visits F F.gs.length).1 = 0 then (if scan (fun i => nestE (nst (visits F F.gs.length).2 i)) F.gs.length = 0 then lastE F else scan (fun i => nestE (nst (visits F F.gs.length).2 i)) F.gs.length)
  else (visits F F.gs.length).1
def checkE (F : Font) : Int :=
  if decide (F.unit < 16) || decide (1024 < F.unit) then 3 else if F.gs.length = 0 then 8
  else if decide (128 < F.gs.length) || (decide (64 < F.map.length) || decide (128 < F.kern.length)) then 2
  else if scan (fun i => glyphE (gl F i) F.gs.length) F.gs.length = 0 then (if tablesE F = 0 then nestsE F else tablesE F) else scan (fun i => glyphE (gl F i) F.gs.length) F.gs.length
end Fnt
end Go.Proofs.YtefkglmdkjkbiaaDoor
