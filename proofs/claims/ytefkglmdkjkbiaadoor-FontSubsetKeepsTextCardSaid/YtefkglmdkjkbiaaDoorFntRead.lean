/- Reading a font from bytes, in plain words; what is written is read. -/
import Derived.Test.YtefkglmdkjkbiaaDoorFntFok
namespace Go.Proofs.YtefkglmdkjkbiaaDoor
open Fnt
namespace Fnt
structure Up where
  s : List UInt8
  bad : Bool
deriving Inhabited
def beVal (l : List UInt8) : Int := l.foldl (fun n c => n * 256 + (c.toNat : Int)) 0
def getV (k : Nat) (u : Up) : Int := if u.s.length < k then 0 else beVal (u.s.take k)
def getU (k : Nat) (u : Up) : Up := if u.s.length < k then ⟨u.s, true⟩ else ⟨u.s.drop k, u.bad⟩
def sgn (n : Int) : Int := (n + 32768) % 65536 - 32768
def sV (u : Up) : Int := sgn (getV 2 u)
def rdPt (u : Up) : Pt := ⟨sV (getU 1 u), sV (getU 2 (getU 1 u)), getV 1 u == 1⟩
def rdPtU (u : Up) : Up := getU 2 (getU 2 (getU 1 u))
def rdPts : Nat → Up → List Pt × Up
  | 0, u => ([], u)
  | n + 1, u => if u.bad then ([], u) else (rdPt u :: (rdPts n (rdPtU u)).1, (rdPts n (rdPtU u)).2)
def rdCon (u : Up) : List Pt × Up := rdPts (getV 1 u).toNat (getU 1 u)
def rdCons : Nat → Up → List (List Pt) × Up
  | 0, u => ([], u)
  | n + 1, u => if u.bad then ([], u) else ((rdCon u).1 :: (rdCons n (rdCon u).2).1, (rdCons n (rdCon u).2).2)
def rdPa (u : Up) : Part := ⟨getV 1 u, sV (getU 1 u), sV (getU 2 (getU 1 u))⟩
def rdPas : Nat → Up → List Part × Up
  | 0, u => ([], u)
  | n + 1, u => if u.bad then ([], u) else (rdPa u :: (rdPas n (rdPtU u)).1, (rdPas n (rdPtU u)).2)
def gl0 (u : Up) : Up := getU 1 (getU 1 (getU 2 u))
def rdGl (u : Up) : Gl × Up :=
  (⟨getV 2 u, (rdCons (getV 1 (getU 2 u)).toNat (gl0 u)).1, (rdPas (getV 1 (getU 1 (getU 2 u))).toNat (rdCons (getV 1 (getU 2 u)).toNat (gl0 u)).2).1⟩, (rdPas (getV 1 (getU 1 (getU 2 u))).toNat (rdCons (getV 1 (getU 2 u)).toNat (gl0 u)).2).2)
def rdGls : Nat → Up → List Gl × Up
  | 0, u => ([], u)
  | n + 1, u => if u.bad then ([], u) else ((rdGl u).1 :: (rdGls n (rdGl u).2).1, (rdGls n (rdGl u).2).2)
def rdRg (u : Up) : Rg := ⟨getV 3 u, getV 3 (getU 3 u), getV 1 (getU 3 (getU 3 u))⟩
def rdRgU (u : Up) : Up := getU 1 (getU 3 (getU 3 u))
def rdRgs : Nat → Up → List Rg × Up
  | 0, u => ([], u)
  | n + 1, u => if u.bad then ([], u) else (rdRg u :: (rdRgs n (rdRgU u)).1, (rdRgs n (rdRgU u)).2)
def rdKp (u : Up) : Kp := ⟨getV 1 u, getV 1 (getU 1 u), sV (getU 1 (getU 1 u))⟩
def rdKpU (u : Up) : Up := getU 2 (getU 1 (getU 1 u))
def rdKps : Nat → Up → List Kp × Up
  | 0, u => ([], u)
  | n + 1, u => if u.bad then ([], u) else (rdKp u :: (rdKps n (rdKpU u)).1, (rdKps n (rdKpU u)).2)
def u1 (u : Up) : Up := getU 2 u
def u2 (u : Up) : Up := getU 1 (u1 u)
def u3 (u : Up) : Up := getU 1 (u2 u)
def u4 (u : Up) : Up := getU 1 (u3 u)
def uG (u : Up) : Up := getU 6 (u4 u)
def rG (u : Up) : List Gl × Up := rdGls (getV 1 (u1 u)).toNat (uG u)
def rM (u : Up) : List Rg × Up := rdRgs (getV 1 (u2 u)).toNat (getU 6 (rG u).2)
def rK (u : Up) : List Kp × Up := rdKps (getV 1 (u3 u)).toNat (getU 6 (rM u).2)
/-- What is read behind the first four bytes. -/
def rdFont (u : Up) : Font := ⟨getV 2 u, (rG u).1, (rM u).1, (rK u).1⟩
def rdBad (u : Up) : Bool := (rK u).2.bad
/-! What is written is read. -/
theorem be1 (n : Int) : be 1 n = [UInt8.ofNat (n % 256).toNat] := by simp [be, List.range_succ]
theorem be2 (n : Int) : be 2 n = [UInt8.ofNat (n / 256 % 256).toNat, UInt8.ofNat (n % 256).toNat] := by simp [be, List.range_succ]
theorem be3 (n : Int) : be 3 n = [UInt8.ofNat (n / 65536 % 256).toNat, UInt8.ofNat (n / 256 % 256).toNat, UInt8.ofNat (n % 256).toNat] := by simp [be, List.range_succ]
theorem u8i (x : Int) : ((UInt8.ofNat (x % 256).toNat).toNat : Int) = x % 256 := by rw [UInt8.toNat_ofNat']; omega
theorem getV_app (k : Nat) (l r : List UInt8) (b : Bool) (h : l.length = k) : getV k ⟨l ++ r, b⟩ = beVal l := by
  unfold getV; rw [if_neg (by simp; omega), List.take_append_of_le_length (by omega), List.take_of_length_le (by omega)]
theorem getU_app (k : Nat) (l r : List UInt8) (b : Bool) (h : l.length = k) : getU k ⟨l ++ r, b⟩ = ⟨r, b⟩ := by
  unfold getU; rw [if_neg (by simp; omega)]
  subst h; simp
theorem get1 {n : Int} (h0 : 0 ≤ n) (h1 : n < 256) (r : List UInt8) (b : Bool) : getV 1 ⟨be 1 n ++ r, b⟩ = n := by
  rw [getV_app 1 _ r b (be_length _ _), be1]; simp only [beVal, List.foldl, u8i]; omega
theorem get2 {n : Int} (h0 : 0 ≤ n) (h1 : n < 65536) (r : List UInt8) (b : Bool) : getV 2 ⟨be 2 n ++ r, b⟩ = n := by
  rw [getV_app 2 _ r b (be_length _ _), be2]; simp only [beVal, List.foldl, u8i]; omega
theorem get3 {n : Int} (h0 : 0 ≤ n) (h1 : n < 16777216) (r : List UInt8) (b : Bool) : getV 3 ⟨be 3 n ++ r, b⟩ = n := by
  rw [getV_app 3 _ r b (be_length _ _), be3]; simp only [beVal, List.foldl, u8i]; omega
theorem get2s {n : Int} (h0 : -32768 ≤ n) (h1 : n < 32768) (r : List UInt8) (b : Bool) : sV ⟨be 2 n ++ r, b⟩ = n := by
  unfold sV sgn
  rw [getV_app 2 _ r b (be_length _ _), be2]; simp only [beVal, List.foldl, u8i]; omega
theorem getUb (k : Nat) (n : Int) (r : List UInt8) (b : Bool) : getU k ⟨be k n ++ r, b⟩ = ⟨r, b⟩ := getU_app k _ r b (be_length _ _)
def PtOk (p : Pt) : Prop := far p.x = false ∧ far p.y = false
theorem ptE_ok {l : List Pt} (h : scan (ptE l) l.length = 0) : ∀ p ∈ l, PtOk p := fun p hp => by
  obtain ⟨i, hi, rfl⟩ := List.mem_iff_getElem.1 hp
  have h1 := scan_zero.1 h i hi
  unfold ptE at h1
  split at h1
  · omega
  · rename_i h2
    simp only [pt, List.getD_eq_getElem?_getD, List.getElem?_eq_getElem hi, Option.getD_some, Bool.or_eq_true, not_or, Bool.not_eq_true] at h2
    exact h2
theorem rd_pt {p : Pt} (h : PtOk p) (r : List UInt8) (b : Bool) : rdPt ⟨wPt p ++ r, b⟩ = p ∧ rdPtU ⟨wPt p ++ r, b⟩ = ⟨r, b⟩ := by
  have hx := far_bd h.1
  have hy := far_bd h.2
  obtain ⟨x, y, on⟩ := p
  dsimp only at hx hy
  unfold rdPt rdPtU wPt
  dsimp only
  simp only [List.append_assoc, getUb]
  rw [get2s (by omega) (by omega), get2s (by omega) (by omega), get1 (by cases on <;> decide) (by cases on <;> decide)]
  cases on <;> simp [bit]
theorem rd_pts {l : List Pt} (h : ∀ p ∈ l, PtOk p) (r : List UInt8) : rdPts l.length ⟨l.flatMap wPt ++ r, false⟩ = (l, ⟨r, false⟩) := by
  induction l with
  | nil => rfl
  | cons p l ih =>
    have h1 := rd_pt (h p (by simp)) (l.flatMap wPt ++ r) false
    simp only [List.length_cons, List.flatMap_cons, rdPts, List.append_assoc]
    rw [h1.1, h1.2, ih fun q hq => h q (by simp [hq])]
    rfl
theorem rd_con {c : List Pt} (h : contourE c = 0) (r : List UInt8) : rdCon ⟨wCon c ++ r, false⟩ = (c, ⟨r, false⟩) := by
  have hc := contour_ok h
  unfold rdCon wCon
  rw [List.append_assoc, get1 (by omega) (by omega), getUb, Int.toNat_natCast]
  exact rd_pts (ptE_ok hc.2.2.2) r
theorem rd_cons {cs : List (List Pt)} (h : ∀ c ∈ cs, contourE c = 0) (r : List UInt8) : rdCons cs.length ⟨cs.flatMap wCon ++ r, false⟩ = (cs, ⟨r, false⟩) := by
  induction cs with
  | nil => rfl
  | cons c cs ih =>
    have h1 := rd_con (h c (by simp)) (cs.flatMap wCon ++ r)
    simp only [List.length_cons, List.flatMap_cons, rdCons, List.append_assoc]
    rw [h1]
    dsimp only
    rw [ih fun q hq => h q (by simp [hq])]
    rfl
theorem rd_pas {ps : List Part} (h : ∀ p ∈ ps, 0 ≤ p.g ∧ p.g < 256 ∧ far p.x = false ∧ far p.y = false) (r : List UInt8) : rdPas ps.length ⟨ps.flatMap wPart ++ r, false⟩ = (ps, ⟨r, false⟩) := by
  induction ps with
  | nil => rfl
  | cons p ps ih =>
    obtain ⟨g0, g1, hx, hy⟩ := h p (by simp)
    replace hx := far_bd hx
    replace hy := far_bd hy
    have h1 : rdPa ⟨wPart p ++ (ps.flatMap wPart ++ r), false⟩ = p ∧ rdPtU ⟨wPart p ++ (ps.flatMap wPart ++ r), false⟩ = ⟨ps.flatMap wPart ++ r, false⟩ := by
      obtain ⟨g, x, y⟩ := p
      dsimp only at hx hy g0 g1
      unfold rdPa rdPtU wPart
      dsimp only
      simp only [List.append_assoc, getUb]
      rw [get2s (by omega) (by omega), get2s (by omega) (by omega), get1 g0 g1]
      exact ⟨rfl, trivial⟩
    simp only [List.length_cons, List.flatMap_cons, rdPas, List.append_assoc]
    rw [h1.1, h1.2, ih fun q hq => h q (by simp [hq])]
    rfl
theorem rd_gl {g : Gl} {n : Nat} (h : GlOk g n) (hn : n ≤ 128) (r : List UInt8) : rdGl ⟨wGl g ++ r, false⟩ = (g, ⟨r, false⟩) := by
  have h1 := h.adv0; have h2 := h.adv1; have h3 := h.cs; have h4 := h.ps
  unfold rdGl gl0 wGl
  simp only [List.append_assoc, getUb]
  rw [get2 (by omega) (by omega), get1 (by omega) (by omega), get1 (by omega) (by omega), Int.toNat_natCast, Int.toNat_natCast, rd_cons h.con]
  dsimp only
  rw [rd_pas fun p hp => by obtain ⟨a, b, c, d⟩ := h.par p hp; exact ⟨a, by omega, c, d⟩]
theorem rd_gls {gs : List Gl} {n : Nat} (hn : n ≤ 128) (h : ∀ g ∈ gs, GlOk g n) (r : List UInt8) : rdGls gs.length ⟨gs.flatMap wGl ++ r, false⟩ = (gs, ⟨r, false⟩) := by
  induction gs with
  | nil => rfl
  | cons g gs ih =>
    have h1 := rd_gl (h g (by simp)) hn (gs.flatMap wGl ++ r)
    simp only [List.length_cons, List.flatMap_cons, rdGls, List.append_assoc]
    rw [h1]
    dsimp only
    rw [ih fun q hq => h q (by simp [hq])]
    rfl
theorem rd_rgs {ms : List Rg} {n : Nat} (hn : n ≤ 128) (h : ∀ m ∈ ms, RgOk m n) (r : List UInt8) : rdRgs ms.length ⟨ms.flatMap wRg ++ r, false⟩ = (ms, ⟨r, false⟩) := by
  induction ms with
  | nil => rfl
  | cons m ms ih =>
    have ho := h m (by simp)
    have y0 := ho.lo0; have y1 := ho.le; have y2 := ho.hi1; have y3 := ho.g0; have y4 := ho.g1
    have h1 : rdRg ⟨wRg m ++ (ms.flatMap wRg ++ r), false⟩ = m ∧ rdRgU ⟨wRg m ++ (ms.flatMap wRg ++ r), false⟩ = ⟨ms.flatMap wRg ++ r, false⟩ := by
      unfold rdRg rdRgU wRg
      simp only [List.append_assoc, getUb]
      rw [get3 (by omega) (by omega), get3 (by omega) (by omega), get1 (by omega) (by omega)]
      exact ⟨rfl, trivial⟩
    simp only [List.length_cons, List.flatMap_cons, rdRgs, List.append_assoc]
    rw [h1.1, h1.2, ih fun q hq => h q (by simp [hq])]
    rfl
theorem rd_kps {ks : List Kp} {n : Nat} (hn : n ≤ 128) (h : ∀ k ∈ ks, KpOk k n) (r : List UInt8) : rdKps ks.length ⟨ks.flatMap wKp ++ r, false⟩ = (ks, ⟨r, false⟩) := by
  induction ks with
  | nil => rfl
  | cons k ks ih =>
    have ho := h k (by simp)
    have y0 := ho.l0; have y1 := ho.l1; have y2 := ho.r0; have y3 := ho.r1; have y4 := ho.by1; have y5 := ho.by2
    have h1 : rdKp ⟨wKp k ++ (ks.flatMap wKp ++ r), false⟩ = k ∧ rdKpU ⟨wKp k ++ (ks.flatMap wKp ++ r), false⟩ = ⟨ks.flatMap wKp ++ r, false⟩ := by
      unfold rdKp rdKpU wKp
      simp only [List.append_assoc, getUb]
      rw [get1 (by omega) (by omega), get1 (by omega) (by omega), get2s (by omega) (by omega)]
      exact ⟨rfl, trivial⟩
    simp only [List.length_cons, List.flatMap_cons, rdKps, List.append_assoc]
    rw [h1.1, h1.2, ih fun q hq => h q (by simp [hq])]
    rfl
theorem get6 (t r : List UInt8) (b : Bool) : getU 6 ⟨sect t ++ r, b⟩ = ⟨t ++ r, b⟩ := by
  unfold sect
  rw [List.append_assoc, getU_app 6 (be 2 (t.length : Int) ++ be 4 ((Crc.sum t).toNat : Int)) (t ++ r) b (by simp [be_length])]
theorem all_get {α : Type} {d : α} {l : List α} {P : α → Prop} (h : ∀ i, i < l.length → P (l.getD i d)) : ∀ a ∈ l, P a := fun a ha => by
  obtain ⟨i, hi, rfl⟩ := List.mem_iff_getElem.1 ha
  have := h i hi
  rwa [List.getD_eq_getElem?_getD, List.getElem?_eq_getElem hi] at this
/-- What is written is read. -/
theorem rd_font {F : Font} (h : FOk F) : rdFont ⟨(Fnt.written F).drop 4, false⟩ = F ∧ rdBad ⟨(Fnt.written F).drop 4, false⟩ = false := by
  have e : (Fnt.written F).drop 4 = be 2 F.unit ++ (be 1 F.gs.length ++ (be 1 F.map.length ++ (be 1 F.kern.length ++ (sect (F.gs.flatMap wGl) ++ (sect (F.map.flatMap wRg) ++ (sect (F.kern.flatMap wKp) ++ [])))))) := by
    unfold Fnt.written head; simp [List.append_assoc]
  have := h.u0; have := h.u1; have := h.n1; have := h.m1; have := h.k1
  generalize hu : (⟨(Fnt.written F).drop 4, false⟩ : Up) = u
  have hu' : u = ⟨be 2 F.unit ++ (be 1 F.gs.length ++ (be 1 F.map.length ++ (be 1 F.kern.length ++ (sect (F.gs.flatMap wGl) ++ (sect (F.map.flatMap wRg) ++ (sect (F.kern.flatMap wKp) ++ [])))))), false⟩ := by rw [← hu, e]
  have k1 : u1 u = ⟨be 1 F.gs.length ++ (be 1 F.map.length ++ (be 1 F.kern.length ++ (sect (F.gs.flatMap wGl) ++ (sect (F.map.flatMap wRg) ++ (sect (F.kern.flatMap wKp) ++ []))))), false⟩ := by rw [hu']; exact getUb _ _ _ _
  have k2 : u2 u = ⟨be 1 F.map.length ++ (be 1 F.kern.length ++ (sect (F.gs.flatMap wGl) ++ (sect (F.map.flatMap wRg) ++ (sect (F.kern.flatMap wKp) ++ [])))), false⟩ := by unfold u2; rw [k1]; exact getUb _ _ _ _
  have k3 : u3 u = ⟨be 1 F.kern.length ++ (sect (F.gs.flatMap wGl) ++ (sect (F.map.flatMap wRg) ++ (sect (F.kern.flatMap wKp) ++ []))), false⟩ := by unfold u3; rw [k2]; exact getUb _ _ _ _
  have k4 : u4 u = ⟨sect (F.gs.flatMap wGl) ++ (sect (F.map.flatMap wRg) ++ (sect (F.kern.flatMap wKp) ++ [])), false⟩ := by unfold u4; rw [k3]; exact getUb _ _ _ _
  have kG : rG u = (F.gs, ⟨sect (F.map.flatMap wRg) ++ (sect (F.kern.flatMap wKp) ++ []), false⟩) := by
    unfold rG uG; rw [k1, get1 (by omega) (by omega), k4, get6, Int.toNat_natCast]
    exact rd_gls h.n1 (all_get h.gl) _
  have kM : rM u = (F.map, ⟨sect (F.kern.flatMap wKp) ++ [], false⟩) := by
    unfold rM; rw [k2, get1 (by omega) (by omega), kG, get6, Int.toNat_natCast]
    exact rd_rgs h.n1 (all_get h.rg) _
  have kK : rK u = (F.kern, ⟨[], false⟩) := by
    unfold rK; rw [k3, get1 (by omega) (by omega), kM, get6, Int.toNat_natCast]
    exact rd_kps h.n1 (all_get fun i hi => kp_ok (h.kn i hi)) _
  unfold rdFont rdBad
  rw [kG, kM, kK, hu', get2 (by omega) (by omega)]
  exact ⟨rfl, rfl⟩
end Fnt
end Go.Proofs.YtefkglmdkjkbiaaDoor
