/- Plane geometry on whole numbers, without a program in sight (own work). -/
import Derived.Test.YtdnjeodgdppjdaaGreatDoorVmPure
import Derived.Test.YtdnjeodgdppjdaaGreatDoorVmLTy
namespace Go.Proofs.Vm
open Go
set_option linter.unusedVariables false
set_option linter.unusedSimpArgs false

theorem mulB {x y : Int} (A B : Int) (hx : -A ≤ x ∧ x ≤ A) (hy : -B ≤ y ∧ y ≤ B) : -(A * B) ≤ x * y ∧ x * y ≤ A * B := by
  have h1 : x.natAbs ≤ A.natAbs := by omega
  have h2 : y.natAbs ≤ B.natAbs := by omega
  have h3 := Nat.mul_le_mul h1 h2
  have h4 : (x * y).natAbs = x.natAbs * y.natAbs := Int.natAbs_mul x y
  have h5 : (A * B).natAbs = A.natAbs * B.natAbs := Int.natAbs_mul A B
  have h6 : 0 ≤ A * B := Int.mul_nonneg (by omega) (by omega)
  rw [← h4, ← h5] at h3
  omega

/-- |x| ≤ n -/
abbrev Bd (n x : Int) : Prop := -n ≤ x ∧ x ≤ n
/-- a point whose numbers are small -/
structure PtB (n : Int) (p : DY0) : Prop where
  x : Bd n p.1
  y : Bd n p.2.1

def sqr (a b : DY0) : Int := (a.1 - b.1) * (a.1 - b.1) + (a.2.1 - b.2.1) * (a.2.1 - b.2.1)
def crossP (a b p : DY0) : Int := (b.1 - a.1) * (p.2.1 - a.2.1) - (b.2.1 - a.2.1) * (p.1 - a.1)
def dotP (a b p : DY0) : Int := (b.1 - a.1) * (p.1 - a.1) + (b.2.1 - a.2.1) * (p.2.1 - a.2.1)

theorem sqr_nonneg (a b : DY0) : 0 ≤ sqr a b := by
  unfold sqr
  have h (z : Int) : 0 ≤ z * z := by
    rcases Int.le_total 0 z with h | h
    · exact Int.mul_nonneg h h
    · exact Int.mul_nonneg_of_nonpos_of_nonpos h h
  have := h (a.1 - b.1); have := h (a.2.1 - b.2.1); omega
theorem self_nonneg (z : Int) : 0 ≤ z * z := by
  rcases Int.le_total 0 z with h | h
  · exact Int.mul_nonneg h h
  · exact Int.mul_nonneg_of_nonpos_of_nonpos h h

theorem sqr_comm (a b : DY0) : sqr a b = sqr b a := by
  unfold sqr
  rw [show a.1 - b.1 = -(b.1 - a.1) by omega, show a.2.1 - b.2.1 = -(b.2.1 - a.2.1) by omega, Int.neg_mul_neg, Int.neg_mul_neg]

/-- the square of the distance of a point from a segment, as a numerator and a denominator -/
def pqN (a b p : DY0) : Int := if dotP a b p ≤ 0 then sqr a p else if sqr a b ≤ dotP a b p then sqr b p else crossP a b p * crossP a b p
def pqD (a b p : DY0) : Int := if dotP a b p ≤ 0 then 1 else if sqr a b ≤ dotP a b p then 1 else sqr a b

theorem pqD_pos (a b p : DY0) : 0 < pqD a b p := by
  unfold pqD
  split
  · omega
  · split
    · omega
    · omega
theorem pqN_nonneg (a b p : DY0) : 0 ≤ pqN a b p := by
  unfold pqN
  split
  · exact sqr_nonneg _ _
  · split
    · exact sqr_nonneg _ _
    · exact self_nonneg _

def sgn (n : Int) : Int := if 0 < n then 1 else if n < 0 then -1 else 0
def within (n lo hi : Int) : Bool := decide (lo ≤ n) && decide (n ≤ hi)
/-- a point on the line of a segment lies in its box -/
def inBox (a b p : DY0) : Bool := within p.1 (min a.1 b.1) (max a.1 b.1) && within p.2.1 (min a.2.1 b.2.1) (max a.2.1 b.2.1)
def onSeg (a b p : DY0) : Bool := (crossP a b p == 0) && inBox a b p
/-- two segments have a point in common -/
def meetB (a b c d : DY0) : Bool :=
  onSeg a b c || onSeg a b d || onSeg c d a || onSeg c d b ||
    (decide (sgn (crossP a b c) * sgn (crossP a b d) < 0) && decide (sgn (crossP c d a) * sgn (crossP c d b) < 0))
/-- two segments are nearer than some distance -/
def nearB (a b c d : DY0) (n : Int) : Bool :=
  if meetB a b c d then decide (0 < n * n) else
    decide (pqN a b c < n * n * pqD a b c) || decide (pqN a b d < n * n * pqD a b d) || decide (pqN c d a < n * n * pqD c d a) || decide (pqN c d b < n * n * pqD c d b)

theorem meetB_comm (a b c d : DY0) : meetB a b c d = meetB c d a b := by
  unfold meetB
  generalize onSeg a b c = p1; generalize onSeg a b d = p2; generalize onSeg c d a = p3; generalize onSeg c d b = p4
  generalize decide (sgn (crossP a b c) * sgn (crossP a b d) < 0) = p5
  generalize decide (sgn (crossP c d a) * sgn (crossP c d b) < 0) = p6
  revert p1 p2 p3 p4 p5 p6; decide
theorem nearB_comm (a b c d : DY0) (n : Int) : nearB a b c d n = nearB c d a b n := by
  unfold nearB
  rw [meetB_comm]
  generalize decide (pqN a b c < n * n * pqD a b c) = p1; generalize decide (pqN a b d < n * n * pqD a b d) = p2
  generalize decide (pqN c d a < n * n * pqD c d a) = p3; generalize decide (pqN c d b < n * n * pqD c d b) = p4
  split
  · rfl
  · revert p1 p2 p3 p4; decide

/-! ### fractions -/
/-- f is the fraction n/d in lowest terms -/
def redF (n d : Int) : DY0 := (n / (Int.gcd n d : Int), d / (Int.gcd n d : Int), ())
/-- f has the value n/d -/
structure FracOf (f : DY0) (n d : Int) : Prop where
  num : 0 ≤ f.1
  numle : f.1 ≤ n
  den : 0 < f.2.1
  denle : f.2.1 ≤ d
  eq : f.1 * d = n * f.2.1

theorem redF_of {n d : Int} (hn : 0 ≤ n) (hd : 0 < d) : FracOf (redF n d) n d := by
  have hg : (0 : Int) < (Int.gcd n d : Int) := by
    have : Int.gcd n d ≠ 0 := by
      intro h
      rw [Int.gcd_eq_zero_iff] at h
      omega
    omega
  obtain ⟨x, hx⟩ := Int.gcd_dvd_left (a := n) (b := d)
  obtain ⟨y, hy⟩ := Int.gcd_dvd_right (a := n) (b := d)
  generalize hG : (Int.gcd n d : Int) = g at *
  have e1 : n / g = x := by rw [hx]; exact Int.mul_ediv_cancel_left x (by omega)
  have e2 : d / g = y := by rw [hy]; exact Int.mul_ediv_cancel_left y (by omega)
  have hx0 : 0 ≤ x := by
    rcases Int.lt_or_le x 0 with h | h
    · have := Int.mul_neg_of_pos_of_neg hg h; omega
    · exact h
  have hy0 : 0 < y := by
    rcases Int.lt_or_le 0 y with h | h
    · exact h
    · have := Int.mul_nonpos_of_nonneg_of_nonpos (Int.le_of_lt hg) h; omega
  have l1 : 1 * x ≤ g * x := Int.mul_le_mul_of_nonneg_right (by omega) hx0
  have l2 : 1 * y ≤ g * y := Int.mul_le_mul_of_nonneg_right (by omega) (by omega)
  refine ⟨?_, ?_, ?_, ?_, ?_⟩ <;> simp only [redF, hG, e1, e2]
  · exact hx0
  · omega
  · exact hy0
  · omega
  · rw [hy, hx, ← Int.mul_assoc, Int.mul_comm x g, Int.mul_assoc]

theorem frac_one {n : Int} (hn : 0 ≤ n) : FracOf (n, 1, ()) n 1 := ⟨hn, Int.le_refl _, by simp, by simp, by simp⟩

/-- f < g by their products -/
def fLess (f g : DY0) : Bool := decide (f.1 * g.2.1 < g.1 * f.2.1)
/-- the lesser one, the first one where they are equal -/
def fMin (f g : DY0) : DY0 := if fLess g f then g else f

theorem lt_of_value {f : DY0} {n d c : Int} (h : FracOf f n d) (hd : 0 < d) : (f.1 < c * f.2.1) ↔ (n < c * d) := by
  have h1 := h.eq
  constructor
  · intro h2
    have h3 : f.1 * d < c * f.2.1 * d := Int.mul_lt_mul_of_pos_right h2 hd
    rw [h1] at h3
    have h4 : n * f.2.1 < (c * d) * f.2.1 := by rw [show c * d * f.2.1 = c * f.2.1 * d by rw [Int.mul_assoc, Int.mul_comm d, ← Int.mul_assoc]]; exact h3
    exact Int.lt_of_mul_lt_mul_right h4 (Int.le_of_lt h.den)
  · intro h2
    have h3 : n * f.2.1 < c * d * f.2.1 := Int.mul_lt_mul_of_pos_right h2 h.den
    rw [← h1] at h3
    have h4 : f.1 * d < (c * f.2.1) * d := by rw [show c * f.2.1 * d = c * d * f.2.1 by rw [Int.mul_assoc, Int.mul_comm f.2.1, ← Int.mul_assoc]]; exact h3
    exact Int.lt_of_mul_lt_mul_right h4 (Int.le_of_lt hd)

theorem fMin_lt {f g : DY0} (hf : 0 < f.2.1) (hg : 0 < g.2.1) (c : Int) : (decide ((fMin f g).1 < c * (fMin f g).2.1)) = (decide (f.1 < c * f.2.1) || decide (g.1 < c * g.2.1)) := by
  have key {a b : DY0} (ha : 0 < a.2.1) (hb : 0 < b.2.1) (hle : a.1 * b.2.1 ≤ b.1 * a.2.1) (h : b.1 < c * b.2.1) : a.1 < c * a.2.1 := by
    have h1 : b.1 * a.2.1 < c * b.2.1 * a.2.1 := Int.mul_lt_mul_of_pos_right h ha
    have h2 : a.1 * b.2.1 < (c * a.2.1) * b.2.1 := by
      rw [show c * a.2.1 * b.2.1 = c * b.2.1 * a.2.1 by rw [Int.mul_assoc, Int.mul_comm a.2.1, ← Int.mul_assoc]]; omega
    exact Int.lt_of_mul_lt_mul_right h2 (Int.le_of_lt hb)
  unfold fMin fLess
  by_cases h : g.1 * f.2.1 < f.1 * g.2.1
  · simp only [h, decide_true, if_true]
    by_cases h2 : f.1 < c * f.2.1
    · have := key hg hf (by omega) h2
      simp [h2, this]
    · simp [h2]
  · simp only [h, decide_false, Bool.false_eq_true, if_false]
    by_cases h2 : g.1 < c * g.2.1
    · have := key hf hg (by omega) h2
      simp [h2, this]
    · simp [h2]
end Go.Proofs.Vm
