/- Fractions, distances, conflicts: what the printed functions compute (own work). -/
import Derived.Test.YtdnjeodgdppjdaaGreatDoorVmPA2
namespace Go.Proofs.Vm
open Go
set_option linter.unusedVariables false
set_option linter.unusedSimpArgs false

/-! ### the greatest common divisor -/
theorem gcd_step {a b : Int} (ha : 0 ≤ a) (hb : 0 < b) : (Int.gcd b (Int.tmod a b) : Int) = Int.gcd a b := by
  rw [Int.tmod_eq_emod_of_nonneg ha]
  obtain ⟨m, rfl⟩ := Int.eq_ofNat_of_zero_le ha
  obtain ⟨n, rfl⟩ := Int.eq_ofNat_of_zero_le (Int.le_of_lt hb)
  rw [← Int.natCast_emod, Int.gcd_natCast_natCast, Int.gcd_natCast_natCast, Nat.gcd_comm n, ← Nat.gcd_rec, Nat.gcd_comm]
theorem gcd_zero {a : Int} (ha : 0 ≤ a) : (Int.gcd a 0 : Int) = a := by
  rw [Int.gcd_zero_right]; omega
theorem tmod_lt {a b : Int} (ha : 0 ≤ a) (hb : 0 < b) : 0 ≤ Int.tmod a b ∧ Int.tmod a b < b := by
  rw [Int.tmod_eq_emod_of_nonneg ha]
  exact ⟨Int.emod_nonneg _ (by omega), Int.emod_lt_of_pos _ hb⟩
/-- a number of Go's int64, not negative -/
abbrev Nn (n : Int) : Prop := 0 ≤ n ∧ n ≤ 9223372036854775807
theorem e_s_gcd {K : Nat} (hK : BigK K) {a b : Int} (ha : Nn a) (hb : Nn b) : gs_l14Gcd K a b = some ((Int.gcd a b : Int), ()) := by
  unfold gs_l14Gcd
  rw [iter_eq (I := fun d => Nn d.1 ∧ Nn d.2.1) (m := fun d => d.2.1.toNat) (F := fun d => ((Int.gcd d.1 d.2.1 : Int), ())) ?_ K (a, b, ()) ⟨ha, hb⟩ (by simp only; omega)]
  rintro ⟨x, y, u⟩ ⟨hx, hy⟩
  simp only at hx hy
  by_cases h : y = 0
  · subst h
    left; intro kx kn
    simp only [ls_l14Gcd_0, bne_self_eq_false, cond_false, gcd_zero hx.1]
  · right
    have h0 : 0 < y := by omega
    have h1 := tmod_lt hx.1 h0
    refine ⟨(y, Int.tmod x y, ()), ⟨hy, ⟨by simp only; omega, by simp only; omega⟩⟩, by simp only; omega, by simp only [gcd_step hx.1 h0], fun kx kn => ?_⟩
    have h2 : (y != 0) = true := by simp [h]
    have h3 : (y == 0) = false := by simp [h]
    simp only [ls_l14Gcd_0, h2, h3, cond_true, cond_false]
theorem gcd_pos {n d : Int} (hd : 0 < d) : 0 < (Int.gcd n d : Int) := by
  have : Int.gcd n d ≠ 0 := by
    intro h; rw [Int.gcd_eq_zero_iff] at h; omega
  omega
theorem div_w {n g : Int} (hn : Nn n) (hg : 0 < g) : IntKind.wrap .i64 (Int.tdiv n g) = n / g := by
  rw [Int.tdiv_eq_ediv_of_nonneg hn.1]
  have h1 : 0 ≤ n / g := Int.ediv_nonneg hn.1 (by omega)
  have h2 : n / g ≤ n := Int.ediv_le_self g hn.1
  exact wi (by omega)
theorem e_s_make {K : Nat} (hK : BigK K) {n d : Int} (hn : Nn n) (hd : Nn d) (h0 : 0 < d) : gs_l14Make K n d = some (redF n d, ()) := by
  unfold gs_l14Make redF
  have hg := gcd_pos (n := n) h0
  have h1 : ((Int.gcd n d : Int) == 0) = false := by simp; omega
  simp only [e_s_gcd hK hn hd, Option.bind_some, h1, cond_false, div_w hn hg, div_w hd hg]
theorem redF_one {n : Int} : redF n 1 = (n, 1, ()) := by
  unfold redF
  have : Int.gcd n 1 = 1 := by simp
  rw [this]; simp
theorem e_i_abs (K : Nat) {n : Int} (hn : Nn n) : gi_abs K n = some (n, ()) := by
  unfold gi_abs
  rw [wi (by omega)]
  have : ¬ (0 - n > n) := by omega
  rw [if_neg this]
theorem e_i_reduced {K : Nat} (hK : BigK K) {n d : Int} (hn : Nn n) (hd : Nn d) (h0 : 0 < d) : gi_reduced K n d = some (redF n d, ()) := by
  unfold gi_reduced redF
  simp only [e_i_abs K hn, Option.bind_some]
  rw [iter_eq (I := fun q => q.1 = n ∧ q.2.1 = d ∧ Nn q.2.2.1 ∧ Nn q.2.2.2.1 ∧ q.2.2.2.2.1 = ((0, (0, ())) : DY0)) (m := fun q => q.2.2.2.1.toNat)
    (F := fun q => (n, d, (Int.gcd q.2.2.1 q.2.2.2.1 : Int), ((0, (0, ())) : DY0), ())) ?_ K (n, d, n, d, (0, (0, ())), ()) ⟨rfl, rfl, hn, hd, rfl⟩ (by simp only; omega)]
  · have hg := gcd_pos (n := n) h0
    have h1 : ((Int.gcd n d : Int) == 0) = false := by simp; omega
    simp only [h1, cond_false, div_w hn hg, div_w hd hg]
  rintro ⟨a, b, x, y, z, u⟩ ⟨h1, h2, hx, hy, h3⟩
  simp only at h1 h2 hx hy h3
  subst h1 h2 h3
  by_cases h : y = 0
  · subst h
    left; intro kx kn
    have h4 : decide ((0 : Int) > 0) = false := rfl
    simp only [li_reduced_0, h4, cond_false, gcd_zero hx.1]
  · right
    have h0 : 0 < y := by omega
    have h1 := tmod_lt hx.1 h0
    refine ⟨(a, b, y, Int.tmod x y, (0, (0, ())), ()), ⟨rfl, rfl, hy, ⟨by simp only; omega, by simp only; omega⟩, rfl⟩, by simp only; omega, by simp only [gcd_step hx.1 h0], fun kx kn => ?_⟩
    have h2 : decide (y > 0) = true := by simp; omega
    have h3 : (y == 0) = false := by simp [h]
    simp only [li_reduced_0, h2, h3, cond_true, cond_false]

/-! ### the distance of a point -/
/-- the square of the distance of a point from a segment, in lowest terms -/
def ptF (s : DY3) (p : DY0) : DY0 :=
  if dotP s.1 s.2.1 p ≤ 0 then (sqr s.1 p, 1, ()) else if sqr s.1 s.2.1 ≤ dotP s.1 s.2.1 p then (sqr s.2.1 p, 1, ()) else redF (crossP s.1 s.2.1 p * crossP s.1 s.2.1 p) (sqr s.1 s.2.1)
theorem ptF_of (s : DY3) (p : DY0) : FracOf (ptF s p) (pqN s.1 s.2.1 p) (pqD s.1 s.2.1 p) := by
  unfold ptF pqN pqD
  split
  · exact frac_one (sqr_nonneg _ _)
  · split
    · exact frac_one (sqr_nonneg _ _)
    · exact redF_of (self_nonneg _) (by omega)
theorem pq_bd {s : DY3} {p : DY0} (hs : SegB s) (hp : PtB 11000 p) : pqN s.1 s.2.1 p ≤ 937024000000000000 ∧ pqD s.1 s.2.1 p ≤ 968000000 := by
  have h1 := sqr_bd hs.a hp; have h2 := sqr_bd hs.b hp; have h3 := sqr_bd hs.a hs.b
  have h4 := crossP_bd hs.a hs.b hp
  have h5 := mulB 968000000 968000000 h4 h4
  unfold pqN pqD
  constructor
  · split
    · omega
    · split <;> omega
  · split
    · omega
    · split <;> omega
theorem e_s_ptSq {K : Nat} (hK : BigK K) {s : DY3} {p : DY0} (hs : SegB s) (hp : PtB 11000 p) : gs_l14PointSquare K s p = some (ptF s p, ()) := by
  have h1 := sqr_bd hs.a hp; have h2 := sqr_bd hs.b hp; have h3 := sqr_bd hs.a hs.b
  have h4 := crossP_bd hs.a hs.b hp
  have h5 := mulB 968000000 968000000 h4 h4
  unfold gs_l14PointSquare ptF
  simp only [e_s_square, sqW_eq hs.a hs.b, sqW_eq hs.a hp, sqW_eq hs.b hp, e_s_dot K hs hp, e_s_cross K hs hp, Option.bind_some, dge]
  by_cases h6 : dotP s.1 s.2.1 p ≤ 0
  · simp only [h6, decide_true, cond_true, if_true]
    rw [e_s_make hK (by omega) (by omega) (by omega)]
    simp only [redF_one, Option.bind_some]
  · by_cases h7 : sqr s.1 s.2.1 ≤ dotP s.1 s.2.1 p
    · simp only [h6, h7, decide_true, decide_false, cond_true, cond_false, if_true, if_false]
      rw [e_s_make hK (by omega) (by omega) (by omega)]
      simp only [redF_one, Option.bind_some]
    · simp only [h6, h7, decide_false, cond_false, if_false]
      have := self_nonneg (crossP s.1 s.2.1 p)
      rw [wi (by omega), e_s_make hK (by omega) (by omega) (by omega)]
      simp only [Option.bind_some]
theorem e_i_ptSq {K : Nat} (hK : BigK K) {s : DY3} {p : DY0} (hs : SegB s) (hp : PtB 11000 p) : gi_Segment_pointSquare K s p = some (ptF s p, ()) := by
  have h1 := sqr_bd hs.a hp; have h2 := sqr_bd hs.b hp; have h3 := sqr_bd hs.a hs.b
  have h4 := crossP_bd hs.a hs.b hp
  have h5 := mulB 968000000 968000000 h4 h4
  have e1 : (IntKind.wrap .i64 ((IntKind.wrap .i64 ((IntKind.wrap .i64 (p.1 - s.1.1)) * (IntKind.wrap .i64 (s.2.1.1 - s.1.1)))) + (IntKind.wrap .i64 ((IntKind.wrap .i64 (p.2.1 - s.1.2.1)) * (IntKind.wrap .i64 (s.2.1.2.1 - s.1.2.1)))))) = dotP s.1 s.2.1 p := by
    rw [← dotW hs.a hs.b hp, Int.mul_comm (IntKind.wrap .i64 (p.1 - s.1.1)), Int.mul_comm (IntKind.wrap .i64 (p.2.1 - s.1.2.1))]
  have e2 : (IntKind.wrap .i64 ((IntKind.wrap .i64 ((IntKind.wrap .i64 (s.2.1.1 - s.1.1)) * (IntKind.wrap .i64 (s.2.1.1 - s.1.1)))) + (IntKind.wrap .i64 ((IntKind.wrap .i64 (s.2.1.2.1 - s.1.2.1)) * (IntKind.wrap .i64 (s.2.1.2.1 - s.1.2.1)))))) = sqr s.1 s.2.1 := by
    rw [sqr_comm, ← sqW_eq hs.b hs.a]; rfl
  unfold gi_Segment_pointSquare ptF
  rw [e1, e2]
  simp only [e_i_square, sqW_eq hp hs.a, sqW_eq hp hs.b, e_i_side K hs.a hs.b hp, Option.bind_some, dge, sqr_comm p]
  by_cases h6 : dotP s.1 s.2.1 p ≤ 0
  · simp only [h6, decide_true, cond_true, if_true]
  · by_cases h7 : sqr s.1 s.2.1 ≤ dotP s.1 s.2.1 p
    · simp only [h6, h7, decide_true, decide_false, cond_true, cond_false, if_true, if_false]
    · simp only [h6, h7, decide_false, cond_false, if_false]
      have := self_nonneg (crossP s.1 s.2.1 p)
      rw [wi (by omega), e_i_reduced hK (by omega) (by omega) (by omega)]
      simp only [Option.bind_some]

/-! ### comparing -/
/-- a fraction of numbers of Go's int64 -/
structure FrB (f : DY0) : Prop where
  num : Nn f.1
  den : 0 < f.2.1 ∧ f.2.1 ≤ 9223372036854775807
theorem fLess_quot {f g : DY0} (hf : FrB f) (hg : FrB g) (h : f.1 / f.2.1 < g.1 / g.2.1) : f.1 * g.2.1 < g.1 * f.2.1 := by
  have had := hf.den.1; have hbd := hg.den.1
  have h1 : f.1 < f.2.1 * (g.1 / g.2.1) := by
    have e := Int.emod_add_mul_ediv f.1 f.2.1
    have e2 := Int.emod_lt_of_pos f.1 had
    have e3 : f.2.1 * (f.1 / f.2.1 + 1) ≤ f.2.1 * (g.1 / g.2.1) := Int.mul_le_mul_of_nonneg_left (by omega) (by omega)
    rw [Int.mul_add] at e3; omega
  have h2 : g.2.1 * (g.1 / g.2.1) ≤ g.1 := Int.mul_ediv_self_le (by omega)
  have h3 : f.1 * g.2.1 < f.2.1 * (g.1 / g.2.1) * g.2.1 := Int.mul_lt_mul_of_pos_right h1 hbd
  have h4 : g.2.1 * (g.1 / g.2.1) * f.2.1 ≤ g.1 * f.2.1 := Int.mul_le_mul_of_nonneg_right h2 (by omega)
  have h5 : f.2.1 * (g.1 / g.2.1) * g.2.1 = g.2.1 * (g.1 / g.2.1) * f.2.1 := by ac_rfl
  omega
theorem fLess_rest {f g : DY0} (h : f.1 / f.2.1 = g.1 / g.2.1) : (f.1 * g.2.1 < g.1 * f.2.1) ↔ (f.1 % f.2.1) * g.2.1 < (g.1 % g.2.1) * f.2.1 := by
  have e1 := Int.emod_add_mul_ediv f.1 f.2.1
  have e2 := Int.emod_add_mul_ediv g.1 g.2.1
  have h1 : f.1 * g.2.1 = (f.1 % f.2.1) * g.2.1 + f.2.1 * (f.1 / f.2.1) * g.2.1 := by rw [← Int.add_mul, e1]
  have h2 : g.1 * f.2.1 = (g.1 % g.2.1) * f.2.1 + g.2.1 * (g.1 / g.2.1) * f.2.1 := by rw [← Int.add_mul, e2]
  have h3 : f.2.1 * (f.1 / f.2.1) * g.2.1 = g.2.1 * (g.1 / g.2.1) * f.2.1 := by rw [h]; ac_rfl
  omega

theorem e_s_less {K : Nat} (hK : BigK K) {f g : DY0} (hf : FrB f) (hg : FrB g) : gs_l14Less K f g = some (fLess f g, ()) := by
  unfold gs_l14Less
  rw [iter_eq (I := fun d => FrB d.1 ∧ FrB d.2.1) (m := fun d => d.1.2.1.toNat + d.2.1.2.1.toNat) (F := fun d => (fLess d.2.1 d.1, ())) ?_ K (g, f, ()) ⟨hg, hf⟩ (by have := hf.den; have := hg.den; simp only; omega)]
  rintro ⟨b, a, u⟩ ⟨hb, ha⟩
  simp only at ha hb
  have h1 : (a.2.1 == 0) = false := by have := ha.den; simp; omega
  have h2 : (b.2.1 == 0) = false := by have := hb.den; simp; omega
  have qa := div_w ha.num ha.den.1
  have qb := div_w hb.num hb.den.1
  have ta : Int.tmod a.1 a.2.1 = a.1 % a.2.1 := Int.tmod_eq_emod_of_nonneg ha.num.1
  have tb : Int.tmod b.1 b.2.1 = b.1 % b.2.1 := Int.tmod_eq_emod_of_nonneg hb.num.1
  have la := Int.emod_lt_of_pos a.1 ha.den.1
  have lb := Int.emod_lt_of_pos b.1 hb.den.1
  have na := Int.emod_nonneg a.1 (show a.2.1 ≠ 0 by have := ha.den; omega)
  have nb := Int.emod_nonneg b.1 (show b.2.1 ≠ 0 by have := hb.den; omega)
  have step (kx : Bool × Unit → Option (Bool × Unit)) (kn : DY0 × DY0 × Unit → Option (Bool × Unit)) : ls_l14Less_0 K (b, a, u) kx kn =
      (cond (a.1 / a.2.1 != b.1 / b.2.1) (kx (decide (a.1 / a.2.1 < b.1 / b.2.1), ())) (cond (a.1 % a.2.1 == 0) (kx (decide (b.1 % b.2.1 > 0), ())) (cond (b.1 % b.2.1 == 0) (kx (false, ())) (kn ((a.2.1, (a.1 % a.2.1, ())), (b.2.1, (b.1 % b.2.1, ())), ()))))) := by
    simp only [ls_l14Less_0, h1, h2, cond_false, qa, qb, ta, tb]
    cases (a.1 % a.2.1 == 0) <;> rfl
  by_cases hq : a.1 / a.2.1 = b.1 / b.2.1
  · have hrest := fLess_rest hq
    have e0 : (a.1 / a.2.1 != b.1 / b.2.1) = false := by simp [hq]
    by_cases hx : a.1 % a.2.1 = 0
    · left; intro kx kn
      rw [step, e0]
      have e1 : (a.1 % a.2.1 == 0) = true := by simp [hx]
      simp only [cond_false, e1, cond_true]
      congr 2
      unfold fLess
      rw [Bool.eq_iff_iff]
      simp only [decide_eq_true_eq]
      rw [hrest, hx, Int.zero_mul]
      constructor
      · intro h; exact Int.mul_pos h ha.den.1
      · intro h
        rcases Int.lt_or_le 0 (b.1 % b.2.1) with h' | h'
        · exact h'
        · have : b.1 % b.2.1 = 0 := by omega
          rw [this, Int.zero_mul] at h; omega
    · have e1 : (a.1 % a.2.1 == 0) = false := by simp [hx]
      by_cases hy : b.1 % b.2.1 = 0
      · left; intro kx kn
        rw [step, e0]
        have e2 : (b.1 % b.2.1 == 0) = true := by simp [hy]
        simp only [cond_false, e1, e2, cond_true]
        congr 2
        unfold fLess
        symm
        rw [decide_eq_false_iff_not, hrest, hy, Int.zero_mul]
        have := Int.mul_nonneg na (Int.le_of_lt hb.den.1)
        omega
      · right
        have e2 : (b.1 % b.2.1 == 0) = false := by simp [hy]
        have da := ha.den; have db := hb.den
        refine ⟨((a.2.1, (a.1 % a.2.1, ())), (b.2.1, (b.1 % b.2.1, ())), ()), ⟨⟨⟨by simp only; omega, by simp only; omega⟩, by simp only; omega⟩, ⟨⟨by simp only; omega, by simp only; omega⟩, by simp only; omega⟩⟩, by simp only; omega, ?_, fun kx kn => ?_⟩
        · congr 1
          unfold fLess
          simp only
          rw [Bool.eq_iff_iff]
          simp only [decide_eq_true_eq]
          rw [hrest, Int.mul_comm b.2.1, Int.mul_comm a.2.1]
        · rw [step, e0]
          simp only [cond_false, e1, e2]
  · left; intro kx kn
    rw [step]
    have e0 : (a.1 / a.2.1 != b.1 / b.2.1) = true := by simp [hq]
    rw [e0]
    simp only [cond_true]
    congr 2
    unfold fLess
    rw [Bool.eq_iff_iff]
    simp only [decide_eq_true_eq]
    constructor
    · intro h; exact fLess_quot ha hb h
    · intro h
      rcases Int.lt_or_gt_of_ne hq with h' | h'
      · exact h'
      · have := fLess_quot hb ha h'; omega

/-! ### products of two words -/
theorem u64w {n : Int} (h : 0 ≤ n ∧ n ≤ 18446744073709551615) : IntKind.wrap .u64 n = n := IntWalk.u64_in n h
theorem and32 {a : Int} (h : 0 ≤ a ∧ a ≤ 18446744073709551615) : IntKind.wrap .u64 ((BitVec.ofInt (IntKind.bits .u64) a &&& BitVec.ofInt (IntKind.bits .u64) 4294967295).toNat : Int) = a % 4294967296 := by
  have e : (BitVec.ofInt (IntKind.bits .u64) a &&& BitVec.ofInt (IntKind.bits .u64) 4294967295).toNat = a.toNat % 4294967296 := by
    rw [BitVec.toNat_and, BitVec.toNat_ofInt, BitVec.toNat_ofInt]
    have e1 : (a % ((2 ^ IntKind.bits .u64 : Nat) : Int)).toNat = a.toNat := by
      have : ((2 ^ IntKind.bits .u64 : Nat) : Int) = 18446744073709551616 := by decide
      rw [this, Int.emod_eq_of_lt h.1 (by omega)]
    have e2 : (4294967295 % ((2 ^ IntKind.bits .u64 : Nat) : Int)).toNat = 2 ^ 32 - 1 := by decide
    rw [e1, e2, Nat.and_two_pow_sub_one_eq_mod]
  rw [e, u64w (by omega)]
  omega
theorem fdiv32 (a : Int) : Int.fdiv a (2 ^ 32) = a / 4294967296 := by
  rw [Int.fdiv_eq_ediv_of_nonneg _ (by decide)]; rfl
theorem e_mul64 (K : Nat) {a b : Int} (ha : 0 ≤ a ∧ a ≤ 18446744073709551615) (hb : 0 ≤ b ∧ b ≤ 18446744073709551615) :
    gmath_bits_Mul64 K a b = some ((a * b) / 18446744073709551616, (a * b) % 18446744073709551616, ()) := by
  unfold gmath_bits_Mul64
  simp only [and32 ha, and32 hb, fdiv32]
  have ea : a = (a / 4294967296) * 4294967296 + a % 4294967296 := by omega
  have eb : b = (b / 4294967296) * 4294967296 + b % 4294967296 := by omega
  have a1 : 0 ≤ a / 4294967296 ∧ a / 4294967296 ≤ 4294967295 := by omega
  have a0 : 0 ≤ a % 4294967296 ∧ a % 4294967296 ≤ 4294967295 := by omega
  have b1 : 0 ≤ b / 4294967296 ∧ b / 4294967296 ≤ 4294967295 := by omega
  have b0 : 0 ≤ b % 4294967296 ∧ b % 4294967296 ≤ 4294967295 := by omega
  generalize a / 4294967296 = x1 at *
  generalize a % 4294967296 = x0 at *
  generalize b / 4294967296 = y1 at *
  generalize b % 4294967296 = y0 at *
  have p {u v : Int} (hu : 0 ≤ u ∧ u ≤ 4294967295) (hv : 0 ≤ v ∧ v ≤ 4294967295) : 0 ≤ u * v ∧ u * v ≤ 18446744065119617025 := by
    have h1 := Int.mul_nonneg hu.1 hv.1
    have h2 := mulB 4294967295 4294967295 (x := u) (y := v) (by omega) (by omega)
    omega
  have hprod : a * b = (x1 * y1) * 18446744073709551616 + (x1 * y0 + x0 * y1) * 4294967296 + x0 * y0 := by
    rw [ea, eb, Int.add_mul, Int.mul_add, Int.mul_add]
    have q1 : x1 * 4294967296 * (y1 * 4294967296) = (x1 * y1) * 18446744073709551616 := by
      rw [show (18446744073709551616 : Int) = 4294967296 * 4294967296 by decide]; ac_rfl
    have q2 : x1 * 4294967296 * y0 = (x1 * y0) * 4294967296 := by ac_rfl
    have q3 : x0 * (y1 * 4294967296) = (x0 * y1) * 4294967296 := by ac_rfl
    rw [q1, q2, q3]; omega
  have w0 : IntKind.wrap .u64 (a * b) = (a * b) % 18446744073709551616 := by
    unfold IntKind.wrap
    have : (IntKind.signed .u64) = false := rfl
    simp only [this, Bool.false_and, Bool.false_eq_true, if_false]
    rfl
  rw [w0]
  have p11 := p a1 b1; have p10 := p a1 b0; have p01 := p a0 b1; have p00 := p a0 b0
  clear ea eb
  generalize x1 * y1 = P11 at *
  generalize x1 * y0 = P10 at *
  generalize x0 * y1 = P01 at *
  generalize x0 * y0 = P00 at *
  generalize a * b = AB at *
  have hAB : 0 ≤ AB ∧ AB ≤ 340282366920938463426481119284349108225 := by omega
  rw [u64w (n := P11) (by omega), u64w (n := P10) (by omega), u64w (n := P00) (by omega), u64w (n := P01) (by omega), u64w (n := P10 + P00 / 4294967296) (by omega), and32 (by omega), u64w (n := P11 + (P10 + P00 / 4294967296) / 4294967296) (by omega), u64w (n := (P10 + P00 / 4294967296) % 4294967296 + P01) (by omega), u64w (by omega)]
  congr 2
  omega
end Go.Proofs.Vm
