/- Sizes, copies, equalities, names, charts, cranes, sites: what the printed functions compute (own work). -/
import Derived.Test.YtdnjeodgdppjdaaGreatDoorVmLA
import Derived.Test.YtdnjeodgdppjdaaGreatDoorVmGeo
namespace Go.Proofs.Vm
open Go
set_option linter.unusedVariables false
set_option linter.unusedSimpArgs false

/-! ### small ones -/
theorem e_s_in (K : Nat) (a b c : Int) : gs_l00In K a b c = some (within a b c, ()) := by
  unfold gs_l00In within
  rw [bl1]
theorem e_i_within (K : Nat) (a b c : Int) : gi_within K a b c = some (within a b c, ()) := e_s_in K a b c
def smallB (n : Int) : Bool := decide (97 ≤ n) && decide (n ≤ 122)
def digitB (n : Int) : Bool := decide (48 ≤ n) && decide (n ≤ 57)
theorem e_s_small (K : Nat) (a : Int) : gs_l01Small K a = some (smallB a, ()) := by unfold gs_l01Small smallB; rw [bl1]
theorem e_s_digit (K : Nat) (a : Int) : gs_l01Digit K a = some (digitB a, ()) := by unfold gs_l01Digit digitB; rw [bl1]
def placeB (p : DY0) : Bool := within p.1 (-10000) 10000 && within p.2.1 (-10000) 10000
theorem e_s_place (K : Nat) (p : DY0) : gs_l02Ok K p = some (placeB p, ()) := by
  unfold gs_l02Ok placeB; simp only [e_s_in, Option.bind_some, bl1]
theorem e_i_place (K : Nat) (p : DY0) : gi_ValidPlace K p = some (placeB p, ()) := by
  unfold gi_ValidPlace placeB; simp only [e_i_within, Option.bind_some, bl1]

/-! ### names -/
def nameB (s : ByteArray) : Bool :=
  decide (1 ≤ (s.size : Int)) && decide ((s.size : Int) ≤ 12) && smallB (bt s 0) && allB s.size fun i => smallB (bt s i) || digitB (bt s i) || (bt s i == 45)

theorem e_s_name {K : Nat} (hK : BigK K) (s : ByteArray) : gs_IsName K s = some (nameB s, ()) := by
  unfold gs_IsName nameB
  rw [strEq_empty]
  by_cases h0 : s.size = 0
  · simp [h0]
  by_cases h1 : (s.size : Int) > 12
  · have : ¬ ((s.size : Int) ≤ 12) := by omega
    simp [h0, h1, this]
  have e1 : decide (s.size = 0) = false := by simp [h0]
  have e2 : decide ((s.size : Int) > 12) = false := by simp [h1]
  have e3 : decide (1 ≤ (s.size : Int)) = true := by simp; omega
  have e4 : decide ((s.size : Int) ≤ 12) = true := by simp; omega
  rw [e1, e2, e3, e4, atIdx_in (by omega)]
  simp only [cond_false, e_s_small, Option.bind_some, Bool.true_and, Int.toNat_zero]
  rw [iter_all s.size (fun i => smallB (bt s i) || digitB (bt s i) || (bt s i == 45)) (fun i => (s, (i : Int), ())) (.inl (false, ())) (.inr ()) ?_ ?_ (by omega)]
  · cases smallB (bt s 0) <;> cases allB s.size (fun i => smallB (bt s i) || digitB (bt s i) || (bt s i == 45)) <;> rfl
  · intro i hi _ kx kn
    have h2 : decide ((i : Int) < (s.size : Int)) = true := by simp; omega
    simp only [ls_IsName_0, h2, cond_true, atIdx_nat hi, e_s_small, e_s_digit, Option.bind_some]
    rw [wi (by omega)]
    cases smallB (bt s i) <;> cases digitB (bt s i) <;> simp [bne]
  · intro kx kn
    have h2 : decide ((s.size : Int) < (s.size : Int)) = false := by simp
    simp only [ls_IsName_0, h2, cond_false]

theorem e_i_name {K : Nat} (hK : BigK K) (s : ByteArray) (hs : s.size ≤ maxLen) : gi_IsName K s = some (nameB s, ()) := by
  unfold gi_IsName
  have hm : maxLen = 9223372036854775807 := by decide
  rw [iter_all s.size (fun i => smallB (bt s i) || (!((i : Int) == 0) && (bt s i == 45 || digitB (bt s i)))) (fun i => (s, (s.size : Int), (i : Int), ())) (.inl (s, false, ())) (.inr (s, ())) ?_ ?_ (by omega)]
  · have e : nameB s = (allB s.size (fun i => smallB (bt s i) || (!((i : Int) == 0) && (bt s i == 45 || digitB (bt s i)))) && (decide ((s.size : Int) ≥ 1) && decide ((s.size : Int) ≤ 12))) := by
      unfold nameB
      rw [Bool.eq_iff_iff]
      simp only [Bool.and_eq_true, allB_iff, decide_eq_true_eq, Bool.or_eq_true, Bool.not_eq_true', beq_eq_false_iff_ne, beq_iff_eq, ne_eq]
      constructor
      · rintro ⟨⟨⟨h1, h2⟩, h3⟩, h4⟩
        refine ⟨fun i hi => ?_, by omega, h2⟩
        by_cases h0 : i = 0
        · subst h0; exact .inl h3
        · rcases h4 i hi with (h | h) | h
          · exact .inl h
          · exact .inr ⟨by omega, .inr h⟩
          · exact .inr ⟨by omega, .inl h⟩
      · rintro ⟨h1, h2, h3⟩
        refine ⟨⟨⟨by omega, h3⟩, ?_⟩, fun i hi => ?_⟩
        · rcases h1 0 (by omega) with h | h
          · exact h
          · exact absurd rfl h.1
        · rcases h1 i hi with h | ⟨_, h | h⟩
          · exact .inl (.inl h)
          · exact .inr h
          · exact .inl (.inr h)
    rw [e]
    simp only [bl1]
  · intro i hi _ kx kn
    have h2 : decide ((i : Int) < (s.size : Int)) = true := by simp; omega
    simp only [li_IsName_0, h2, cond_true, atIdx_nat hi]
    rw [wi (by omega)]
    simp only [smallB, digitB, bne, ge_iff_le, gt_iff_lt]
    have e5 : decide (bt s i < 48) = !decide (48 ≤ bt s i) := by rw [Bool.eq_iff_iff]; simp
    have e6 : decide (57 < bt s i) = !decide (bt s i ≤ 57) := by rw [Bool.eq_iff_iff]; simp
    rw [e5, e6]
    generalize decide (97 ≤ bt s i) = b1; generalize decide (bt s i ≤ 122) = b2; generalize ((i : Int) == 0) = b3; generalize (bt s i == 45) = b4
    generalize decide (48 ≤ bt s i) = b5; generalize decide (bt s i ≤ 57) = b6
    cases b1 <;> cases b2 <;> cases b3 <;> cases b4 <;> cases b5 <;> cases b6 <;> rfl
  · intro kx kn
    have h2 : decide ((s.size : Int) < (s.size : Int)) = false := by simp
    simp only [li_IsName_0, h2, cond_false]

/-! ### charts -/
def stepB (l : List DY0) (i : Nat) : Bool :=
  within (l.getD i Z0).1 1 1000 && within (l.getD i Z0).2.1 0 50000 &&
    (decide (i = 0) || (decide ((l.getD (i - 1) Z0).1 < (l.getD i Z0).1) && decide ((l.getD i Z0).2.1 ≤ (l.getD (i - 1) Z0).2.1)))
def chartB (l : List DY0) : Bool := allB l.length (stepB l) && within (l.length : Int) 1 20

theorem dle (a b : Int) : decide (a ≤ b) = !decide (b < a) := by rw [Bool.eq_iff_iff]; simp
theorem dgt (a b : Int) : decide (a > b) = decide (b < a) := rfl
theorem dge (a b : Int) : decide (a ≥ b) = decide (b ≤ a) := rfl

theorem e_s_chart {K : Nat} (hK : BigK K) (l : List DY0) (hl : l.length ≤ maxLen) : gs_l03Ok K l = some (chartB l, ()) := by
  unfold gs_l03Ok chartB
  have hm : maxLen = 9223372036854775807 := by decide
  rw [iter_all l.length (stepB l) (fun i => (l, (i : Int), ())) (.inl (l, false, ())) (.inr (l, ())) ?_ ?_ (by omega)]
  · simp only [e_s_in, Option.bind_some]
    cases allB l.length (stepB l) <;> simp
  · intro i hi _ kx kn
    have h2 : decide ((i : Int) < (l.length : Int)) = true := by simp; omega
    simp only [ls_l03Ok_0, h2, cond_true, atIdx_nat hi, e_s_in, Option.bind_some]
    rw [wi (n := (i : Int) + 1) (by omega), wi (n := (i : Int) - 1) (by omega)]
    unfold stepB
    by_cases h0 : i = 0
    · subst h0
      simp
      generalize within (l[0]?.getD Z0).1 1 1000 = b1; generalize within (l[0]?.getD Z0).2.1 0 50000 = b2
      cases b1 <;> cases b2 <;> rfl
    · have h3 : decide ((i : Int) > 0) = true := by simp; omega
      have h4 : (i : Int) - 1 = ((i - 1 : Nat) : Int) := by omega
      rw [h3, h4]
      simp only [cond_true, atIdx_nat (show i - 1 < l.length by omega), h0, decide_false, Bool.false_or, dgt]
      simp only [dle]
      generalize within (l.getD i Z0).1 1 1000 = b1; generalize within (l.getD i Z0).2.1 0 50000 = b2
      generalize decide ((l.getD (i - 1) Z0).1 < (l.getD i Z0).1) = b3; generalize decide ((l.getD (i - 1) Z0).2.1 < (l.getD i Z0).2.1) = b4
      cases b1 <;> cases b2 <;> cases b3 <;> cases b4 <;> rfl
  · intro kx kn
    have h2 : decide ((l.length : Int) < (l.length : Int)) = false := by simp
    simp only [ls_l03Ok_0, h2, cond_false]

theorem e_i_chart {K : Nat} (hK : BigK K) (l : List DY0) (hl : l.length ≤ maxLen) : gi_ValidChart K l = some (chartB l, ()) := by
  unfold gi_ValidChart chartB
  have hm : maxLen = 9223372036854775807 := by decide
  rw [iter_all l.length (stepB l) (fun i => (l, l, (l.length : Int), (i : Int), ())) (.inl (l, false, ())) (.inr (l, ())) ?_ ?_ (by omega)]
  · simp only [bl1]
    cases allB l.length (stepB l) <;> simp [within]
  · intro i hi _ kx kn
    have h2 : decide ((i : Int) < (l.length : Int)) = true := by simp; omega
    simp only [li_ValidChart_0, h2, cond_true, atIdx_nat hi, e_i_within, Option.bind_some]
    rw [wi (n := (i : Int) + 1) (by omega), wi (n := (i : Int) - 1) (by omega)]
    unfold stepB
    by_cases h0 : i = 0
    · subst h0
      simp
      generalize within (l[0]?.getD Z0).1 1 1000 = b1; generalize within (l[0]?.getD Z0).2.1 0 50000 = b2
      cases b1 <;> cases b2 <;> rfl
    · have h3 : decide ((i : Int) > 0) = true := by simp; omega
      have h4 : (i : Int) - 1 = ((i - 1 : Nat) : Int) := by omega
      rw [h3, h4]
      simp only [cond_true, atIdx_nat (show i - 1 < l.length by omega), h0, decide_false, Bool.false_or, dgt]
      simp only [dle]
      generalize within (l.getD i Z0).1 1 1000 = b1; generalize within (l.getD i Z0).2.1 0 50000 = b2
      generalize decide ((l.getD (i - 1) Z0).1 < (l.getD i Z0).1) = b3; generalize decide ((l.getD (i - 1) Z0).2.1 < (l.getD i Z0).2.1) = b4
      cases b1 <;> cases b2 <;> cases b3 <;> cases b4 <;> rfl
  · intro kx kn
    have h2 : decide ((l.length : Int) < (l.length : Int)) = false := by simp
    simp only [li_ValidChart_0, h2, cond_false]

/-! ### cranes -/
def lastR (l : List DY0) : Int := (l.getD (l.length - 1) Z0).1
def craneB (c : DY1) : Bool :=
  nameB c.1 && (placeB c.2.1 && (within c.2.2.1 1 2000 && (within c.2.2.2.1 1 1000 && (within c.2.2.2.2.1 0 c.2.2.2.1 && (chartB c.2.2.2.2.2.1 && decide (lastR c.2.2.2.2.2.1 ≤ c.2.2.2.1))))))

/-- lengths that there are -/
structure LenC (c : DY1) : Prop where
  name : c.1.size ≤ maxLen
  chart : c.2.2.2.2.2.1.length ≤ maxLen

theorem chartB_len {l : List DY0} (h : chartB l = true) : 1 ≤ l.length ∧ l.length ≤ 20 := by
  simp only [chartB, within, Bool.and_eq_true, decide_eq_true_eq] at h
  omega

theorem e_s_crane {K : Nat} (hK : BigK K) (c : DY1) (hc : LenC c) : gs_l04Ok K c = some (craneB c, ()) := by
  unfold gs_l04Ok craneB
  simp only [e_s_name hK, e_s_place, e_s_in, e_s_chart hK _ hc.chart, Option.bind_some]
  cases nameB c.1 <;> simp
  cases placeB c.2.1 <;> simp
  cases within c.2.2.1 1 2000 <;> simp
  cases within c.2.2.2.1 1 1000 <;> simp
  cases within c.2.2.2.2.1 0 c.2.2.2.1 <;> simp
  cases h : chartB c.2.2.2.2.2.1 <;> simp
  have hl := chartB_len h
  unfold gs_l03Last
  rw [wi (by omega), show (c.2.2.2.2.2.1.length : Int) - 1 = ((c.2.2.2.2.2.1.length - 1 : Nat) : Int) by omega, atIdx_nat (by omega)]
  simp [lastR]

theorem e_i_crane {K : Nat} (hK : BigK K) (c : DY1) (hc : LenC c) : gi_ValidCrane K c = some (craneB c, ()) := by
  unfold gi_ValidCrane craneB
  simp only [e_i_name hK _ hc.name, e_i_place, e_i_within, e_i_chart hK _ hc.chart, Option.bind_some]
  cases nameB c.1 <;> simp
  cases placeB c.2.1 <;> simp
  cases within c.2.2.1 1 2000 <;> simp
  cases within c.2.2.2.1 1 1000 <;> simp
  cases within c.2.2.2.2.1 0 c.2.2.2.1 <;> simp
  cases h : chartB c.2.2.2.2.2.1 <;> simp
  have hl := chartB_len h
  rw [wi (by omega), show (c.2.2.2.2.2.1.length : Int) - 1 = ((c.2.2.2.2.2.1.length - 1 : Nat) : Int) by omega, atIdx_nat (by omega)]
  simp [lastR]

/-! ### sites -/
/-- the square of the distance as the program computes it -/
def sqW (a b : DY0) : Int := IntKind.wrap .i64 ((IntKind.wrap .i64 ((IntKind.wrap .i64 (a.1 - b.1)) * (IntKind.wrap .i64 (a.1 - b.1)))) + (IntKind.wrap .i64 ((IntKind.wrap .i64 (a.2.1 - b.2.1)) * (IntKind.wrap .i64 (a.2.1 - b.2.1)))))
theorem e_s_square (K : Nat) (a b : DY0) : gs_l02Square K a b = some (sqW a b, ()) := rfl
theorem e_i_square (K : Nat) (a b : DY0) : gi_square K a b = some (sqW a b, ()) := rfl
def apartB (a b : DY1) : Bool := !strEq a.1 b.1 && decide (100 < sqW a.2.1 b.2.1)
def craneAt (x : List DY1) (i : Nat) : DY1 := x.getD i Z1
def siteAtB (x : List DY1) (i : Nat) : Bool := craneB (craneAt x i) && allB i fun k => apartB (craneAt x k) (craneAt x i)
def siteB (x : List DY1) : Bool := allB x.length (siteAtB x) && within (x.length : Int) 1 6
/-- lengths that there are -/
structure LenS (x : List DY1) : Prop where
  len : x.length ≤ maxLen
  all : ∀ i, i < x.length → LenC (craneAt x i)

theorem e_s_site {K : Nat} (hK : BigK K) (x : DY2) (hx : LenS x.1) : gs_l04Site K x = some (siteB x.1, ()) := by
  obtain ⟨x, u⟩ := x
  unfold gs_l04Site siteB
  have hm : maxLen = 9223372036854775807 := by decide
  have hlen := hx.len
  simp only at hx hlen
  rw [iter_all x.length (siteAtB x) (fun i => ((x, u), (i : Int), ())) (.inl ((x, u), false, ())) (.inr ((x, u), ())) ?_ ?_ (by omega)]
  · simp only [e_s_in, Option.bind_some]
    cases allB x.length (siteAtB x) <;> simp
  · intro i hi _ kx kn
    have h2 : decide ((i : Int) < (x.length : Int)) = true := by simp; omega
    simp only [ls_l04Site_0, h2, cond_true, atIdx_nat hi, e_s_crane hK _ (hx.all i hi), Option.bind_some]
    change _ = cond (craneB (x.getD i Z1) && allB i fun k => apartB (craneAt x k) (craneAt x i)) _ _
    have e := e_s_crane hK _ (hx.all i hi)
    unfold craneAt at e
    rw [e]
    cases hc : craneB (x.getD i Z1)
    · simp
    · simp only [Option.bind_some, Bool.not_true, cond_false, Bool.true_and]
      rw [iter_all i (fun k => apartB (craneAt x k) (craneAt x i)) (fun k => ((x, u), (i : Int), (k : Int), ())) (.inl ((x, u), false, (i : Int), ())) (.inr ((x, u), (i : Int), ())) ?_ ?_ (by omega)]
      · have e1 : IntKind.wrap .i64 ((i : Int) + 1) = (i : Int) + 1 := wi (by omega)
        cases allB i (fun k => apartB (craneAt x k) (craneAt x i)) <;> simp [e1]
      · intro k hk _ kx kn
        have h3 : decide ((k : Int) < (i : Int)) = true := by simp; omega
        simp only [ls_l04Site_1, h3, cond_true, atIdx_nat hi, atIdx_nat (show k < x.length by omega), gs_l04Far, e_s_square, Option.bind_some]
        rw [wi (n := (k : Int) + 1) (by omega), show IntKind.wrap .i64 ((10 : Int) * 10) = 100 by decide]
        unfold apartB craneAt
        simp only [dgt]
        generalize strEq (x.getD k Z1).1 (x.getD i Z1).1 = b1
        generalize decide (100 < sqW (x.getD k Z1).2.1 (x.getD i Z1).2.1) = b2
        cases b1 <;> cases b2 <;> rfl
      · intro kx kn
        have h3 : decide ((i : Int) < (i : Int)) = false := by simp
        simp only [ls_l04Site_1, h3, cond_false]
  · intro kx kn
    have h2 : decide ((x.length : Int) < (x.length : Int)) = false := by simp
    simp only [ls_l04Site_0, h2, cond_false]

theorem getD_take {α : Type} {x : List α} {i k : Nat} {d : α} (h : k < i) : (x.take i).getD k d = x.getD k d := by
  simp only [List.getD]
  rw [List.getElem?_take_of_lt h]

theorem e_i_site {K : Nat} (hK : BigK K) (x : DY2) (hx : LenS x.1) : gi_ValidSite K x = some (siteB x.1, ()) := by
  obtain ⟨x, u⟩ := x
  unfold gi_ValidSite siteB
  have hm : maxLen = 9223372036854775807 := by decide
  have hlen := hx.len
  simp only at hx hlen
  rw [iter_all x.length (siteAtB x) (fun i => (x, (x.length : Int), (i : Int), (x, u), ())) (.inl (false, (x, u), ())) (.inr ((x, u), ())) ?_ ?_ (by omega)]
  · simp only [bl1]
    cases allB x.length (siteAtB x) <;> simp [within]
  · intro i hi _ kx kn
    have h2 : decide ((i : Int) < (x.length : Int)) = true := by simp; omega
    have e := e_i_crane hK _ (hx.all i hi)
    unfold craneAt at e
    simp only [li_ValidSite_0, h2, cond_true, atIdx_nat hi, e, Option.bind_some]
    change _ = cond (craneB (x.getD i Z1) && allB i fun k => apartB (craneAt x k) (craneAt x i)) _ _
    cases hc : craneB (x.getD i Z1)
    · simp
    · have h3 : decide (0 ≤ (i : Int)) = true := by simp
      have h4 : decide ((i : Int) ≤ (x.length : Int)) = true := by simp; omega
      simp only [Bool.not_true, cond_false, Bool.true_and, h3, h4, cond_true, List.drop_zero, Int.toNat_natCast]
      have hl : (x.take i).length = i := by rw [List.length_take]; omega
      rw [hl]
      rw [iter_all i (fun k => apartB (craneAt x k) (craneAt x i)) (fun k => (x, (x.length : Int), (i : Int), x.take i, (i : Int), (k : Int), x.getD i Z1, (x, u), ())) (.inl (false, x, (x.length : Int), (i : Int), (x, u), ())) (.inr (x, (x.length : Int), (i : Int), (x, u), ())) ?_ ?_ (by omega)]
      · have e1 : IntKind.wrap .i64 ((i : Int) + 1) = (i : Int) + 1 := wi (by omega)
        cases allB i (fun k => apartB (craneAt x k) (craneAt x i)) <;> simp [e1]
      · intro k hk _ kx kn
        have h3 : decide ((k : Int) < (i : Int)) = true := by simp; omega
        simp only [li_ValidSite_1, h3, cond_true, hl, atIdx_nat hk, gi_near, e_i_square, Option.bind_some, getD_take hk]
        rw [wi (n := (k : Int) + 1) (by omega), show IntKind.wrap .i64 ((10 : Int) * 10) = 100 by decide]
        unfold apartB craneAt
        rw [dle]
        generalize strEq (x.getD k Z1).1 (x.getD i Z1).1 = b1
        generalize decide (100 < sqW (x.getD k Z1).2.1 (x.getD i Z1).2.1) = b2
        cases b1 <;> cases b2 <;> rfl
      · intro kx kn
        have h3 : decide ((i : Int) < (i : Int)) = false := by simp
        simp only [li_ValidSite_1, h3, cond_false]
  · intro kx kn
    have h2 : decide ((x.length : Int) < (x.length : Int)) = false := by simp
    simp only [li_ValidSite_0, h2, cond_false]

/-! ### sizes -/
def szCraneP (c : DY1) (left : Int) : Int :=
  if left - (c.1.size : Int) < 0 then -1 else if left - (c.1.size : Int) - (c.2.2.2.2.2.1.length : Int) < 0 then -1 else left - (c.1.size : Int) - (c.2.2.2.2.2.1.length : Int)
def szCranesP : List DY1 → Int → Int
  | [], left => left
  | c :: cs, left => if szCraneP c left < 0 then -1 else szCranesP cs (szCraneP c left)
def szSiteP (x : List DY1) (left : Int) : Int := if left - (x.length : Int) < 0 then -1 else szCranesP x (left - (x.length : Int))

theorem e_szChart {K : Nat} {l : List DY0} {left : Int} (hl : l.length ≤ maxLen) (h : 0 ≤ left ∧ left ≤ 1048576) :
    gw_szChartStepS K l left = some (if left - (l.length : Int) < 0 then -1 else left - (l.length : Int), ()) := by
  have hm : maxLen = 9223372036854775807 := by decide
  unfold gw_szChartStepS
  rw [wi (by omega)]
  by_cases h0 : left - (l.length : Int) < 0 <;> simp [h0]

theorem szCraneP_le {c : DY1} {left : Int} (h : 0 ≤ left ∧ left ≤ 1048576) : szCraneP c left ≤ left ∧ -1 ≤ szCraneP c left := by
  unfold szCraneP; split
  · omega
  · split <;> omega

theorem e_szCrane {K : Nat} {c : DY1} {left : Int} (hc : LenC c) (h : 0 ≤ left ∧ left ≤ 1048576) : gw_szCrane K c left = some (szCraneP c left, ()) := by
  have hm : maxLen = 9223372036854775807 := by decide
  have h1 := hc.name
  unfold gw_szCrane szCraneP
  rw [wi (by omega)]
  by_cases h0 : left - (c.1.size : Int) < 0
  · simp [h0]
  · have h2 : decide (left - (c.1.size : Int) < 0) = false := by simp [h0]
    rw [h2, e_szChart hc.chart (by omega)]
    simp only [cond_false, Option.bind_some, h0, if_false]
    by_cases h3 : left - (c.1.size : Int) - (c.2.2.2.2.2.1.length : Int) < 0
    · simp [h3]
    · simp [h3]

theorem szCranesP_le : ∀ {x : List DY1} {left : Int}, (0 ≤ left ∧ left ≤ 1048576) → szCranesP x left ≤ left ∧ -1 ≤ szCranesP x left
  | [], left, h => by unfold szCranesP; omega
  | c :: cs, left, h => by
    have h1 := szCraneP_le (c := c) h
    unfold szCranesP
    split
    · omega
    · have := szCranesP_le (x := cs) (left := szCraneP c left) (by omega)
      omega

theorem e_szCranes_loop {K : Nat} {R : Type} {x : List DY1} (hx : LenS x) (kx : ((Int × Int × Unit) ⊕ (Int × Unit)) → Option R) (out : Int → Option R)
    (h1 : ∀ a, a < 0 → kx (.inl (a, -1, ())) = out (-1)) (h2 : ∀ a, kx (.inr (a, ())) = out a) :
    ∀ (n i k : Nat) (left : Int), i + n = x.length → n < k → (0 ≤ left ∧ left ≤ 1048576) → iter (lw_szCraneS_0 K) k (x, left, (i : Int), ()) kx = out (szCranesP (x.drop i) left)
  | _, _, 0, _, _, hk, _ => absurd hk (Nat.not_lt_zero _)
  | 0, i, k + 1, left, hi, hk, hl => by
    have : i = x.length := by omega
    subst this
    have h3 : decide ((x.length : Int) < (x.length : Int)) = false := by simp
    rw [iter_succ]
    simp only [lw_szCraneS_0, h3, cond_false, h2, List.drop_length, szCranesP]
  | n + 1, i, k + 1, left, hi, hk, hl => by
    have hlt : i < x.length := by omega
    have hm : maxLen = 9223372036854775807 := by decide
    have hlen := hx.len
    have h3 : decide ((i : Int) < (x.length : Int)) = true := by simp; omega
    have hc := hx.all i hlt
    unfold craneAt at hc
    rw [iter_succ]
    simp only [lw_szCraneS_0, h3, cond_true, atIdx_nat hlt, e_szCrane hc hl, Option.bind_some]
    rw [List.drop_eq_getElem_cons hlt, wi (by omega)]
    have hg : x.getD i Z1 = x[i] := by simp [List.getD, List.getElem?_eq_getElem hlt]
    rw [hg] at *
    unfold szCranesP
    by_cases h0 : szCraneP x[i] left < 0
    · simp [h0, h1]
    · have := szCraneP_le (c := x[i]) hl
      simp only [h0, decide_false, cond_false, if_false]
      exact e_szCranes_loop hx kx out h1 h2 n (i + 1) k _ (by omega) (by omega) (by omega)

theorem e_szCranes {K : Nat} (hK : BigK K) {R : Type} {x : List DY1} (hx : LenS x) (kx : ((Int × Int × Unit) ⊕ (Int × Unit)) → Option R) (out : Int → Option R)
    (h1 : ∀ a, a < 0 → kx (.inl (a, -1, ())) = out (-1)) (h2 : ∀ a, kx (.inr (a, ())) = out a) {left : Int} (h : 0 ≤ left ∧ left ≤ 1048576) :
    iter (lw_szCraneS_0 K) K (x, left, 0, ()) kx = out (szCranesP x left) := by
  have hm : maxLen = 9223372036854775807 := by decide
  have hlen := hx.len
  exact e_szCranes_loop (K := K) hx kx out h1 h2 x.length 0 K left (by omega) (by omega) h

theorem e_szSite {K : Nat} (hK : BigK K) {x : DY2} (hx : LenS x.1) : gw_szSite K x 1048576 = some (szSiteP x.1 1048576, ()) := by
  have hm : maxLen = 9223372036854775807 := by decide
  have hlen := hx.len
  unfold gw_szSite gw_szCraneS szSiteP
  rw [wi (by omega)]
  by_cases h0 : (1048576 : Int) - (x.1.length : Int) < 0
  · simp [h0]
  · simp only [h0, decide_false, cond_false, if_false]
    rw [e_szCranes hK hx _ (fun a => some (a, ())) (fun a _ => rfl) (fun a => rfl) (by omega)]
    have := szCranesP_le (x := x.1) (left := 1048576 - (x.1.length : Int)) (by omega)
    simp only [Option.bind_some]
    by_cases h1 : szCranesP x.1 (1048576 - (x.1.length : Int)) < 0
    · have : szCranesP x.1 (1048576 - (x.1.length : Int)) = -1 := by omega
      simp [this]
    · simp [h1]

/-- what the bound on a site's size says -/
structure SmallS (x : List DY1) : Prop where
  len : x.length ≤ 1048576
  all : ∀ c ∈ x, c.1.size ≤ 1048576 ∧ c.2.2.2.2.2.1.length ≤ 1048576

theorem szCranesP_small : ∀ {x : List DY1} {left : Int}, (0 ≤ left ∧ left ≤ 1048576) → 0 ≤ szCranesP x left → ∀ c ∈ x, c.1.size ≤ 1048576 ∧ c.2.2.2.2.2.1.length ≤ 1048576
  | [], left, h, h1 => fun c hc => by cases hc
  | c :: cs, left, h, h1 => by
    have h2 := szCraneP_le (c := c) h
    unfold szCranesP at h1
    split at h1
    · omega
    · intro d hd
      rcases List.mem_cons.mp hd with rfl | hd
      · rename_i h3
        unfold szCraneP at h3
        split at h3
        · omega
        · split at h3 <;> omega
      · exact szCranesP_small (by omega) h1 d hd

theorem szSite_small {x : List DY1} (h : 0 ≤ szSiteP x 1048576) : SmallS x := by
  unfold szSiteP at h
  split at h
  · omega
  · exact ⟨by omega, szCranesP_small (by omega) h⟩

/-! ### copies -/
theorem set_len {α : Type} {l : List α} {a : α} {i : Nat} : (l.set i a).length = l.length := List.length_set
/-- filling a list one after the other -/
theorem fillD {α : Type} {x : List α} {d z : α} {i : Nat} (hi : i < x.length) : (x.take i ++ List.replicate (x.length - i) z).set i (x.getD i d) = x.take (i + 1) ++ List.replicate (x.length - (i + 1)) z := by
  have hg : x.getD i d = x[i] := by simp [List.getD, List.getElem?_eq_getElem hi]
  rw [hg]
  apply List.ext_getElem?
  intro j
  have hl : (x.take i).length = i := by rw [List.length_take]; omega
  have hl' : (x.take (i + 1)).length = i + 1 := by rw [List.length_take]; omega
  rw [List.getElem?_set]
  by_cases h : i = j
  · subst h
    simp [hl, hl', List.getElem?_append, hi]
    omega
  · simp only [h, if_false, List.getElem?_append, hl, hl', List.getElem?_take, List.getElem?_replicate]
    by_cases h1 : j < i
    · have h2 : j < i + 1 := by omega
      simp [h1, h2]
    · have h2 : ¬ j < i + 1 := by omega
      simp only [h1, h2, if_false]
      have : (j - i < x.length - i) ↔ (j - (i + 1) < x.length - (i + 1)) := by omega
      simp only [this]

theorem e_toChart {K : Nat} (hK : BigK K) {l : List DY0} (hl : l.length ≤ 1048576) : gw_toChartStepS K l = some (l, ()) := by
  unfold gw_toChartStepS
  have h1 : decide (0 ≤ (l.length : Int)) = true := by simp
  have h2 : decide ((l.length : Int) * (16 + 1) ≤ (roomB : Int)) = true := by
    have : roomB = 70368744177664 := by decide
    rw [this]; simp; omega
  rw [h1, h2]
  simp only [cond_true, Int.toNat_natCast]
  rw [iter_to l.length (fun i => (l, (i : Int), l.take i ++ List.replicate (l.length - i) ((0, (0, ())) : DY0), ())) (l, ()) ?_ ?_ (by omega) (h0 := by simp)]
  · intro i hi kx kn
    have h3 : decide ((i : Int) < (l.length : Int)) = true := by simp; omega
    have h4 : i < (l.take i ++ List.replicate (l.length - i) ((0, (0, ())) : DY0)).length := by simp; omega
    simp only [lw_toChartStepS_0, h3, cond_true, atIdx_nat hi, atIdx_nat h4, gw_toChartStep, Option.bind_some]
    rw [wi (by omega), fillD hi]
    rfl
  · intro kx kn
    have h3 : decide ((l.length : Int) < (l.length : Int)) = false := by simp
    simp [lw_toChartStepS_0, h3]

theorem e_toCrane {K : Nat} (hK : BigK K) {c : DY1} (hc : c.2.2.2.2.2.1.length ≤ 1048576) : gw_toCrane K c = some (c, ()) := by
  unfold gw_toCrane
  simp only [gw_toPoint, e_toChart hK hc, Option.bind_some]

theorem e_toSite {K : Nat} (hK : BigK K) {x : DY2} (hx : SmallS x.1) : gw_toSite K x = some (x, ()) := by
  obtain ⟨x, u⟩ := x
  unfold gw_toSite gw_toCraneS
  have hlen := hx.len
  simp only at hx hlen
  have h1 : decide (0 ≤ (x.length : Int)) = true := by simp
  have h2 : decide ((x.length : Int) * (80 + 1) ≤ (roomB : Int)) = true := by
    have : roomB = 70368744177664 := by decide
    rw [this]; simp; omega
  simp only [h1, h2, cond_true, Int.toNat_natCast]
  rw [iter_to x.length (fun i => (x, (i : Int), x.take i ++ List.replicate (x.length - i) ((⟨#[]⟩, ((0, (0, ())), (0, (0, (0, ([], ())))))) : DY1), ())) (x, ()) ?_ ?_ (by omega) (h0 := by simp)]
  · simp
  · intro i hi kx kn
    have h3 : decide ((i : Int) < (x.length : Int)) = true := by simp; omega
    have h4 : i < (x.take i ++ List.replicate (x.length - i) ((⟨#[]⟩, ((0, (0, ())), (0, (0, (0, ([], ())))))) : DY1)).length := by simp; omega
    have hg : x.getD i Z1 = x[i] := by simp [List.getD, List.getElem?_eq_getElem hi]
    have hc : (x.getD i Z1).2.2.2.2.2.1.length ≤ 1048576 := by rw [hg]; exact (hx.all _ (List.getElem_mem hi)).2
    simp only [lw_toCraneS_0, h3, cond_true, atIdx_nat hi, atIdx_nat h4, e_toCrane hK hc, Option.bind_some]
    rw [wi (by omega), fillD hi]
    rfl
  · intro kx kn
    have h3 : decide ((x.length : Int) < (x.length : Int)) = false := by simp
    simp [lw_toCraneS_0, h3]

/-! ### a value equals itself -/
theorem e_eqChart {K : Nat} (hK : BigK K) {l : List DY0} (hl : l.length ≤ 1048576) : gw_eqChartStepS K l l = some (true, ()) := by
  unfold gw_eqChartStepS
  simp only [bne_self_eq_false, cond_false]
  rw [iter_to l.length (fun i => (l, l, (i : Int), ())) (.inr ()) ?_ ?_ (by omega)]
  · intro i hi kx kn
    have h3 : decide ((i : Int) < (l.length : Int)) = true := by simp; omega
    simp only [lw_eqChartStepS_0, h3, cond_true, atIdx_nat hi, gw_eqChartStep, bne_self_eq_false, cond_false, Option.bind_some, Bool.not_true]
    rw [wi (by omega)]; rfl
  · intro kx kn
    have h3 : decide ((l.length : Int) < (l.length : Int)) = false := by simp
    simp [lw_eqChartStepS_0, h3]

theorem e_eqCrane {K : Nat} (hK : BigK K) {c : DY1} (hc : c.2.2.2.2.2.1.length ≤ 1048576) : gw_eqCrane K c c = some (true, ()) := by
  unfold gw_eqCrane
  simp only [strEq_refl, gw_eqPoint, bne_self_eq_false, cond_false, Bool.not_true, Option.bind_some, e_eqChart hK hc]

theorem e_eqSite {K : Nat} (hK : BigK K) {x : DY2} (hx : SmallS x.1) : gw_eqSite K x x = some (true, ()) := by
  obtain ⟨x, u⟩ := x
  unfold gw_eqSite gw_eqCraneS
  have hlen := hx.len
  simp only at hx hlen
  simp only [bne_self_eq_false, cond_false]
  rw [iter_to x.length (fun i => (x, x, (i : Int), ())) (.inr ()) ?_ ?_ (by omega)]
  · simp
  · intro i hi kx kn
    have h3 : decide ((i : Int) < (x.length : Int)) = true := by simp; omega
    have hg : x.getD i Z1 = x[i] := by simp [List.getD, List.getElem?_eq_getElem hi]
    have hc : (x.getD i Z1).2.2.2.2.2.1.length ≤ 1048576 := by rw [hg]; exact (hx.all _ (List.getElem_mem hi)).2
    simp only [lw_eqCraneS_0, h3, cond_true, atIdx_nat hi, e_eqCrane hK hc, cond_false, Option.bind_some, Bool.not_true]
    rw [wi (by omega)]; rfl
  · intro kx kn
    have h3 : decide ((x.length : Int) < (x.length : Int)) = false := by simp
    simp [lw_eqCraneS_0, h3]

/-- lengths out of what was handed in -/
theorem lenS_of {x : DY2} (h : Wf Y2 x) : LenS x.1 := by
  obtain ⟨x, u⟩ := x
  obtain ⟨⟨h1, h2⟩, _⟩ := h
  refine ⟨h1, fun i hi => ?_⟩
  have hg : craneAt x i = x[i] := by unfold craneAt; simp [List.getD, List.getElem?_eq_getElem hi]
  rw [hg]
  obtain ⟨a, b, c, d, e, f, g⟩ := h2 _ (List.getElem_mem hi)
  exact ⟨a, f.1⟩
end Go.Proofs.Vm
