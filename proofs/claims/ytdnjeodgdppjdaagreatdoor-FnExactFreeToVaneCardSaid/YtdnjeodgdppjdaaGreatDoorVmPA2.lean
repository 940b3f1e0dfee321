/- Directions, booms, distances, conflicts: what the printed functions compute (own work). -/
import Derived.Test.YtdnjeodgdppjdaaGreatDoorVmPA1
namespace Go.Proofs.Vm
open Go
set_option linter.unusedVariables false
set_option linter.unusedSimpArgs false

/-! ### directions -/
def vecT : List DY0 := [(1000, 0, ()), (966, 259, ()), (866, 500, ()), (707, 707, ()), (500, 866, ()), (259, 966, ()), (0, 1000, ()), ((-259), 966, ()), ((-500), 866, ()), ((-707), 707, ()), ((-866), 500, ()), ((-966), 259, ()), ((-1000), 0, ()), ((-966), (-259), ()), ((-866), (-500), ()), ((-707), (-707), ()), ((-500), (-866), ()), ((-259), (-966), ()), (0, (-1000), ()), (259, (-966), ()), (500, (-866), ()), (707, (-707), ()), (866, (-500), ()), (966, (-259), ())]
def vecP (d : Int) : DY0 := vecT.getD d.toNat Z0
theorem vecP_bd (d : Int) : PtB 1000 (vecP d) := by
  have h : ∀ p ∈ vecT, (-1000 ≤ p.1 ∧ p.1 ≤ 1000) ∧ (-1000 ≤ p.2.1 ∧ p.2.1 ≤ 1000) := by decide
  unfold vecP
  rcases Nat.lt_or_ge d.toNat vecT.length with hl | hl
  · have hg : vecT.getD d.toNat Z0 = vecT[d.toNat] := by simp [List.getD, List.getElem?_eq_getElem hl]
    rw [hg]
    have := h _ (List.getElem_mem hl)
    exact ⟨this.1, this.2⟩
  · have hg : vecT.getD d.toNat Z0 = Z0 := by simp [List.getD, List.getElem?_eq_none hl]
    rw [hg]
    exact ⟨⟨by decide, by decide⟩, ⟨by decide, by decide⟩⟩
theorem e_i_vector {K : Nat} (hK : BigK K) {d : Int} (hd : 0 ≤ d ∧ d < 24) : gi_vector K d = some (vecP d, ()) := by
  obtain ⟨k, rfl⟩ : ∃ k, K = k + 5 := ⟨K - 5, by omega⟩
  obtain ⟨n, rfl⟩ := Int.eq_ofNat_of_zero_le hd.1
  have hn : n < 24 := by omega
  clear hd hK
  exact match n, hn with | 0, _ => rfl | 1, _ => rfl | 2, _ => rfl | 3, _ => rfl | 4, _ => rfl | 5, _ => rfl | 6, _ => rfl | 7, _ => rfl | 8, _ => rfl | 9, _ => rfl | 10, _ => rfl | 11, _ => rfl | 12, _ => rfl | 13, _ => rfl | 14, _ => rfl | 15, _ => rfl | 16, _ => rfl | 17, _ => rfl | 18, _ => rfl | 19, _ => rfl | 20, _ => rfl | 21, _ => rfl | 22, _ => rfl | 23, _ => rfl | n + 24, h => absurd h (by omega)
theorem e_s_vector {K : Nat} (hK : BigK K) {d : Int} (hd : 0 ≤ d ∧ d < 24) : gs_l02Vector K d = some (vecP d, ()) := by
  obtain ⟨k, rfl⟩ : ∃ k, K = k + 5 := ⟨K - 5, by omega⟩
  obtain ⟨n, rfl⟩ := Int.eq_ofNat_of_zero_le hd.1
  have hn : n < 24 := by omega
  clear hd hK
  exact match n, hn with | 0, _ => rfl | 1, _ => rfl | 2, _ => rfl | 3, _ => rfl | 4, _ => rfl | 5, _ => rfl | 6, _ => rfl | 7, _ => rfl | 8, _ => rfl | 9, _ => rfl | 10, _ => rfl | 11, _ => rfl | 12, _ => rfl | 13, _ => rfl | 14, _ => rfl | 15, _ => rfl | 16, _ => rfl | 17, _ => rfl | 18, _ => rfl | 19, _ => rfl | 20, _ => rfl | 21, _ => rfl | 22, _ => rfl | 23, _ => rfl | n + 24, h => absurd h (by omega)

def placeP (p : DY0) (d r : Int) : DY0 := (p.1 + Int.tdiv ((vecP d).1 * r) 1000, p.2.1 + Int.tdiv ((vecP d).2.1 * r) 1000, ())
theorem tdiv_bd {x : Int} (h : -1000000 ≤ x ∧ x ≤ 1000000) : -1000 ≤ Int.tdiv x 1000 ∧ Int.tdiv x 1000 ≤ 1000 := by
  have h1 : (Int.tdiv x 1000).natAbs = x.natAbs / (1000 : Int).natAbs := Int.natAbs_tdiv x 1000
  have h2 : (1000 : Int).natAbs = 1000 := rfl
  rw [h2] at h1
  omega
theorem placeP_bd {p : DY0} {d r : Int} (hp : PtB 10000 p) (hr : 0 ≤ r ∧ r ≤ 1000) : PtB 11000 (placeP p d r) := by
  have hv := vecP_bd d
  have h1 := tdiv_bd (x := (vecP d).1 * r) (by have := mulB 1000 1000 hv.x (show -1000 ≤ r ∧ r ≤ 1000 by omega); omega)
  have h2 := tdiv_bd (x := (vecP d).2.1 * r) (by have := mulB 1000 1000 hv.y (show -1000 ≤ r ∧ r ≤ 1000 by omega); omega)
  have := hp.x; have := hp.y
  exact ⟨by simp only [placeP]; omega, by simp only [placeP]; omega⟩
theorem placeP_w {p : DY0} {d r : Int} (hp : PtB 10000 p) (hr : 0 ≤ r ∧ r ≤ 1000) :
    (IntKind.wrap .i64 (p.1 + (IntKind.wrap .i64 (Int.tdiv (IntKind.wrap .i64 ((vecP d).1 * r)) 1000))), (IntKind.wrap .i64 (p.2.1 + (IntKind.wrap .i64 (Int.tdiv (IntKind.wrap .i64 ((vecP d).2.1 * r)) 1000))), ())) = placeP p d r := by
  have hv := vecP_bd d
  have b1 := mulB 1000 1000 hv.x (show -1000 ≤ r ∧ r ≤ 1000 by omega)
  have b2 := mulB 1000 1000 hv.y (show -1000 ≤ r ∧ r ≤ 1000 by omega)
  have h1 := tdiv_bd (x := (vecP d).1 * r) (by omega)
  have h2 := tdiv_bd (x := (vecP d).2.1 * r) (by omega)
  have := hp.x; have := hp.y
  rw [wi (n := (vecP d).1 * r) (by omega), wi (n := (vecP d).2.1 * r) (by omega), wi (n := Int.tdiv ((vecP d).1 * r) 1000) (by omega), wi (n := Int.tdiv ((vecP d).2.1 * r) 1000) (by omega), wi (by omega), wi (by omega)]
  rfl
theorem e_i_placeAt {K : Nat} (hK : BigK K) {p : DY0} {d r : Int} (hp : PtB 10000 p) (hd : 0 ≤ d ∧ d < 24) (hr : 0 ≤ r ∧ r ≤ 1000) : gi_placeAt K p d r = some (placeP p d r, ()) := by
  unfold gi_placeAt
  simp only [e_i_vector hK hd, Option.bind_some, placeP_w hp hr]
theorem e_s_at {K : Nat} (hK : BigK K) {p : DY0} {d r : Int} (hp : PtB 10000 p) (hd : 0 ≤ d ∧ d < 24) (hr : 0 ≤ r ∧ r ≤ 1000) : gs_l02At K p d r = some (placeP p d r, ()) := by
  unfold gs_l02At
  simp only [e_s_vector hK hd, Option.bind_some, placeP_w hp hr]

/-- the remainder of a direction -/
def modD (n : Int) : Int := n % 24
theorem modD_bd (n : Int) : 0 ≤ modD n ∧ modD n < 24 := by unfold modD; omega
theorem tmod24 {n : Int} : Int.tmod (IntKind.wrap .i64 ((Int.tmod n 24) + 24)) 24 = modD n := by
  have h1 : (Int.tmod n 24).natAbs = n.natAbs % (24 : Int).natAbs := Int.natAbs_tmod n 24
  have h2 : (24 : Int).natAbs = 24 := rfl
  rw [h2] at h1
  rw [wi (by omega)]
  rw [Int.tmod_eq_emod_of_nonneg (by omega)]
  unfold modD
  have h3 : Int.tmod n 24 + 24 * Int.tdiv n 24 = n := Int.tmod_add_mul_tdiv n 24
  omega
theorem e_s_mod (K : Nat) (n : Int) : gs_l02Mod K n = some (modD n, ()) := by unfold gs_l02Mod; rw [tmod24]
theorem e_i_turned (K : Nat) (a b : Int) : gi_turned K a b = some (modD (IntKind.wrap .i64 (a + b)), ()) := by unfold gi_turned; rw [tmod24]
def oppD (d : Int) : Int := modD (d + 12)
theorem oppD_bd (d : Int) : 0 ≤ oppD d ∧ oppD d < 24 := modD_bd _
theorem e_i_opposite (K : Nat) {d : Int} (hd : 0 ≤ d ∧ d < 24) : gi_opposite K d = some (oppD d, ()) := by
  unfold gi_opposite oppD
  simp only [e_i_turned, Option.bind_some]
  rw [wi (by omega)]

/-! ### valid cranes -/
structure CrB (c : DY1) : Prop where
  at' : PtB 10000 c.2.1
  height : 1 ≤ c.2.2.1 ∧ c.2.2.1 ≤ 2000
  jib : 1 ≤ c.2.2.2.1 ∧ c.2.2.2.1 ≤ 1000
  back : 0 ≤ c.2.2.2.2.1 ∧ c.2.2.2.2.1 ≤ 1000
theorem crB_of {c : DY1} (h : craneB c = true) : CrB c := by
  simp only [craneB, placeB, within, Bool.and_eq_true, decide_eq_true_eq] at h
  obtain ⟨_, ⟨h1, h2⟩, h3, h4, h5, _⟩ := h
  exact ⟨⟨h1, h2⟩, h3, h4, by omega⟩
def boomP (c : DY1) (d : Int) : DY3 := (placeP c.2.1 (oppD d) c.2.2.2.2.1, placeP c.2.1 d c.2.2.2.1, ())
/-- a segment whose numbers are small -/
structure SegB (s : DY3) : Prop where
  a : PtB 11000 s.1
  b : PtB 11000 s.2.1
theorem boomP_bd {c : DY1} {d : Int} (hc : CrB c) : SegB (boomP c d) :=
  ⟨placeP_bd hc.at' hc.back, placeP_bd hc.at' (by have := hc.jib; omega)⟩
theorem mast_bd {c : DY1} (hc : CrB c) : SegB (c.2.1, (c.2.1, ())) := by
  have h1 := hc.at'.x; have h2 := hc.at'.y
  exact ⟨⟨by simp only; omega, by simp only; omega⟩, ⟨by simp only; omega, by simp only; omega⟩⟩
theorem e_i_boom {K : Nat} (hK : BigK K) {c : DY1} {d : Int} (hc : CrB c) (hd : 0 ≤ d ∧ d < 24) : gi_Crane_boom K c d = some (boomP c d, ()) := by
  unfold gi_Crane_boom gi_Crane_backEnd gi_Crane_jibEnd
  simp only [e_i_opposite K hd, Option.bind_some, e_i_placeAt hK hc.at' (oppD_bd d) hc.back, e_i_placeAt hK hc.at' hd (show 0 ≤ c.2.2.2.1 ∧ c.2.2.2.1 ≤ 1000 by have := hc.jib; omega)]
  rfl
theorem e_s_boom {K : Nat} (hK : BigK K) {c : DY1} {d : Int} (hc : CrB c) (hd : 0 ≤ d ∧ d < 24) : gs_l15Boom K c d = some (boomP c d, ()) := by
  unfold gs_l15Boom gs_l04Back gs_l04Jib
  rw [wi (by omega)]
  simp only [e_s_mod, Option.bind_some]
  have h := oppD_bd d
  unfold oppD at h
  simp only [Option.bind_some, e_s_at hK hc.at' h hc.back, e_s_at hK hc.at' hd (show 0 ≤ c.2.2.2.1 ∧ c.2.2.2.1 ≤ 1000 by have := hc.jib; omega)]
  rfl

/-! ### products -/
theorem sub_bd {x y : Int} (hx : Bd 11000 x) (hy : Bd 11000 y) : -22000 ≤ x - y ∧ x - y ≤ 22000 := by
  have := hx.1; have := hx.2; have := hy.1; have := hy.2; omega
theorem prod_bd {x y : Int} (hx : -22000 ≤ x ∧ x ≤ 22000) (hy : -22000 ≤ y ∧ y ≤ 22000) : -484000000 ≤ x * y ∧ x * y ≤ 484000000 := by
  have := mulB 22000 22000 hx hy; omega
theorem crossP_bd {a b p : DY0} (ha : PtB 11000 a) (hb : PtB 11000 b) (hp : PtB 11000 p) : -968000000 ≤ crossP a b p ∧ crossP a b p ≤ 968000000 := by
  have h1 := prod_bd (sub_bd hb.x ha.x) (sub_bd hp.y ha.y)
  have h2 := prod_bd (sub_bd hb.y ha.y) (sub_bd hp.x ha.x)
  unfold crossP; omega
theorem dotP_bd {a b p : DY0} (ha : PtB 11000 a) (hb : PtB 11000 b) (hp : PtB 11000 p) : -968000000 ≤ dotP a b p ∧ dotP a b p ≤ 968000000 := by
  have h1 := prod_bd (sub_bd hb.x ha.x) (sub_bd hp.x ha.x)
  have h2 := prod_bd (sub_bd hb.y ha.y) (sub_bd hp.y ha.y)
  unfold dotP; omega
theorem sqr_bd {a b : DY0} (ha : PtB 11000 a) (hb : PtB 11000 b) : 0 ≤ sqr a b ∧ sqr a b ≤ 968000000 := by
  have h1 := prod_bd (sub_bd ha.x hb.x) (sub_bd ha.x hb.x)
  have h2 := prod_bd (sub_bd ha.y hb.y) (sub_bd ha.y hb.y)
  have := sqr_nonneg a b
  refine ⟨this, ?_⟩
  unfold sqr; omega
theorem crossW {a b p : DY0} (ha : PtB 11000 a) (hb : PtB 11000 b) (hp : PtB 11000 p) :
    IntKind.wrap .i64 ((IntKind.wrap .i64 ((IntKind.wrap .i64 (b.1 - a.1)) * (IntKind.wrap .i64 (p.2.1 - a.2.1)))) - (IntKind.wrap .i64 ((IntKind.wrap .i64 (b.2.1 - a.2.1)) * (IntKind.wrap .i64 (p.1 - a.1))))) = crossP a b p := by
  have d1 := sub_bd hb.x ha.x; have d2 := sub_bd hp.y ha.y; have d3 := sub_bd hb.y ha.y; have d4 := sub_bd hp.x ha.x
  have h1 := prod_bd d1 d2; have h2 := prod_bd d3 d4
  rw [wi (n := b.1 - a.1) (by omega), wi (n := p.2.1 - a.2.1) (by omega), wi (n := b.2.1 - a.2.1) (by omega), wi (n := p.1 - a.1) (by omega), wi (n := (b.1 - a.1) * (p.2.1 - a.2.1)) (by omega), wi (n := (b.2.1 - a.2.1) * (p.1 - a.1)) (by omega), wi (by omega)]
  rfl
theorem dotW {a b p : DY0} (ha : PtB 11000 a) (hb : PtB 11000 b) (hp : PtB 11000 p) :
    IntKind.wrap .i64 ((IntKind.wrap .i64 ((IntKind.wrap .i64 (b.1 - a.1)) * (IntKind.wrap .i64 (p.1 - a.1)))) + (IntKind.wrap .i64 ((IntKind.wrap .i64 (b.2.1 - a.2.1)) * (IntKind.wrap .i64 (p.2.1 - a.2.1))))) = dotP a b p := by
  have d1 := sub_bd hb.x ha.x; have d2 := sub_bd hp.x ha.x; have d3 := sub_bd hb.y ha.y; have d4 := sub_bd hp.y ha.y
  have h1 := prod_bd d1 d2; have h2 := prod_bd d3 d4
  rw [wi (n := b.1 - a.1) (by omega), wi (n := p.1 - a.1) (by omega), wi (n := b.2.1 - a.2.1) (by omega), wi (n := p.2.1 - a.2.1) (by omega), wi (n := (b.1 - a.1) * (p.1 - a.1)) (by omega), wi (n := (b.2.1 - a.2.1) * (p.2.1 - a.2.1)) (by omega), wi (by omega)]
  rfl
theorem sqW_eq {a b : DY0} (ha : PtB 11000 a) (hb : PtB 11000 b) : sqW a b = sqr a b := by
  have d1 := sub_bd ha.x hb.x; have d2 := sub_bd ha.y hb.y
  have h1 := prod_bd d1 d1; have h2 := prod_bd d2 d2
  unfold sqW
  rw [wi (n := a.1 - b.1) (by omega), wi (n := a.2.1 - b.2.1) (by omega), wi (n := (a.1 - b.1) * (a.1 - b.1)) (by omega), wi (n := (a.2.1 - b.2.1) * (a.2.1 - b.2.1)) (by omega), wi (by omega)]
  rfl
theorem e_s_cross (K : Nat) {s : DY3} {p : DY0} (hs : SegB s) (hp : PtB 11000 p) : gs_l14Cross K s p = some (crossP s.1 s.2.1 p, ()) := by
  unfold gs_l14Cross; rw [crossW hs.a hs.b hp]
theorem e_i_side (K : Nat) {a b p : DY0} (ha : PtB 11000 a) (hb : PtB 11000 b) (hp : PtB 11000 p) : gi_side K a b p = some (crossP a b p, ()) := by
  unfold gi_side; rw [crossW ha hb hp]
theorem e_s_dot (K : Nat) {s : DY3} {p : DY0} (hs : SegB s) (hp : PtB 11000 p) : gs_l14Dot K s p = some (dotP s.1 s.2.1 p, ()) := by
  unfold gs_l14Dot; rw [dotW hs.a hs.b hp]
theorem e_s_sign (K : Nat) (n : Int) : gs_l14Sign K n = some (sgn n, ()) := by
  unfold gs_l14Sign sgn
  by_cases h1 : 0 < n
  · simp [h1]
  · by_cases h2 : n < 0 <;> simp [h1, h2]
theorem e_i_sign (K : Nat) (n : Int) : gi_sign K n = some (sgn n, ()) := by
  unfold gi_sign gcmp_Compare_int64 gcmp_isNaN_int64 sgn
  simp only [bne_self_eq_false, Option.bind_some, cond_false]
  by_cases h1 : 0 < n
  · have h3 : ¬ n < 0 := by omega
    simp [h1, h3]
  · by_cases h2 : n < 0 <;> simp [h1, h2]
theorem sgn_bd (n : Int) : -1 ≤ sgn n ∧ sgn n ≤ 1 := by unfold sgn; split <;> (try split) <;> omega
theorem sgn_zero (n : Int) : (sgn n == 0) = (n == 0) := by
  unfold sgn
  rw [Bool.eq_iff_iff]
  simp only [beq_iff_eq]
  split
  · omega
  · split <;> omega
theorem sgn_w (m n : Int) : IntKind.wrap .i64 (sgn m * sgn n) = sgn m * sgn n := by
  have := mulB 1 1 (sgn_bd m) (sgn_bd n)
  exact wi (by omega)

/-! ### meeting -/
theorem e_s_on (K : Nat) (s : DY3) (p : DY0) : gs_l14On K s p = some (inBox s.1 s.2.1 p, ()) := by
  unfold gs_l14On gs_l00Min gs_l00Max inBox
  have hmin (a b : Int) : (cond (decide (a < b)) (some (a, ())) (some (b, ()))) = some (min a b, ()) := by
    by_cases h : a < b
    · have : min a b = a := by omega
      simp [h, this]
    · have : min a b = b := by omega
      simp [h, this]
  have hmax (a b : Int) : (cond (decide (a > b)) (some (a, ())) (some (b, ()))) = some (max a b, ()) := by
    by_cases h : b < a
    · have : max a b = a := by omega
      simp [h, this]
    · have : max a b = b := by omega
      simp [h, this]
  simp only [hmin, hmax, Option.bind_some, e_s_in, bl1]
theorem e_i_covers (K : Nat) {s : DY3} {p : DY0} (hs : SegB s) (hp : PtB 11000 p) : gi_Segment_covers K s p = some (onSeg s.1 s.2.1 p, ()) := by
  unfold gi_Segment_covers onSeg inBox
  have hmin (a b : Int) : (if b < a then b else a) = min a b := by split <;> omega
  have hmax (a b : Int) : (if b > a then b else a) = max a b := by split <;> omega
  simp only [e_i_side K hs.a hs.b hp, hmin, hmax, Option.bind_some, e_i_within, bl1]
theorem e_i_meet (K : Nat) {s t : DY3} (hs : SegB s) (ht : SegB t) : gi_meet K s t = some (meetB s.1 s.2.1 t.1 t.2.1, ()) := by
  unfold gi_meet meetB
  simp only [e_i_covers K hs ht.a, e_i_covers K hs ht.b, e_i_covers K ht hs.a, e_i_covers K ht hs.b, e_i_side K hs.a hs.b ht.a, e_i_side K hs.a hs.b ht.b, e_i_side K ht.a ht.b hs.a, e_i_side K ht.a ht.b hs.b, e_i_sign, Option.bind_some, sgn_w, bl1, bl3, Bool.or_assoc]
theorem e_s_meet (K : Nat) {s t : DY3} (hs : SegB s) (ht : SegB t) : gs_l14Meet K s t = some (meetB s.1 s.2.1 t.1 t.2.1, ()) := by
  unfold gs_l14Meet meetB onSeg
  simp only [e_s_cross K hs ht.a, e_s_cross K hs ht.b, e_s_cross K ht hs.a, e_s_cross K ht hs.b, e_s_sign, Option.bind_some, sgn_w, sgn_zero, e_s_on]
  generalize inBox s.1 s.2.1 t.1 = b1; generalize inBox s.1 s.2.1 t.2.1 = b2; generalize inBox t.1 t.2.1 s.1 = b3; generalize inBox t.1 t.2.1 s.2.1 = b4
  generalize (crossP s.1 s.2.1 t.1 == 0) = c1; generalize (crossP s.1 s.2.1 t.2.1 == 0) = c2; generalize (crossP t.1 t.2.1 s.1 == 0) = c3; generalize (crossP t.1 t.2.1 s.2.1 == 0) = c4
  generalize decide (sgn (crossP s.1 s.2.1 t.1) * sgn (crossP s.1 s.2.1 t.2.1) < 0) = e1; generalize decide (sgn (crossP t.1 t.2.1 s.1) * sgn (crossP t.1 t.2.1 s.2.1) < 0) = e2
  cases e1 <;> cases e2 <;> cases c1 <;> cases b1 <;> cases c2 <;> cases b2 <;> cases c3 <;> cases b3 <;> cases c4 <;> cases b4 <;> rfl
end Go.Proofs.Vm
