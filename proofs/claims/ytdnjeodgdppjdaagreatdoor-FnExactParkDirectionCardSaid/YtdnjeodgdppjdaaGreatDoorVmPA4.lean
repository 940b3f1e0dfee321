/- The least distance, conflicts of two cranes: what the printed functions compute (own work). -/
import Derived.Test.YtdnjeodgdppjdaaGreatDoorVmPA3
namespace Go.Proofs.Vm
open Go
set_option linter.unusedVariables false
set_option linter.unusedSimpArgs false

def cmpP (a b : Int) : Int := if a < b then -1 else if b < a then 1 else 0
theorem e_cmp_u64 (K : Nat) (a b : Int) : gcmp_Compare_uint64 K a b = some (cmpP a b, ()) := by
  unfold gcmp_Compare_uint64 gcmp_isNaN_uint64 cmpP
  simp only [bne_self_eq_false, Option.bind_some, cond_false, dgt]
  by_cases h1 : a < b
  · simp [h1]
  · by_cases h2 : b < a <;> simp [h1, h2]
theorem e_or2 {K : Nat} (hK : BigK K) (a b : Int) : gcmp_Or_int K [a, b] = some (if a = 0 then b else a, ()) := by
  obtain ⟨k, hk⟩ : ∃ k, K = k + 3 := ⟨K - 3, by omega⟩
  unfold gcmp_Or_int
  have : iter (lcmp_Or_int_0 (R := Int × Unit) K) K = iter (lcmp_Or_int_0 (R := Int × Unit) K) (k + 3) := by rw [hk]
  rw [this, iter_succ]
  by_cases h1 : a = 0
  · subst h1
    by_cases h2 : b = 0
    · subst h2
      rfl
    · have e2 : (b != 0) = true := by simp [h2]
      have : lcmp_Or_int_0 (R := Int × Unit) K (0, [0, b], ↑[0, b].length, 0, ()) = fun kx kn => kn (0, [0, b], 2, 1, ()) := by rfl
      rw [this]
      simp only
      rw [iter_succ]
      have : lcmp_Or_int_0 (R := Int × Unit) K (0, [0, b], 2, 1, ()) = fun kx kn => cond (b != 0) (kx (.inl (b, 0, ()))) (kn (0, [0, b], 2, 2, ())) := by rfl
      rw [this, e2]
      simp
  · have e2 : (a != 0) = true := by simp [h1]
    have : lcmp_Or_int_0 (R := Int × Unit) K (0, [a, b], ↑[a, b].length, 0, ()) = fun kx kn => cond (a != 0) (kx (.inl (a, 0, ()))) (kn (0, [a, b], 2, 1, ())) := by rfl
    rw [this, e2]
    simp [h1]
theorem cmp2 (A B : Int) : (if cmpP (A / 18446744073709551616) (B / 18446744073709551616) = 0 then cmpP (A % 18446744073709551616) (B % 18446744073709551616) else cmpP (A / 18446744073709551616) (B / 18446744073709551616)) = cmpP A B := by
  unfold cmpP
  by_cases c1 : A / 18446744073709551616 < B / 18446744073709551616
  · have : A < B := by omega
    simp [c1, this]
  · by_cases c2 : B / 18446744073709551616 < A / 18446744073709551616
    · have h1 : ¬ A < B := by omega
      have h2 : B < A := by omega
      simp [c1, c2, h1, h2]
    · simp only [c1, c2, if_false, if_true]
      have e1 : (A % 18446744073709551616 < B % 18446744073709551616) ↔ A < B := by omega
      have e2 : (B % 18446744073709551616 < A % 18446744073709551616) ↔ B < A := by omega
      simp only [e1, e2]
theorem e_i_compare {K : Nat} (hK : BigK K) {f g : DY0} (hf : FrB f) (hg : FrB g) : ∃ r, gi_Fraction_compare K f g = some (r, ()) ∧ decide (r < 0) = fLess f g ∧ decide (r = 0) = decide (f.1 * g.2.1 = g.1 * f.2.1) ∧ -1 ≤ r ∧ r ≤ 1 := by
  have h1 := hf.num; have h2 := hf.den; have h3 := hg.num; have h4 := hg.den
  unfold gi_Fraction_compare
  rw [u64w (n := f.1) (by omega), u64w (n := g.2.1) (by omega), u64w (n := g.1) (by omega), u64w (n := f.2.1) (by omega)]
  simp only [e_mul64 K (show 0 ≤ f.1 ∧ f.1 ≤ 18446744073709551615 by omega) (show 0 ≤ g.2.1 ∧ g.2.1 ≤ 18446744073709551615 by omega), e_mul64 K (show 0 ≤ g.1 ∧ g.1 ≤ 18446744073709551615 by omega) (show 0 ≤ f.2.1 ∧ f.2.1 ≤ 18446744073709551615 by omega), Option.bind_some, e_cmp_u64, e_or2 hK]
  refine ⟨_, rfl, ?_, ?_, ?_⟩
  · rw [cmp2]; unfold fLess
    rw [Bool.eq_iff_iff]
    simp only [decide_eq_true_eq]
    unfold cmpP; split
    · omega
    · split <;> omega
  · rw [cmp2]
    rw [Bool.eq_iff_iff]
    simp only [decide_eq_true_eq]
    unfold cmpP; split
    · omega
    · split <;> omega
  · rw [cmp2]; unfold cmpP; split
    · omega
    · split <;> omega

/-! ### the least of four -/
theorem frB_pt {s : DY3} {p : DY0} (hs : SegB s) (hp : PtB 11000 p) : FrB (ptF s p) := by
  have h := ptF_of s p
  have h2 := pq_bd hs hp
  have := h.num; have := h.numle; have := h.den; have := h.denle
  exact ⟨by omega, by omega⟩
theorem frB_min {f g : DY0} (hf : FrB f) (hg : FrB g) : FrB (fMin f g) := by
  unfold fMin; split <;> assumption
def segF (s t : DY3) : DY0 := fMin (fMin (fMin (ptF s t.1) (ptF s t.2.1)) (ptF t s.1)) (ptF t s.2.1)
theorem e_s_square2 {K : Nat} (hK : BigK K) {s t : DY3} (hs : SegB s) (ht : SegB t) : gs_l14Square K s t = some (if meetB s.1 s.2.1 t.1 t.2.1 then (0, 1, ()) else segF s t, ()) := by
  unfold gs_l14Square
  simp only [e_s_meet K hs ht, e_s_ptSq hK hs ht.a, e_s_ptSq hK hs ht.b, e_s_ptSq hK ht hs.a, e_s_ptSq hK ht hs.b, Option.bind_some]
  cases meetB s.1 s.2.1 t.1 t.2.1
  · simp only [cond_false, Bool.false_eq_true, if_false]
    have b1 := frB_pt hs ht.a; have b2 := frB_pt hs ht.b; have b3 := frB_pt ht hs.a; have b4 := frB_pt ht hs.b
    unfold segF
    generalize ptF s t.1 = f1 at *; generalize ptF s t.2.1 = f2 at *; generalize ptF t s.1 = f3 at *; generalize ptF t s.2.1 = f4 at *
    obtain ⟨k, hk⟩ : ∃ k, K = k + 4 := ⟨K - 4, by omega⟩
    have : iter (ls_l14Square_0 (R := DY0 × Unit) K) K = iter (ls_l14Square_0 (R := DY0 × Unit) K) (k + 4) := by rw [hk]
    rw [this]
    have st (i : Nat) (f best : DY0) (hi : i < 3) (hg : [f2, f3, f4].getD i Z0 = f) (hf : FrB f) (hb : FrB best) (kx) (kn) : ls_l14Square_0 (R := DY0 × Unit) K ([f2, f3, f4], (i : Int), best, (0, (0, ())), ()) kx kn = kn ([f2, f3, f4], ((i + 1 : Nat) : Int), fMin best f, (0, (0, ())), ()) := by
      have h3 : decide ((i : Int) < (([f2, f3, f4] : List DY0).length : Int)) = true := by simp; omega
      simp only [ls_l14Square_0, h3, cond_true, atIdx_nat (show i < ([f2, f3, f4] : List DY0).length from hi), hg, e_s_less hK hf hb, Option.bind_some]
      rw [wi (by omega)]
      unfold fMin
      cases fLess f best <;> rfl
    rw [iter_succ]
    rw [show (([f2, f3, f4], 0, f1, (0, (0, ())), ()) : List DY0 × Int × DY0 × DY0 × Unit) = ([f2, f3, f4], ((0 : Nat) : Int), f1, (0, (0, ())), ()) from rfl]
    rw [st 0 f2 f1 (by omega) rfl b2 b1, iter_succ, st 1 f3 _ (by omega) rfl b3 (frB_min b1 b2), iter_succ, st 2 f4 _ (by omega) rfl b4 (frB_min (frB_min b1 b2) b3), iter_succ]
    have h3 : decide (((2 + 1 : Nat) : Int) < (([f2, f3, f4] : List DY0).length : Int)) = false := rfl
    simp only [ls_l14Square_0, h3, cond_false]
  · simp only [cond_true, if_true]
theorem e_i_segSq {K : Nat} (hK : BigK K) {s t : DY3} (hs : SegB s) (ht : SegB t) : gi_segmentSquare K s t = some (if meetB s.1 s.2.1 t.1 t.2.1 then (0, 1, ()) else segF s t, ()) := by
  unfold gi_segmentSquare
  simp only [e_i_meet K hs ht, e_i_ptSq hK hs ht.a, e_i_ptSq hK hs ht.b, e_i_ptSq hK ht hs.a, e_i_ptSq hK ht hs.b, Option.bind_some]
  cases meetB s.1 s.2.1 t.1 t.2.1
  · simp only [cond_false, Bool.false_eq_true, if_false]
    have b1 := frB_pt hs ht.a; have b2 := frB_pt hs ht.b; have b3 := frB_pt ht hs.a; have b4 := frB_pt ht hs.b
    unfold segF
    generalize ptF s t.1 = f1 at *; generalize ptF s t.2.1 = f2 at *; generalize ptF t s.1 = f3 at *; generalize ptF t s.2.1 = f4 at *
    obtain ⟨k, hk⟩ : ∃ k, K = k + 4 := ⟨K - 4, by omega⟩
    have : iter (li_segmentSquare_0 (R := DY0 × Unit) K) K = iter (li_segmentSquare_0 (R := DY0 × Unit) K) (k + 4) := by rw [hk]
    rw [this]
    have st (i : Nat) (f best : DY0) (hi : i < 3) (hg : [f2, f3, f4].getD i Z0 = f) (hf : FrB f) (hb : FrB best) (kx) (kn) : li_segmentSquare_0 (R := DY0 × Unit) K ([f2, f3, f4], 3, (i : Int), best, (0, (0, ())), ()) kx kn = kn ([f2, f3, f4], 3, ((i + 1 : Nat) : Int), fMin best f, (0, (0, ())), ()) := by
      have h3 : decide ((i : Int) < 3) = true := by simp; omega
      obtain ⟨r, hr, hl, _⟩ := e_i_compare hK hf hb
      simp only [li_segmentSquare_0, h3, cond_true, atIdx_nat (show i < ([f2, f3, f4] : List DY0).length from hi), hg, hr, Option.bind_some, hl]
      rw [wi (by omega)]
      unfold fMin
      cases fLess f best <;> rfl
    rw [iter_succ]
    rw [show (([f2, f3, f4], (([f2, f3, f4] : List DY0).length : Int), 0, f1, (0, (0, ())), ()) : List DY0 × Int × Int × DY0 × DY0 × Unit) = ([f2, f3, f4], 3, ((0 : Nat) : Int), f1, (0, (0, ())), ()) from rfl]
    rw [st 0 f2 f1 (by omega) rfl b2 b1, iter_succ, st 1 f3 _ (by omega) rfl b3 (frB_min b1 b2), iter_succ, st 2 f4 _ (by omega) rfl b4 (frB_min (frB_min b1 b2) b3), iter_succ]
    have h3 : decide (((2 + 1 : Nat) : Int) < 3) = false := rfl
    simp only [li_segmentSquare_0, h3, cond_false]
  · simp only [cond_true, if_true]

/-- two segments are nearer than some distance -/
def nearS (s t : DY3) (n : Int) : Bool := nearB s.1 s.2.1 t.1 t.2.1 n
theorem nearS_comm (s t : DY3) (n : Int) : nearS s t n = nearS t s n := nearB_comm _ _ _ _ n
theorem seg_near {s t : DY3} (hs : SegB s) (ht : SegB t) (n : Int) :
    decide ((if meetB s.1 s.2.1 t.1 t.2.1 then ((0, 1, ()) : DY0) else segF s t).1 < n * n * (if meetB s.1 s.2.1 t.1 t.2.1 then ((0, 1, ()) : DY0) else segF s t).2.1) = nearS s t n := by
  unfold nearS nearB
  cases meetB s.1 s.2.1 t.1 t.2.1
  · simp only [Bool.false_eq_true, if_false]
    have b1 := frB_pt hs ht.a; have b2 := frB_pt hs ht.b; have b3 := frB_pt ht hs.a; have b4 := frB_pt ht hs.b
    unfold segF
    rw [fMin_lt (frB_min (frB_min b1 b2) b3).den.1 b4.den.1, fMin_lt (frB_min b1 b2).den.1 b3.den.1, fMin_lt b1.den.1 b2.den.1]
    have e (s : DY3) (p : DY0) : decide ((ptF s p).1 < n * n * (ptF s p).2.1) = decide (pqN s.1 s.2.1 p < n * n * pqD s.1 s.2.1 p) := by
      rw [Bool.eq_iff_iff]
      simp only [decide_eq_true_eq]
      exact lt_of_value (ptF_of s p) (pqD_pos _ _ _)
    rw [e, e, e, e]
  · simp
theorem segF_bd {s t : DY3} (hs : SegB s) (ht : SegB t) : FrB (segF s t) ∧ (segF s t).2.1 ≤ 968000000 := by
  have b1 := frB_pt hs ht.a; have b2 := frB_pt hs ht.b; have b3 := frB_pt ht hs.a; have b4 := frB_pt ht hs.b
  have d (s : DY3) (p : DY0) (hs : SegB s) (hp : PtB 11000 p) : (ptF s p).2.1 ≤ 968000000 := Int.le_trans (ptF_of s p).denle (pq_bd hs hp).2
  have m {f g : DY0} (hf : f.2.1 ≤ 968000000) (hg : g.2.1 ≤ 968000000) : (fMin f g).2.1 ≤ 968000000 := by unfold fMin; split <;> assumption
  exact ⟨frB_min (frB_min (frB_min b1 b2) b3) b4, m (m (m (d _ _ hs ht.a) (d _ _ hs ht.b)) (d _ _ ht hs.a)) (d _ _ ht hs.b)⟩
theorem e_s_near {K : Nat} (hK : BigK K) {s t : DY3} {n : Int} (hs : SegB s) (ht : SegB t) (hn : 0 ≤ n ∧ n ≤ 50000) : gs_l14Near K s t n = some (nearS s t n, ()) := by
  unfold gs_l14Near
  have hnn := mulB 50000 50000 (x := n) (y := n) (by omega) (by omega)
  have h0 := self_nonneg n
  rw [wi (by omega)]
  have hb := segF_bd hs ht
  have hF : FrB (if meetB s.1 s.2.1 t.1 t.2.1 then ((0, 1, ()) : DY0) else segF s t) := by
    split
    · exact ⟨⟨by decide, by decide⟩, ⟨by decide, by decide⟩⟩
    · exact hb.1
  simp only [e_s_square2 hK hs ht, Option.bind_some]
  rw [e_s_less hK hF ⟨⟨h0, by simp only; omega⟩, ⟨by simp, by simp⟩⟩]
  simp only [Option.bind_some]
  congr 2
  rw [← seg_near hs ht]
  unfold fLess
  simp only [Int.mul_one]
theorem e_i_nearer {K : Nat} (hK : BigK K) {s t : DY3} {n : Int} (hs : SegB s) (ht : SegB t) (hn : 0 ≤ n ∧ n ≤ 50000) : gi_nearer K s t n = some (nearS s t n, ()) := by
  unfold gi_nearer
  have hnn := mulB 50000 50000 (x := n) (y := n) (by omega) (by omega)
  have h0 := self_nonneg n
  rw [wi (n := n * n) (by omega)]
  have hb := segF_bd hs ht
  have hF : 0 < (if meetB s.1 s.2.1 t.1 t.2.1 then ((0, 1, ()) : DY0) else segF s t).2.1 ∧ (if meetB s.1 s.2.1 t.1 t.2.1 then ((0, 1, ()) : DY0) else segF s t).2.1 ≤ 968000000 := by
    split
    · exact ⟨by decide, by decide⟩
    · exact ⟨hb.1.den.1, hb.2⟩
  simp only [e_i_segSq hK hs ht, Option.bind_some]
  rw [← seg_near hs ht]
  generalize (if meetB s.1 s.2.1 t.1 t.2.1 then ((0, 1, ()) : DY0) else segF s t) = F at *
  have h1 := mulB 2500000000 968000000 (x := n * n) (y := F.2.1) (by omega) (by omega)
  rw [wi (by omega)]

/-! ### conflicts -/
def mastP (c : DY1) : DY3 := (c.2.1, (c.2.1, ()))
/-- two cranes are in conflict -/
def confB (a b : DY1) (da db n : Int) : Bool :=
  (decide (a.2.2.1 - b.2.2.1 < 60) && decide (b.2.2.1 - a.2.2.1 < 60) && nearS (boomP a da) (boomP b db) n) ||
    (decide (a.2.2.1 < b.2.2.1) && nearS (boomP a da) (mastP b) n) || (decide (b.2.2.1 < a.2.2.1) && nearS (boomP b db) (mastP a) n)
theorem e_s_conflict {K : Nat} (hK : BigK K) {a b : DY1} {da db n : Int} (ha : CrB a) (hb : CrB b) (hda : 0 ≤ da ∧ da < 24) (hdb : 0 ≤ db ∧ db < 24) (hn : 0 ≤ n ∧ n ≤ 1000) :
    gs_l15Conflict K a b da db n = some (confB a b da db n, ()) := by
  have hn' : 0 ≤ n ∧ n ≤ 50000 := by omega
  have h1 := ha.height; have h2 := hb.height
  unfold gs_l15Conflict gs_l10Size gs_l00Max gs_l15Mast confB
  rw [wi (n := a.2.2.1 - b.2.2.1) (by omega), wi (by omega)]
  simp only [e_s_boom hK ha hda, e_s_boom hK hb hdb, Option.bind_some, e_s_near hK (boomP_bd ha) (boomP_bd hb) hn', e_s_near hK (boomP_bd ha) (mast_bd hb) hn', e_s_near hK (boomP_bd hb) (mast_bd ha) hn']
  have e : (cond (decide (a.2.2.1 - b.2.2.1 > 0 - (a.2.2.1 - b.2.2.1))) (some (a.2.2.1 - b.2.2.1, ())) (some (0 - (a.2.2.1 - b.2.2.1), ()))) = some (max (a.2.2.1 - b.2.2.1) (b.2.2.1 - a.2.2.1), ()) := by
    by_cases h : a.2.2.1 - b.2.2.1 > 0 - (a.2.2.1 - b.2.2.1)
    · have : max (a.2.2.1 - b.2.2.1) (b.2.2.1 - a.2.2.1) = a.2.2.1 - b.2.2.1 := by omega
      simp only [h, decide_true, cond_true, this]
    · have : max (a.2.2.1 - b.2.2.1) (b.2.2.1 - a.2.2.1) = 0 - (a.2.2.1 - b.2.2.1) := by omega
      simp only [h, decide_false, cond_false, this]
  simp only [e, Option.bind_some]
  have e2 : decide (max (a.2.2.1 - b.2.2.1) (b.2.2.1 - a.2.2.1) < 60) = (decide (a.2.2.1 - b.2.2.1 < 60) && decide (b.2.2.1 - a.2.2.1 < 60)) := by
    rw [Bool.eq_iff_iff]; simp only [decide_eq_true_eq, Bool.and_eq_true]; omega
  rw [e2]
  simp only [dgt]
  change _ = some (_ || (decide (a.2.2.1 < b.2.2.1) && nearS (boomP a da) (b.2.1, (b.2.1, ())) n) || (decide (b.2.2.1 < a.2.2.1) && nearS (boomP b db) (a.2.1, (a.2.1, ())) n), ())
  generalize nearS (boomP a da) (boomP b db) n = p1; generalize nearS (boomP a da) (b.2.1, (b.2.1, ())) n = p2; generalize nearS (boomP b db) (a.2.1, (a.2.1, ())) n = p3
  generalize (decide (a.2.2.1 - b.2.2.1 < 60) && decide (b.2.2.1 - a.2.2.1 < 60)) = c1
  by_cases h3 : a.2.2.1 < b.2.2.1
  · have h4 : ¬ b.2.2.1 < a.2.2.1 := by omega
    simp only [h3, h4, decide_true, decide_false]
    cases c1 <;> cases p1 <;> cases p2 <;> rfl
  · by_cases h4 : b.2.2.1 < a.2.2.1
    · simp only [h3, h4, decide_true, decide_false]
      cases c1 <;> cases p1 <;> cases p2 <;> cases p3 <;> rfl
    · simp only [h3, h4, decide_false]
      cases c1 <;> cases p1 <;> rfl
theorem e_i_conflict {K : Nat} (hK : BigK K) {a b : DY1} {da db n : Int} (ha : CrB a) (hb : CrB b) (hda : 0 ≤ da ∧ da < 24) (hdb : 0 ≤ db ∧ db < 24) (hn : 0 ≤ n ∧ n ≤ 1000) :
    gi_conflict K a b da db n = some (confB a b da db n, ()) := by
  have hn' : 0 ≤ n ∧ n ≤ 50000 := by omega
  have h1 := ha.height; have h2 := hb.height
  unfold gi_conflict confB
  rw [wi (n := a.2.2.1 - b.2.2.1) (by omega), wi (n := b.2.2.1 - a.2.2.1) (by omega)]
  simp only [e_i_boom hK ha hda, e_i_boom hK hb hdb, Option.bind_some, e_i_nearer hK (boomP_bd ha) (boomP_bd hb) hn', e_i_nearer hK (boomP_bd hb) (boomP_bd ha) hn', e_i_nearer hK (boomP_bd ha) (mast_bd hb) hn', e_i_nearer hK (boomP_bd hb) (mast_bd ha) hn', dgt]
  rw [nearS_comm (boomP b db) (boomP a da)]
  change _ = some (_ || (decide (a.2.2.1 < b.2.2.1) && nearS (boomP a da) (b.2.1, (b.2.1, ())) n) || (decide (b.2.2.1 < a.2.2.1) && nearS (boomP b db) (a.2.1, (a.2.1, ())) n), ())
  generalize nearS (boomP a da) (boomP b db) n = p1; generalize nearS (boomP a da) (b.2.1, (b.2.1, ())) n = p2; generalize nearS (boomP b db) (a.2.1, (a.2.1, ())) n = p3
  by_cases h3 : b.2.2.1 < a.2.2.1
  · have h4 : ¬ a.2.2.1 < b.2.2.1 := by omega
    have h5 : (b.2.2.1 != a.2.2.1) = true := by simp; omega
    have h6 : b.2.2.1 - a.2.2.1 < 60 := by omega
    simp only [h3, h4, h5, h6, decide_true, decide_false, cond_true]
    generalize decide (a.2.2.1 - b.2.2.1 < 60) = c1
    cases c1 <;> cases p1 <;> cases p3 <;> rfl
  · have h6 : a.2.2.1 - b.2.2.1 < 60 := by omega
    by_cases h4 : a.2.2.1 < b.2.2.1
    · have h5 : (a.2.2.1 != b.2.2.1) = true := by simp; omega
      simp only [h3, h4, h5, h6, decide_true, decide_false, cond_true, cond_false]
      generalize decide (b.2.2.1 - a.2.2.1 < 60) = c1
      cases c1 <;> cases p1 <;> cases p2 <;> rfl
    · have h5 : (a.2.2.1 != b.2.2.1) = false := by simp; omega
      simp only [h3, h4, h5, h6, decide_true, decide_false, cond_false]
      generalize decide (b.2.2.1 - a.2.2.1 < 60) = c1
      cases c1 <;> cases p1 <;> rfl
end Go.Proofs.Vm
