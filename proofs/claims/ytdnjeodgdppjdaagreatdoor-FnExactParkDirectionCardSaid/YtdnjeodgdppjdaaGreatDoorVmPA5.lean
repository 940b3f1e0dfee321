/- Vaning: what the printed functions compute; the laws FreeToVane and ParkDirection in plain words (own work). -/
import Derived.Test.YtdnjeodgdppjdaaGreatDoorVmPA4
import Derived.KernelRfl
namespace Go.Proofs.Vm
open Go
set_option linter.unusedVariables false
set_option linter.unusedSimpArgs false

theorem allB_succ (n : Nat) (p : Nat → Bool) : allB (n + 1) p = (allB n p && p n) := by
  unfold allB; rw [List.range_succ, List.all_append]; simp

/-! ### all directions -/
def dirs : List Int := [0, 1, 2, 3, 4, 5, 6, 7, 8, 9, 10, 11, 12, 13, 14, 15, 16, 17, 18, 19, 20, 21, 22, 23]
theorem e_i_all {K : Nat} (hK : BigK K) : gi_allDirections K = some (dirs, ()) := by
  obtain ⟨k, rfl⟩ : ∃ k, K = k + 25 := ⟨K - 25, by omega⟩
  kernel_rfl
theorem e_s_all {K : Nat} (hK : BigK K) : gs_l22All K = some (dirs, ()) := by
  obtain ⟨k, rfl⟩ : ∃ k, K = k + 25 := ⟨K - 25, by omega⟩
  kernel_rfl
/-- some directions -/
structure DirsB (l : List Int) : Prop where
  len : l.length ≤ 9223372036854775807
  all : ∀ i, i < l.length → 0 ≤ l.getD i 0 ∧ l.getD i 0 < 24
theorem dirs_at : ∀ i, i < 24 → dirs.getD i 0 = (i : Int) := by decide
theorem dirs_ok : DirsB dirs := ⟨by decide, by decide⟩
theorem one_ok {d : Int} (h : 0 ≤ d ∧ d < 24) : DirsB [d] := ⟨by simp, fun i hi => by
  have : i = 0 := by simp at hi; omega
  subst this; exact h⟩

/-! ### two cranes in some directions -/
def anyC (a b : DY1) (one two : List Int) (n : Int) : Bool := !allB one.length fun i => allB two.length fun k => !confB a b (one.getD i 0) (two.getD k 0) n
theorem e_s_any {K : Nat} (hK : BigK K) {a b : DY1} {one two : List Int} {n : Int} (ha : CrB a) (hb : CrB b) (h1 : DirsB one) (h2 : DirsB two) (hn : 0 ≤ n ∧ n ≤ 1000) :
    gs_l22Meet K a b one two n = some (anyC a b one two n, ()) := by
  have l1 := h1.len; have l2 := h2.len
  unfold gs_l22Meet anyC
  rw [iter_all one.length (fun i => allB two.length fun k => !confB a b (one.getD i 0) (two.getD k 0) n) (fun i => (a, b, one, two, n, (i : Int), ())) (.inl (true, ())) (.inr ()) ?_ ?_ (by omega)]
  · cases allB one.length (fun i => allB two.length fun k => !confB a b (one.getD i 0) (two.getD k 0) n) <;> rfl
  · intro i hi _ kx kn
    have h3 : decide ((i : Int) < (one.length : Int)) = true := by simp; omega
    simp only [ls_l22Meet_0, h3, cond_true]
    rw [iter_all two.length (fun k => !confB a b (one.getD i 0) (two.getD k 0) n) (fun k => (a, b, one, two, n, (i : Int), (k : Int), ())) (.inl (a, b, one, two, n, true, (i : Int), ())) (.inr (a, b, one, two, n, (i : Int), ())) ?_ ?_ (by omega)]
    · have e1 : IntKind.wrap .i64 ((i : Int) + 1) = (i : Int) + 1 := wi (by omega)
      cases allB two.length (fun k => !confB a b (one.getD i 0) (two.getD k 0) n) <;> simp [e1]
    · intro k hk _ kx kn
      have h4 : decide ((k : Int) < (two.length : Int)) = true := by simp; omega
      simp only [ls_l22Meet_1, h4, cond_true, atIdx_nat hi, atIdx_nat hk, e_s_conflict hK ha hb (h1.all i hi) (h2.all k hk) hn, Option.bind_some]
      rw [wi (by omega)]
      cases confB a b (one.getD i 0) (two.getD k 0) n <;> rfl
    · intro kx kn
      have h4 : decide ((two.length : Int) < (two.length : Int)) = false := by simp
      simp only [ls_l22Meet_1, h4, cond_false]
  · intro kx kn
    have h3 : decide ((one.length : Int) < (one.length : Int)) = false := by simp
    simp only [ls_l22Meet_0, h3, cond_false]
theorem e_i_any {K : Nat} (hK : BigK K) {a b : DY1} {one two : List Int} {n : Int} (ha : CrB a) (hb : CrB b) (h1 : DirsB one) (h2 : DirsB two) (hn : 0 ≤ n ∧ n ≤ 1000) :
    gi_anyConflict K a b one two n = some (anyC a b one two n, ()) := by
  have l1 := h1.len; have l2 := h2.len
  unfold gi_anyConflict anyC
  rw [iter_all one.length (fun i => allB two.length fun k => !confB a b (one.getD i 0) (two.getD k 0) n) (fun i => (two, n, one, (one.length : Int), (i : Int), b, a, ())) (.inl (true, ())) (.inr ()) ?_ ?_ (by omega)]
  · cases allB one.length (fun i => allB two.length fun k => !confB a b (one.getD i 0) (two.getD k 0) n) <;> rfl
  · intro i hi _ kx kn
    have h3 : decide ((i : Int) < (one.length : Int)) = true := by simp; omega
    simp only [li_anyConflict_0, h3, cond_true, atIdx_nat hi]
    rw [iter_all two.length (fun k => !confB a b (one.getD i 0) (two.getD k 0) n) (fun k => (two, n, one.getD i 0, one, (one.length : Int), (i : Int), two, (two.length : Int), (k : Int), b, a, ())) (.inl (two, n, true, one, (one.length : Int), (i : Int), b, a, ())) (.inr (two, n, one, (one.length : Int), (i : Int), b, a, ())) ?_ ?_ (by omega)]
    · have e1 : IntKind.wrap .i64 ((i : Int) + 1) = (i : Int) + 1 := wi (by omega)
      cases allB two.length (fun k => !confB a b (one.getD i 0) (two.getD k 0) n) <;> simp [e1]
    · intro k hk _ kx kn
      have h4 : decide ((k : Int) < (two.length : Int)) = true := by simp; omega
      simp only [li_anyConflict_1, h4, cond_true, atIdx_nat hi, atIdx_nat hk, e_i_conflict hK ha hb (h1.all i hi) (h2.all k hk) hn, Option.bind_some]
      rw [wi (by omega)]
      cases confB a b (one.getD i 0) (two.getD k 0) n <;> rfl
    · intro kx kn
      have h4 : decide ((two.length : Int) < (two.length : Int)) = false := by simp
      simp only [li_anyConflict_1, h4, cond_false]
  · intro kx kn
    have h3 : decide ((one.length : Int) < (one.length : Int)) = false := by simp
    simp only [li_anyConflict_0, h3, cond_false]

/-! ### codes -/
def codeP (x : List DY1) (i n : Int) : Int := if siteB x then (if within i 0 ((x.length : Int) - 1) && within n 0 1000 then 0 else 2) else 1
theorem siteB_len {x : List DY1} (h : siteB x = true) : 1 ≤ x.length ∧ x.length ≤ 6 := by
  simp only [siteB, within, Bool.and_eq_true, decide_eq_true_eq] at h; omega
theorem siteB_cr {x : List DY1} (h : siteB x = true) {i : Nat} (hi : i < x.length) : CrB (craneAt x i) := by
  simp only [siteB, Bool.and_eq_true, allB_iff] at h
  have := h.1 i hi
  simp only [siteAtB, Bool.and_eq_true] at this
  exact crB_of this.1
theorem e_s_code {K : Nat} (hK : BigK K) {x : DY2} (hx : LenS x.1) (i n : Int) : gs_l22Crane K x i n = some (codeP x.1 i n, ()) := by
  unfold gs_l22Crane gs_l22Code gs_l15Distance codeP
  simp only [e_s_site hK x hx, e_s_in, Option.bind_some]
  have hm : maxLen = 9223372036854775807 := by decide
  have hl := hx.len
  rw [wi (by omega)]
  cases siteB x.1
  · rfl
  · have e0 : within 0 0 6 = true := by decide
    rw [e0]
    cases within n 0 1000 <;> cases within i 0 ((x.1.length : Int) - 1) <;> rfl
theorem e_i_craneCode {K : Nat} (hK : BigK K) {x : DY2} (hx : LenS x.1) (i : Int) : gi_craneCode K x i = some (if siteB x.1 then (if within i 0 ((x.1.length : Int) - 1) then 0 else 2) else 1, ()) := by
  unfold gi_craneCode gi_index
  simp only [e_i_site hK x hx, e_i_within, Option.bind_some]
  have hm : maxLen = 9223372036854775807 := by decide
  have hl := hx.len
  rw [wi (by omega)]
  cases siteB x.1
  · rfl
  · cases within i 0 ((x.1.length : Int) - 1) <;> rfl
theorem e_i_code {K : Nat} (hK : BigK K) {x : DY2} (hx : LenS x.1) (i n : Int) : gi_distanceCode K x i n = some (codeP x.1 i n, ()) := by
  unfold gi_distanceCode codeP
  simp only [e_i_craneCode hK hx, e_i_within, Option.bind_some]
  cases siteB x.1
  · rfl
  · cases within n 0 1000 <;> cases within i 0 ((x.1.length : Int) - 1) <;> rfl
/-- what a code without a fault says -/
theorem codeP_ok {x : List DY1} {i n : Int} (h : codeP x i n = 0) : siteB x = true ∧ (0 ≤ i ∧ i < (x.length : Int)) ∧ (0 ≤ n ∧ n ≤ 1000) := by
  unfold codeP at h
  split at h
  · split at h
    · rename_i h1 h2
      simp only [within, Bool.and_eq_true, decide_eq_true_eq] at h2
      exact ⟨h1, by omega, by omega⟩
    · omega
  · omega

/-! ### free to vane -/
/-- crane i is in no conflict in the directions one, whatever the others' directions -/
def freeB (x : List DY1) (i : Int) (one : List Int) (n : Int) : Bool := allB x.length fun k => decide ((k : Int) = i) || !anyC (craneAt x i.toNat) (craneAt x k) one dirs n
theorem e_s_free {K : Nat} (hK : BigK K) {x : DY2} {i n : Int} (h : codeP x.1 i n = 0) : gs_l22Free K x i n = some (freeB x.1 i dirs n, ()) := by
  obtain ⟨x, u⟩ := x
  obtain ⟨hs, hi, hn⟩ := codeP_ok h
  have hl := siteB_len hs
  simp only at hs hi hl
  unfold gs_l22Free freeB
  simp only [e_s_all hK, Option.bind_some]
  rw [iter_all x.length (fun k => decide ((k : Int) = i) || !anyC (craneAt x i.toNat) (craneAt x k) dirs dirs n) (fun k => ((x, u), i, n, dirs, (k : Int), ())) (.inl (false, ())) (.inr ()) ?_ ?_ (by omega)]
  · cases allB x.length (fun k => decide ((k : Int) = i) || !anyC (craneAt x i.toNat) (craneAt x k) dirs dirs n) <;> rfl
  · intro k hk _ kx kn
    have h3 : decide ((k : Int) < (x.length : Int)) = true := by simp; omega
    have e := e_s_any hK (siteB_cr hs (i := i.toNat) (by omega)) (siteB_cr hs hk) dirs_ok dirs_ok hn
    unfold craneAt at e
    simp only [ls_l22Free_0, h3, cond_true, atIdx_in hi, atIdx_nat hk, e, Option.bind_some]
    rw [wi (by omega)]
    unfold craneAt
    by_cases h4 : (k : Int) = i
    · have h5 : ((k : Int) != i) = false := by simp [h4]
      simp only [h4, h5, decide_true, cond_false, Bool.true_or, cond_true]
      rw [← h4]; simp
    · have h5 : ((k : Int) != i) = true := by simp [h4]
      simp only [h4, h5, decide_false, cond_true, Bool.false_or]
      cases anyC (x.getD i.toNat Z1) (x.getD k Z1) dirs dirs n <;> rfl
  · intro kx kn
    have h3 : decide ((x.length : Int) < (x.length : Int)) = false := by simp
    simp only [ls_l22Free_0, h3, cond_false]
theorem e_i_hinder {K : Nat} (hK : BigK K) {a b : DY1} {n : Int} (ha : CrB a) (hb : CrB b) (hn : 0 ≤ n ∧ n ≤ 1000) : gi_hinder K a b n = some (anyC a b dirs dirs n, ()) := by
  unfold gi_hinder
  simp only [e_i_all hK, e_i_any hK ha hb dirs_ok dirs_ok hn, Option.bind_some]
theorem e_i_free {K : Nat} (hK : BigK K) {x : DY2} {i n : Int} (h : codeP x.1 i n = 0) : gi_Site_others__FreeToVane_1_0152 K x i x.1 i n = some (freeB x.1 i dirs n, ()) := by
  obtain ⟨x, u⟩ := x
  obtain ⟨hs, hi, hn⟩ := codeP_ok h
  have hl := siteB_len hs
  simp only at hs hi hl
  unfold gi_Site_others__FreeToVane_1_0152 freeB
  simp only
  rw [iter_all x.length (fun k => decide ((k : Int) = i) || !anyC (craneAt x i.toNat) (craneAt x k) dirs dirs n) (fun k => (i, x, i, n, x, (x.length : Int), (k : Int), ())) (.inl (false, ())) (.inr ()) ?_ ?_ (by omega)]
  · cases allB x.length (fun k => decide ((k : Int) = i) || !anyC (craneAt x i.toNat) (craneAt x k) dirs dirs n) <;> rfl
  · intro k hk _ kx kn
    have h3 : decide ((k : Int) < (x.length : Int)) = true := by simp; omega
    have e := e_i_hinder hK (siteB_cr hs (i := i.toNat) (by omega)) (siteB_cr hs hk) hn
    unfold craneAt at e
    simp only [li_Site_others__FreeToVane_1_0152_0, gi_FreeToVane_1_a220, h3, cond_true, atIdx_in hi, atIdx_nat hk, e, Option.bind_some]
    rw [wi (by omega)]
    unfold craneAt
    by_cases h4 : (k : Int) = i
    · have h5 : ((k : Int) != i) = false := by simp [h4]
      simp only [h4, h5, decide_true, cond_false, Bool.true_or, cond_true]
      rw [← h4]; simp
    · have h5 : ((k : Int) != i) = true := by simp [h4]
      simp only [h4, h5, decide_false, cond_true, Bool.false_or]
      cases anyC (x.getD i.toNat Z1) (x.getD k Z1) dirs dirs n <;> rfl
  · intro kx kn
    have h3 : decide ((x.length : Int) < (x.length : Int)) = false := by simp
    simp only [li_Site_others__FreeToVane_1_0152_0, h3, cond_false]
def freeToVaneP (x : List DY1) (i n : Int) : Bool × Int × Unit := if codeP x i n = 0 then (freeB x i dirs n, 0, ()) else (false, codeP x i n, ())
theorem e_s_FreeToVane {K : Nat} (hK : BigK K) {x : DY2} (hx : LenS x.1) (i n : Int) : gs_FreeToVane K x i n = some (freeToVaneP x.1 i n) := by
  unfold gs_FreeToVane freeToVaneP
  simp only [e_s_code hK hx, Option.bind_some]
  by_cases h : codeP x.1 i n = 0
  · have h1 : (codeP x.1 i n != 0) = false := by simp [h]
    simp only [h1, cond_false, e_s_free hK h, Option.bind_some]
    simp [h]
  · have h1 : (codeP x.1 i n != 0) = true := by simp [h]
    simp [h1, h]
theorem e_i_FreeToVane {K : Nat} (hK : BigK K) {x : DY2} (hx : LenS x.1) (i n : Int) : gi_FreeToVane K x i n = some (freeToVaneP x.1 i n) := by
  unfold gi_FreeToVane freeToVaneP
  simp only [e_i_code hK hx, Option.bind_some]
  by_cases h : codeP x.1 i n = 0
  · have h1 : (codeP x.1 i n != 0) = false := by simp [h]
    simp only [h1, cond_false, e_i_free hK h, Option.bind_some]
    simp [h]
  · have h1 : (codeP x.1 i n != 0) = true := by simp [h]
    simp [h1, h]

/-- the law of FreeToVane, in plain words -/
theorem law_FreeToVane {K : Nat} (hK : BigK K) (x : DY2) (i d : Int) (hx : Wf Y2 x) : gw_FnExactFreeToVane K x i d = some (true, ()) := by
  have hl := lenS_of hx
  unfold gw_FnExactFreeToVane
  simp only [e_szSite hK hl, Option.bind_some]
  by_cases h : szSiteP x.1 1048576 < 0
  · simp [h]
  · have hs := szSite_small (x := x.1) (by omega)
    simp only [h, decide_false, cond_false, e_toSite hK hs, Option.bind_some, e_s_FreeToVane hK hl, e_i_FreeToVane hK hl, e_eqSite hK hs]
    simp
end Go.Proofs.Vm
