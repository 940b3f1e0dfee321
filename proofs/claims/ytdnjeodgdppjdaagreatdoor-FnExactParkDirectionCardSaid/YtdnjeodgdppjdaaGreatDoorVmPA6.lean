/- The law of ParkDirection in plain words (own work). -/
import Derived.Test.YtdnjeodgdppjdaaGreatDoorVmPA5
namespace Go.Proofs.Vm
open Go
set_option linter.unusedVariables false
set_option linter.unusedSimpArgs false

theorem e_i_parkFree {K : Nat} (hK : BigK K) {x : DY2} {i n d : Int} (h : codeP x.1 i n = 0) (hd : 0 ≤ d ∧ d < 24) : gi_Site_others__ParkDirection_1_c634 K x i x.1 i d n = some (freeB x.1 i [d] n, ()) := by
  obtain ⟨x, u⟩ := x
  obtain ⟨hs, hi, hn⟩ := codeP_ok h
  have hl := siteB_len hs
  simp only at hs hi hl
  unfold gi_Site_others__ParkDirection_1_c634 freeB
  simp only
  rw [iter_all x.length (fun k => decide ((k : Int) = i) || !anyC (craneAt x i.toNat) (craneAt x k) [d] dirs n) (fun k => (i, x, i, d, n, x, (x.length : Int), (k : Int), ())) (.inl (false, ())) (.inr ()) ?_ ?_ (by omega)]
  · cases allB x.length (fun k => decide ((k : Int) = i) || !anyC (craneAt x i.toNat) (craneAt x k) [d] dirs n) <;> rfl
  · intro k hk _ kx kn
    have h3 : decide ((k : Int) < (x.length : Int)) = true := by simp; omega
    have e := e_i_any hK (siteB_cr hs (i := i.toNat) (by omega)) (siteB_cr hs hk) (one_ok hd) dirs_ok hn
    unfold craneAt at e
    simp only [li_Site_others__ParkDirection_1_c634_0, gi_ParkDirection_1_406a, h3, cond_true, atIdx_in hi, atIdx_nat hk, e_i_all hK, e, Option.bind_some]
    rw [wi (by omega)]
    unfold craneAt
    by_cases h4 : (k : Int) = i
    · have h5 : ((k : Int) != i) = false := by simp [h4]
      simp only [h4, h5, decide_true, cond_false, Bool.true_or, cond_true]
      rw [← h4]; simp
    · have h5 : ((k : Int) != i) = true := by simp [h4]
      simp only [h4, h5, decide_false, cond_true, Bool.false_or]
      cases anyC (x.getD i.toNat Z1) (x.getD k Z1) [d] dirs n <;> rfl
  · intro kx kn
    have h3 : decide ((x.length : Int) < (x.length : Int)) = false := by simp
    simp only [li_Site_others__ParkDirection_1_c634_0, h3, cond_false]

def parkP (x : List DY1) (i n : Int) : Int × Int × Unit :=
  if codeP x i n = 0 then (match findN 24 (fun d => freeB x i [(d : Int)] n) with | some d => ((d : Int), 0, ()) | none => (0, 3, ())) else (0, codeP x i n, ())

theorem e_i_ParkDirection {K : Nat} (hK : BigK K) {x : DY2} (hx : LenS x.1) (i n : Int) : gi_ParkDirection K x i n = some (parkP x.1 i n) := by
  unfold gi_ParkDirection parkP
  simp only [e_i_code hK hx, Option.bind_some]
  by_cases h : codeP x.1 i n = 0
  · have h1 : (codeP x.1 i n != 0) = false := by simp [h]
    simp only [h1, cond_false, e_i_all hK, Option.bind_some, h, if_true]
    rw [iter_find 24 (fun d => freeB x.1 i [(d : Int)] n) (fun j => (dirs, 24, (j : Int), n, i, x, ())) (fun d => .inl ((d : Int), 0, ())) (.inr ()) ?_ ?_ (by omega)]
    · cases findN 24 (fun d => freeB x.1 i [(d : Int)] n) <;> rfl
    · intro j hj _ kx kn
      have h3 : decide ((j : Int) < 24) = true := by simp; omega
      simp only [li_ParkDirection_0, h3, cond_true, atIdx_nat (show j < dirs.length from hj), dirs_at j hj, e_i_parkFree hK h (show 0 ≤ (j : Int) ∧ (j : Int) < 24 by omega), Option.bind_some]
      rw [wi (by omega)]; rfl
    · intro kx kn; rfl
  · have h1 : (codeP x.1 i n != 0) = true := by simp [h]
    simp [h1, h]

theorem e_s_ParkDirection {K : Nat} (hK : BigK K) {x : DY2} (hx : LenS x.1) (i n : Int) : gs_ParkDirection K x i n = some (parkP x.1 i n) := by
  unfold gs_ParkDirection parkP
  simp only [e_s_code hK hx, Option.bind_some]
  by_cases h : codeP x.1 i n = 0
  · have h1 : (codeP x.1 i n != 0) = false := by simp [h]
    simp only [h1, cond_false, e_s_all hK, Option.bind_some, h, if_true]
    obtain ⟨x, u⟩ := x
    obtain ⟨hs, hi, hn⟩ := codeP_ok h
    have hl := siteB_len hs
    simp only at hs hi hl h
    rw [iter_find 24 (fun d => freeB x i [(d : Int)] n) (fun j => (i, n, dirs, (j : Int), (x, u), ())) (fun d => .inl ((d : Int), 0, ())) (.inr ()) ?_ ?_ (by omega)]
    · cases findN 24 (fun d => freeB x i [(d : Int)] n) <;> rfl
    · intro j hj _ kx kn
      have h3 : decide ((j : Int) < 24) = true := by simp; omega
      simp only [ls_ParkDirection_0, h3, cond_true]
      rw [iter_to x.length (fun k => (i, n, dirs, (j : Int), allB k (fun k => decide ((k : Int) = i) || !anyC (craneAt x i.toNat) (craneAt x k) [(j : Int)] dirs n), (k : Int), (x, u), ())) (i, n, dirs, (j : Int), freeB x i [(j : Int)] n, (x, u), ()) ?_ ?_ (by omega)]
      · have e1 : IntKind.wrap .i64 ((j : Int) + 1) = (j : Int) + 1 := wi (by omega)
        cases freeB x i [(j : Int)] n <;> simp [e1]
      · intro k hk kx kn
        have h3 : decide ((k : Int) < (x.length : Int)) = true := by simp; omega
        have e := e_s_any hK (siteB_cr hs (i := i.toNat) (by omega)) (siteB_cr hs hk) (one_ok (show 0 ≤ (j : Int) ∧ (j : Int) < 24 by omega)) dirs_ok hn
        unfold craneAt at e
        simp only [ls_ParkDirection_1, h3, cond_true, atIdx_in hi, atIdx_nat hk, e, Option.bind_some]
        rw [wi (by omega), allB_succ]
        unfold craneAt
        generalize allB k (fun k => decide ((k : Int) = i) || !anyC (x.getD i.toNat Z1) (x.getD k Z1) [(j : Int)] dirs n) = b
        by_cases h4 : (k : Int) = i
        · have h5 : ((k : Int) == i) = true := by simp [h4]
          cases b <;> simp only [h4, h5, decide_true, cond_true, cond_false, Bool.true_or, Bool.and_true, Bool.false_and] <;> (rw [← h4]; simp)
        · have h5 : ((k : Int) == i) = false := by simp [h4]
          cases b <;> simp only [h4, h5, decide_false, cond_true, cond_false, Bool.false_or, Bool.true_and, Bool.false_and] <;> simp
      · intro kx kn
        have h3 : decide ((x.length : Int) < (x.length : Int)) = false := by simp
        simp only [ls_ParkDirection_1, h3, cond_false]
        rfl
    · intro kx kn; rfl
  · have h1 : (codeP x.1 i n != 0) = true := by simp [h]
    simp [h1, h]

/-- the law of ParkDirection, in plain words -/
theorem law_ParkDirection {K : Nat} (hK : BigK K) (x : DY2) (i d : Int) (hx : Wf Y2 x) : gw_FnExactParkDirection K x i d = some (true, ()) := by
  have hl := lenS_of hx
  unfold gw_FnExactParkDirection
  simp only [e_szSite hK hl, Option.bind_some]
  by_cases h : szSiteP x.1 1048576 < 0
  · simp [h]
  · have hs := szSite_small (x := x.1) (by omega)
    simp only [h, decide_false, cond_false, e_toSite hK hs, Option.bind_some, e_s_ParkDirection hK hl, e_i_ParkDirection hK hl, e_eqSite hK hs]
    simp
end Go.Proofs.Vm
