/- FnExactFreeToVane returns true for every input: its row and its card, out of the executor that is proved sound and of the law in plain words. Conditions: those of the row, which lists the laid variables. -/
import Derived.Test.YtdnjeodgdppjdaaGreatDoorVmPFnExactFreeToVane
import Derived.Test.YtdnjeodgdppjdaaGreatDoorVmPA5
import Derived.Test.YtdnjeodgdppjdaaGreatDoorVmLaid
import Derived.Test.YtdnjeodgdppjdaaGreatDoorVmTop
import Derived.Test.YtdnjeodgdppjdaaGreatDoorVmRFnExactFreeToVaneF
import Derived.Test.YtdnjeodgdppjdaaGreatDoorRows
import Derived.Test.YtdnjeodgdppjdaaGreatDoorTie
import Derived.Test.YtdnjeodgdppjdaaGreatDoorCards
import Derived.ProofKit
import Derived.Handed
import Derived.LaidLaws
import Derived.LaidHandle
import Derived.OpenShut
import Derived.OpenVars
import Derived.Below
import Derived.Carry
import Derived.SevenTiedAt
namespace Go.Proofs.YtdnjeodgdppjdaaGreatDoor
open Go Go.Proofs.Vm Go.ChangeShapes Go.WideShapes Go.ChangeAt Go.RowKit
set_option linter.unusedVariables false
theorem own : ownKnob Tryz.prog.godebug = none := by kernel_rfl
theorem laidOut : laidOutB Tryz.prog = true := by kernel_rfl
theorem laidG : Tryz.prog.globalNamed "loop.example/g00932/impl.quarter" = some 0 := by kernel_rfl
abbrev LAID : List (String × DataW Unit) := [("loop.example/g00932/impl.quarter", Rows.laid_loop_example_g00932_impl_quarter)]
theorem quarter_rep {W : World} (h : laidMet Tryz.prog LAID W) : ∀ g v, gl g = some v → vrep (callEnv (there W) W []) v (.pointer (some ⟨g, 0, none⟩)) := by
  intro g v hg
  unfold gl at hg
  split at hg
  · cases hg
    refine pa_rep (by rfl) (fun b o hb => .inl hb) ?_
    have ht : ∃ t, (Tryz.prog.globals[0]?).map (·.type) = some t ∧ pk Tryz.prog 20 t = true := ⟨273, by kernel_rfl, by kernel_rfl⟩
    obtain ⟨t, ht, hp⟩ := ht
    have hl : litCells 20 (Rows.laid_loop_example_g00932_impl_quarter (H := Unit)) = some ((quarter.map (raw Y0)).flatten) := by kernel_rfl
    exact laid_cells h laidG ht hp hl
  · cases hg
noncomputable def laidWorld (os : Os) : World :=
  let w0 := World.holding Tryz.prog os ⟨#[], #[], []⟩
  { w0 with heap := w0.heap.modify 0 fun
      | .cells _ t frozen => .cells #[.int .i64 1000, .int .i64 0, .int .i64 966, .int .i64 259, .int .i64 866, .int .i64 500, .int .i64 707, .int .i64 707, .int .i64 500, .int .i64 866, .int .i64 259, .int .i64 966] t frozen
      | o => o }
theorem laidWorld_met (os : Os) (args : Array Value) : laidMet Tryz.prog LAID ((laidWorld os).forCall (fun _ _ => 0) ⟨#[], args, []⟩).memory :=
  laidMet_of_run' 20 (by kernel_rfl) (by kernel_rfl)
set_option maxRecDepth 100000 in
theorem lifted (os : Os) (started : os.Started) (H : Type) (enc : TypeId × Value → H) :
    ReturnsInHanded {} Tryz.checked os 3 .any (fun w args => (Rows.fnExactFreeToVaneSpec.pre enc Tryz.prog Tryz.f3 [] false w args ∧ laidMetH Tryz.prog LAID w) ∧ sizedMet enc Tryz.prog Tryz.f3 (OpenSpec.ofChange Rows.fnExactFreeToVaneSpec) false w args)
      (Rows.fnExactFreeToVaneSpec.post enc Tryz.prog Tryz.f3 false true false false) := by
  refine returnsInHanded_of_change_and (C := Tryz.checked) (X := fun w _ => laidMetH Tryz.prog LAID w) (fun _ _ _ hh h => h.of_heap hh) own started (by kernel_rfl) Tryz.func3
    (ChangeSpec.witness_at (enc := enc) (C := Tryz.checked) (os := os) (X := fun w _ => laidMetH Tryz.prog LAID w) false (laidWorld os) #[.agg #[.slice none 0 0], .int .i64 0, .int .i64 0] 20 rfl (by kernel_rfl) (by kernel_rfl) (by kernel_rfl) (by kernel_rfl) (by kernel_rfl) (laidWorld_met os _)) ?_
  intro W base args ds gs before hval0 hW _ _ hL _
  have hval : ∀ (j : Nat) t v, Tryz.f3.params[j]? = some t → args[j]? = some v → Value.okWide Tryz.prog W .any base t v := hval0
  have hW' := hW
  obtain ⟨p, q, hA0, hV0, rfl, hfz, hnd⟩ := hW
  have hA : DataW.TrodAll enc Tryz.prog W 0 (fun _ => true) true Tryz.f3.params.toList args.toList ds p := hA0
  rw [Tryz.params3] at hA hval
  obtain ⟨v0, vs0, d0, ds0, p0, q0, hargs, rfl, rfl, h0, r0⟩ := trodAll_cons hA
  obtain ⟨v1, vs1, d1, ds1, p1, q1, rfl, rfl, rfl, h1, r1⟩ := trodAll_cons r0
  obtain ⟨v2, vs2, d2, ds2, p2, q2, rfl, rfl, rfl, h2, r2⟩ := trodAll_cons r1
  obtain ⟨rfl, rfl, rfl⟩ := trodAll_nil r2
  obtain rfl : args = #[v0, v1, v2] := by cases args; simp_all
  obtain ⟨x0, e0, w0⟩ := open_data (D := 20) (ty := Y2) (by kernel_rfl) (hval 0 _ v0 rfl rfl) h0
  obtain ⟨x1, e1, w1⟩ := open_data (D := 20) (ty := i64) (by kernel_rfl) (hval 1 _ v1 rfl rfl) h1
  obtain ⟨x2, e2, w2⟩ := open_data (D := 20) (ty := i64) (by kernel_rfl) (hval 2 _ v2 rfl rfl) h2
  have hL' : laidMet Tryz.prog LAID W := hL
  refine (law_calls (okw_FnExactFreeToVane 18446744073709551616) (d := (x0, x1, x2, ())) (r := (true, ())) (law_FreeToVane (Nat.le_refl _) x0 x1 x2 w0) rfl (quarter_rep hL') (.plain e0 (.plain e1 (.plain e2 .nil)))).mono fun e W' ⟨he, bel⟩ => ?_
  subst he
  have hV : DataW.TrodVars enc Tryz.prog W (fun _ => true) ["loop.example/g00932/impl.quarter"] gs q := hV0
  obtain ⟨gg, tt, cc, fuel, dd, pp, rfl, hv1, hv2, hv3, hv4, hv5⟩ := trodVars_one hV
  have lt0 : ∀ x ∈ p0, x.block < W.heap.size := by obtain ⟨m, hm⟩ := h0; exact DataW.trod_lt m _ _ _ hm
  have lt1 : ∀ x ∈ p1, x.block < W.heap.size := by obtain ⟨m, hm⟩ := h1; exact DataW.trod_lt m _ _ _ hm
  have lt2 : ∀ x ∈ p2, x.block < W.heap.size := by obtain ⟨m, hm⟩ := h2; exact DataW.trod_lt m _ _ _ hm
  refine ⟨_, rfl, _, _, _, [], _, q, hW', trodAll_mk1 (shut_bool Tryz.underlying4 true), trodAll_cons_mk (Below.trod laidOut (by kernel_rfl) (of_decide_eq_true (by kernel_rfl)) h0 bel lt0) (trodAll_cons_mk (Below.trod laidOut (by kernel_rfl) (of_decide_eq_true (by kernel_rfl)) h1 bel lt1) (trodAll_cons_mk (Below.trod laidOut (by kernel_rfl) (of_decide_eq_true (by kernel_rfl)) h2 bel lt2) trodAll_mk0)), Below.trodVars laidOut bel (by kernel_rfl) hV, bel.frame _, fun h => by cases h⟩
theorem row_holds : Rows.FnExactFreeToVaneSaid :=
  OpenClaim.holds_of_wide 3 Tryz.f3 rfl rfl rfl rfl rfl rfl rfl ⟨rfl, rfl, rfl, rfl, rfl⟩ rfl rfl rfl rfl rfl found Tryz.func3 closed inst wrapper
    (fun os started H enc _ => lifted os started H enc)
theorem cardWf : Rows.fnExactFreeToVaneRow.wfByText (OpenSpec.ofChange Rows.fnExactFreeToVaneSpec) = true := by kernel_rfl
set_option maxRecDepth 100000 in
theorem cardMain : Tryz.prog.mainIs = some (true, (show String from "9a9894d279aa1a953dfd904e7c982a0b7762fae6c65f737f15f06b9da76f2f9b").toList) := by kernel_rfl
theorem cardLooks : false = Tryz.prog.looks [] := by kernel_rfl
theorem cardGoes : false = Rows.fnExactFreeToVaneRow.goesBy Tryz.prog := by kernel_rfl
theorem cardStand : ∀ t ∈ ([24, 2, 2] : List TypeId), Tryz.prog.wantsStandIn t = false := by
  intro t ht
  simp only [List.mem_cons, List.not_mem_nil, or_false] at ht
  rcases ht with rfl | rfl | rfl <;> kernel_rfl
theorem card_holds : Rows.FnExactFreeToVaneCardSaid :=
  Claim7.holds_tied_plain_at .later [] [.data] true (true, "9a9894d279aa1a953dfd904e7c982a0b7762fae6c65f737f15f06b9da76f2f9b") false
    row_holds (fun _ h => by cases h) cardWf (fun _ h => by cases h) fnExactFreeToVane_row_tie rfl ⟨rfl, rfl⟩ cardMain rfl
    (fun f fn hf hfn => by
      obtain rfl : f = 3 := Option.some.inj (found.symm.trans hf) |>.symm
      obtain rfl : fn = Tryz.f3 := (Option.some.inj (Tryz.func3.symm.trans hfn)).symm
      exact ⟨cardLooks, fun j t ht => by
        rw [Tryz.params3] at ht
        exact cardStand t (List.mem_of_getElem? (l := [24, 2, 2]) (i := j) (a := t) (by simpa using ht))⟩)
    cardGoes
#print axioms card_holds
end Go.Proofs.YtdnjeodgdppjdaaGreatDoor
