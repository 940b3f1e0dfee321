/- From what a law's plain function says to the contract that a row asks for (own work). -/
import Derived.Test.YtdnjeodgdppjdaaGreatDoorVmOpen
import Derived.ProofKit
namespace Go.Proofs.Vm
open Go Go.RowKit Go.WideShapes Go.ChangeShapes
set_option linter.unusedVariables false
set_option linter.unusedSimpArgs false

variable {H : Type} {en : TypeId × Value → H} {P : Program} {w : World} {spare : Nat → Bool} {held : Bool}

theorem open_data {D : Nat} {t : TypeId} {ty : Ty} {v : Value} {d : DataW H} {ps : List MemPlace} {r : Reach} {b0 : Nat} (hty : ty2 P D t = some ty) (hval : Value.okWide P w r b0 t v) (h : DataW.Trod en P w 0 spare held t v d ps) :
    ∃ x : ty.den, vrep (callEnv (there w) w []) (enc ty x) v ∧ Wf ty x := by
  obtain ⟨fuel, hf⟩ := h
  obtain ⟨x, hr, hw⟩ := trod_rep D fuel t ty _ _ hty hf
  refine ⟨x, ?_, hw⟩
  cases D with
  | zero => simp [ty2] at hty
  | succ D =>
    unfold ty2 at hty
    cases hu : P.underlying t with
    | none => rw [hu] at hty; cases hty
    | some u =>
      rw [hu] at hty
      cases u <;> simp only at hty <;> try (cases hty; done)
      case bool =>
        cases hty
        obtain ⟨n, rfl⟩ := okWide_bool hu hval
        simp only [enc, vrep]
        simpa [rep, Value.cells] using hr
      case int k =>
        cases hty
        obtain ⟨n, rfl⟩ := okWide_int hu hval
        simp only [enc, vrep]
        simpa [rep, Value.cells] using hr
      case string =>
        cases hty
        obtain ⟨n, rfl⟩ := okWide_string hu hval
        simp only [enc, vrep]
        simpa [rep, Value.cells] using hr
      case slice e =>
        obtain ⟨a, len, cap, rfl⟩ := okWide_slice hu hval
        split at hty
        · split at hty
          · cases hty
            simp only [enc, vrep]
            exact hr
          · cases hty
        · cases hty
      case struct fs =>
        unfold Value.okWide at hval
        rw [hu] at hval
        obtain ⟨cs, rfl, _⟩ := hval
        split at hty
        · rename_i y n hy
          split at hty
          · cases hty
            have hfl := flat_rep (E := callEnv (there w) w []) hr
            have hpu : (∃ a b, ty = .pair a b) ∨ ty = .unit := by
              revert hy
              cases fs.toList with
              | nil => intro hy; simp only [tyFields] at hy; cases hy; exact .inr rfl
              | cons f fs' =>
                intro hy
                simp only [tyFields] at hy
                split at hy
                · split at hy
                  · cases hy; exact .inl ⟨_, _, rfl⟩
                  · cases hy
                · cases hy
            rcases hpu with ⟨a, b, rfl⟩ | rfl
            · simp only [enc, vrep]; exact ⟨cs, rfl, hfl⟩
            · simp only [enc, vrep]; exact ⟨cs, rfl, hfl⟩
          · cases hty
        · cases hty

/-- a law that answers true: what a row asks of its call -/
theorem law_calls {cx : Ctx} {s : FSpec} (h : s.OK cx) {d : Sh.den.go s.args Unit} {r : s.res.den (Sh.den.go (s.mu.getD []) Unit)} (hg : s.g d = some r) (hres : (s.res.enc r).1 = .val (.bool true)) {cs : List Value} (hgl : ∀ g v, cx.gl g = some v → vrep (callEnv (there w) w []) v (.pointer (some ⟨g, 0, none⟩)))
    (ha : Args (callEnv (there w) w []) (Sh.enc.go s.args d).1 cs []) : Calls cx.P s.f cs.toArray w fun e w' => e = .returned (.bool true) ∧ Below w.heap.size w w' := by
  refine Calls.mono ((h d r hg).calls (there w) w [] cs (fun b o hb => ⟨hb, by simp⟩) .nil hgl ha) ?_
  rintro e w' ⟨c, S', he, ho, hv, _⟩
  rw [hres] at hv
  simp only [vrep] at hv
  subst hv
  exact ⟨he, ho.os, ho.tape, ho.output, ho.size, fun k hk => ho.block k hk (by simp)⟩
end Go.Proofs.Vm
