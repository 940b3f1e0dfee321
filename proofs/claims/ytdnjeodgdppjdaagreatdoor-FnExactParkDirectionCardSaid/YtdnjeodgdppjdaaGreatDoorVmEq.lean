/- Equality of structs (own work). -/
import Derived.Test.YtdnjeodgdppjdaaGreatDoorVmCall
import Derived.Laws.StructEq
namespace Go.Proofs.Vm
open Go Go.RowKit
set_option linter.unusedVariables false
set_option linter.unusedSimpArgs false

variable {cx : Ctx} {fr : Fr} {S S' : CellSet} {κ : Nat → Option CO} {st : St} {a : Act} {w w' : World} {R : Type}

theorem eqFieldsV_run {P : Program} {E : Env} : ∀ {n : Nat} {fs : List Field} {xs ys : List V} {b : Bool} {us vs : Array Value} {d : Nat} {w : World},
    eqFieldsV P n fs xs ys = some b → n ≤ d → vrepL E xs us.toList → vrepL E ys vs.toList → (Op.eqFields d us vs fs).run P w = .ok b w
  | 0, fs, xs, ys, b, us, vs, d, w, h, _, _, _ => by simp [eqFieldsV] at h
  | n + 1, [], xs, ys, b, us, vs, d, w, h, _, _, _ => by
    simp only [eqFieldsV] at h; cases h; simp [Op.eqFields]
  | n + 1, f :: fs, xs, ys, b, us, vs, d, w, h, hd, hx, hy => by
    simp only [eqFieldsV] at h
    split at h
    · cases h
    · rename_i r hr
      have ih := fun w => eqFieldsV_run (w := w) (d := d) hr (by omega) hx hy
      split at h
      · cases h
      · rename_i hnm
        have hnm : f.name ≠ "_" := by intro e; rw [e] at hnm; simp at hnm
        obtain ⟨d', rfl⟩ : ∃ d', d = d' + 1 := ⟨d - 1, by omega⟩
        have step : ∀ (c1 c2 : Value) (q : Bool), (part f.type us f.offset).run P w = .ok c1 w → (part f.type vs f.offset).run P w = .ok c2 w →
            (Op.equalIn (d' + 1) f.type c1 c2).run P w = .ok q w → (Op.eqFields (d' + 1) us vs (f :: fs)).run P w = .ok (q && r) w := by
          intro c1 c2 q h1 h2 h3
          simp only [Op.eqFields, if_pos hnm, Sem.run_bind, h1, h2, h3, Result.andThen_ok, Sem.run_ite]
          cases q
          · simp
          · simpa using ih w
        split at h
        · rename_i gs hu
          split at h
          · rename_i xs' ys' hp1 hp2
            split at h
            · cases h
            · rename_i hst
              split at h
              · rename_i q hq
                cases h
                obtain ⟨c1, h1, r1⟩ := part_run (w := w) hx hp1
                obtain ⟨c2, h2, r2⟩ := part_run (w := w) hy hp2
                simp only [vrep] at r1 r2
                obtain ⟨u1, rfl, r1⟩ := r1
                obtain ⟨u2, rfl, r2⟩ := r2
                refine step _ _ q h1 h2 ?_
                have hf : P.fieldsOf f.type = gs := by simp [Program.fieldsOf, hu]
                rw [run_equalIn_struct w d' f.type u1 u2 (by rw [hf]; exact hu) hst, hf]
                exact eqFieldsV_run hq (by omega) r1 r2
              · cases h
          · cases h
        · rename_i ik hu
          split at h
          · rename_i k x l y hp1 hp2
            split at h
            · rename_i hk
              cases h
              obtain ⟨c1, h1, r1⟩ := part_run (w := w) hx hp1
              obtain ⟨c2, h2, r2⟩ := part_run (w := w) hy hp2
              simp only [vrep] at r1 r2
              subst r1; subst r2
              have := kindEq_eq hk
              subst this
              exact step _ _ _ h1 h2 (run_equalIn_int w d' f.type k ik x y hu)
            · cases h
          · cases h
        · rename_i hu
          split at h
          · rename_i x y hp1 hp2
            cases h
            obtain ⟨c1, h1, r1⟩ := part_run (w := w) hx hp1
            obtain ⟨c2, h2, r2⟩ := part_run (w := w) hy hp2
            simp only [vrep] at r1 r2
            subst r1; subst r2
            exact step _ _ _ h1 h2 (run_equalIn_bool' w d' f.type x y hu)
          · cases h
        · rename_i hu
          split at h
          · rename_i x y hp1 hp2
            cases h
            obtain ⟨c1, h1, r1⟩ := part_run (w := w) hx hp1
            obtain ⟨c2, h2, r2⟩ := part_run (w := w) hy hp2
            simp only [vrep] at r1 r2
            subst r1; subst r2
            exact step _ _ _ h1 h2 (run_equalIn_string w d' f.type x y hu)
          · cases h
        · cases h

theorem eqStruct_run {P : Program} {E : Env} {t : TypeId} {xs ys : List V} {b : Bool} {us vs : Array Value} {w : World} (h : eqStruct P t xs ys = some b)
    (hx : vrepL E xs us.toList) (hy : vrepL E ys vs.toList) (op : BinOp) (x y : Operand) :
    (eqGuard op t x y (.agg us) (.agg vs)).run P w = .ok () w ∧ (Op.equalIn 10000 t (.agg us) (.agg vs)).run P w = .ok b w := by
  unfold eqStruct at h
  split at h
  · rename_i fs hu
    split at h
    · cases h
    · rename_i hg
      simp only [Bool.or_eq_false_iff] at hg
      refine ⟨run_eqGuard_agg w op t x y us vs hg.2, ?_⟩
      have hf : P.fieldsOf t = fs := by simp [Program.fieldsOf, hu]
      rw [run_equalIn_struct w 9999 t us vs (by rw [hf]; exact hu) hg.1, hf]
      exact eqFieldsV_run h (by omega) hx hy
  · cases h

theorem eqS_sound {o : Oper} {b : BinOp} {t yt : TypeId} {x y : Operand} {xs ys : List V} {r : Bool} (ho : o.op = .binOp b t x y yt)
    (hx : ev cx st x = .agg xs) (hy : ev cx st y = .agg ys) (h : eqStruct cx.P t xs ys = some r) {v : V}
    (hv : (b = .eql ∧ v = .val (.bool r)) ∨ (b = .neq ∧ v = .val (.bool (!r)))) : FSound cx o st v := by
  refine FSound.of_run fun fr S κ a w hs => ?_
  have hxv := hs.ev x
  have hyv := hs.ev y
  rw [hx] at hxv; rw [hy] at hyv
  simp only [vrep] at hxv hyv
  obtain ⟨us, hx', hus⟩ := hxv
  obtain ⟨vs, hy', hvs⟩ := hyv
  obtain ⟨h1, h2⟩ := eqStruct_run (w := w) h hus hvs b x y
  rcases hv with ⟨rfl, rfl⟩ | ⟨rfl, rfl⟩
  · refine ⟨_, ?_, vrep_val⟩
    simp only [execOp, ho, hx', hy', Sem.run_bind, h1, Result.andThen_ok, run_eql_struct, h2, Sem.run_pure]
  · refine ⟨_, ?_, vrep_val⟩
    simp only [execOp, ho, hx', hy', Sem.run_bind, h1, Result.andThen_ok, run_neq_struct, h2, Sem.run_pure]

end Go.Proofs.Vm
