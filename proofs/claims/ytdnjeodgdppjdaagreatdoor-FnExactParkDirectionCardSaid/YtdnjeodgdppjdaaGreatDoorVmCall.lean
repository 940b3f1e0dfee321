/- What is known of a function that is called, and calls that only read (own work). -/
import Derived.Test.YtdnjeodgdppjdaaGreatDoorVmLit
namespace Go.Proofs.Vm
open Go Go.RowKit
set_option linter.unusedVariables false
set_option linter.unusedSimpArgs false

variable {cx : Ctx} {fr : Fr} {S S' : CellSet} {κ : Nat → Option CO} {st : St} {a : Act} {w w' : World} {R : Type}

/-- how a caller's world looks to the callee -/
def callEnv (S0 : CellSet) (w : World) (M : List Nat) : Env := ⟨S0, fun b o => S0 b o ∨ (b < w.heap.size ∧ b ∉ M), w, fun _ => none⟩

/-- the arguments; what is handed over (.mb) lies in the blocks of the list, in order -/
inductive Args (E : Env) : List V → List Value → List Nat → Prop
  | nil : Args E [] [] []
  | plain {v : V} {c : Value} {vs : List V} {cs : List Value} {M : List Nat} (h : vrep E v c) (t : Args E vs cs M) : Args E (v :: vs) (c :: cs) M
  | box {us : List V} {b : Nat} {el : TypeId} {xs : Array Value} {vs : List V} {cs : List Value} {M : List Nat} (hb : E.w.heap[b]? = some (.cells xs el (0, 0)))
      (hu : vrepL E us xs.toList) (hs : ∀ o, ¬ E.S b o) (t : Args E vs cs M) : Args E (.mb us :: vs) (.pointer (some ⟨b, 0, none⟩) :: cs) (b :: M)

/-- what handed-over blocks hold behind the call -/
inductive Backs (E : Env) : List Nat → List (List V) → Prop
  | nil : Backs E [] []
  | cons {b : Nat} {el : TypeId} {xs : Array Value} {us : List V} {M : List Nat} {ms : List (List V)} (hb : E.w.heap[b]? = some (.cells xs el (0, 0)))
      (hu : vrepL E us xs.toList) (t : Backs E M ms) : Backs E (b :: M) (us :: ms)

structure Out (S0 S' : CellSet) (M : List Nat) (w w' : World) : Prop where
  gain : ∀ b o, S0 b o → S' b o
  new : ∀ b o, S' b o → S0 b o ∨ (w.heap.size ≤ b ∧ b < w'.heap.size)
  os : w'.os = w.os
  tape : w'.tape = w.tape
  output : w'.output = w.output
  size : w.heap.size ≤ w'.heap.size
  block : ∀ b, b < w.heap.size → b ∉ M → w'.heap[b]? = w.heap[b]?

theorem Out.quiet (h : Out S S' [] w w') : Quiet S S' w w' := ⟨h.gain, h.new, h.os, h.tape, h.output, h.size, fun b hb => h.block b hb (by simp)⟩

def dataEnv (S' : CellSet) (w' : World) : Env := ⟨S', fun _ _ => False, w', fun _ => none⟩

structure CallOK (cx : Ctx) (f : FuncId) (args : List V) (v : V) (ms : List (List V)) : Prop where
  enter : ∃ fn, cx.P.funcs[f]? = some fn ∧ (fn.name == "runtime.NumGoroutine") = false ∧ fn.body.isNone = false
  calls : ∀ (S0 : CellSet) (w : World) (M : List Nat) (cs : List Value), (∀ b o, S0 b o → b < w.heap.size ∧ b ∉ M) → M.Nodup →
    (∀ g v, cx.gl g = some v → vrep (callEnv S0 w M) v (.pointer (some ⟨g, 0, none⟩))) → Args (callEnv S0 w M) args cs M →
    Calls cx.P f cs.toArray w fun e w' => ∃ c S', e = .returned c ∧ Out S0 S' M w w' ∧ vrep (dataEnv S' w') v c ∧ Backs (dataEnv S' w') M ms

/-- the oracle tells the truth -/
def GoodG (cx : Ctx) : Prop :=
  ∀ (R : Type) (f : FuncId) (args : List V) (k : V → List (List V) → Option R) (r : R), cx.G f args k = some r → ∃ v ms, k v ms = some r ∧ CallOK cx f args v ms

/-! ### Without references -/
mutual
theorem vrep_noref {E E' : Env} (h : E.Le E') : ∀ {v : V} {c : Value}, v.noref = true → vrep E v c → vrep E' v c
  | .undef, c, _, _ => by simp [vrep]
  | .val v, c, _, hv => by simpa [vrep] using hv
  | .sl e xs, c, _, hv => by simp only [vrep] at *; exact rep_mono h.S h.cS hv
  | .os id, c, hn, hv => by simp [V.noref] at hn
  | .vref id off, c, hn, hv => by simp [V.noref] at hn
  | .pe id i off, c, hn, hv => by simp [V.noref] at hn
  | .mb cs, c, hn, hv => by simp [V.noref] at hn
  | .pc cs off, c, _, hv => by
    simp only [vrep] at *
    obtain ⟨b, o, hc, hr⟩ := hv
    exact ⟨b, o, hc, rowAt_mono h.nok (fun _ => rfl) hr⟩
  | .pa e xs, c, _, hv => by
    simp only [vrep] at *
    obtain ⟨b, o, hc, hr⟩ := hv
    refine ⟨b, o, hc, fun i x hx => ?_⟩
    obtain ⟨cs, h1, h2⟩ := hr i x hx
    exact ⟨cs, rep_mono h.S h.cS h1, fun j v hj => ⟨h.B _ _ (h2 j v hj).1, (h.cB _ _ (h2 j v hj).1).trans (h2 j v hj).2⟩⟩
  | .fn f caps, c, hn, hv => by
    simp only [vrep, V.noref] at *
    obtain ⟨vs, hc, hr⟩ := hv
    exact ⟨vs, hc, vrepL_noref h hn hr⟩
  | .agg cs, c, hn, hv => by
    simp only [vrep, V.noref] at *
    obtain ⟨vs, hc, hr⟩ := hv
    exact ⟨vs, hc, vrepL_noref h hn hr⟩
  | .tup cs, c, hn, hv => by
    simp only [vrep, V.noref] at *
    obtain ⟨vs, hc, hr⟩ := hv
    exact ⟨vs, hc, vrepL_noref h hn hr⟩
theorem vrepL_noref {E E' : Env} (h : E.Le E') : ∀ {l : List V} {vs : List Value}, V.noref.go l = true → vrepL E l vs → vrepL E' l vs
  | [], vs, _, hv => by simpa [vrepL] using hv
  | v :: l, vs, hn, hv => by
    simp only [vrepL, V.noref.go] at *
    split at hn
    · rename_i hn1
      obtain ⟨c, r, hc, h1, h2⟩ := hv
      exact ⟨c, r, hc, vrep_noref h hn1 h1, vrepL_noref h hn h2⟩
    · cases hn
end

theorem SimE.callLe (h : SimE cx fr S κ st a w) {M : List Nat} (hM : ∀ b, b ∈ M → (∀ o, ¬ S b o) ∧ (fr.base ≤ b ∨ b ∈ fr.M)) : (fr.env S w κ).Le (callEnv S w M) where
  S := fun b o x => x
  B := fun b o x => by
    rcases x with x | ⟨x, y⟩
    · exact .inl x
    · refine .inr ⟨Nat.lt_of_lt_of_le x h.kp.size, fun hm => ?_⟩
      rcases (hM b hm).2 with h1 | h1
      · omega
      · exact y h1
  cS := fun b o x => rfl
  cB := fun b o x => rfl

theorem clr_rep (h : SimE cx fr S κ st a w) {E' : Env} (hle : (fr.env S w κ).Le E') {v : V} {c : Value} (hv : vrep (fr.env S w κ) v c) : vrep E' (st.clr v) c := by
  unfold St.clr
  split
  · split
    · rename_i e xs hf
      simp only [vrep]
      exact rep_mono hle.S hle.cS (arr_data h hf hv)
    · exact vrep_undef
  · split
    · rename_i hn
      exact vrep_noref hle hn hv
    · exact vrep_undef

theorem clrL_rep (h : SimE cx fr S κ st a w) {E' : Env} (hle : (fr.env S w κ).Le E') : ∀ {l : List V} {vs : List Value}, vrepL (fr.env S w κ) l vs → vrepL E' (clrL st l) vs
  | [], vs, hv => by simpa [vrepL, clrL] using hv
  | v :: l, vs, hv => by
    simp only [vrepL, clrL] at *
    obtain ⟨c, r, hc, h1, h2⟩ := hv
    exact ⟨c, r, hc, clr_rep h hle h1, clrL_rep h hle h2⟩

/-- a box as the callee sees it: frozen -/
theorem box_pc (h : SimE cx fr S κ st a w) {M : List Nat} (hM : ∀ b, b ∈ M → (∀ o, ¬ S b o) ∧ (fr.base ≤ b ∨ b ∈ fr.M)) {id off : Nat} {cs : List V} {c : Value} (hf : findO st.o id = some (.box cs))
    (hb : ∀ b, κ id = some (.box b) → b ∉ M) (hv : vrep (fr.env S w κ) (.vref id off) c) : vrep (callEnv S w M) (.pc (clrL st cs) off) c := by
  obtain ⟨b, el, vs, h1, h2, h3, h4, h5⟩ := h.findBox hf
  simp only [vrep] at hv ⊢
  obtain ⟨b', hb', rfl⟩ := hv
  rw [h1] at hb'; cases hb'
  refine ⟨b, 0, by simp, ?_⟩
  refine rowAt_of (vs := vs.toList) (E := (callEnv S w M).nok) (clrL_rep h (h.callLe hM) h3) fun j c hj => ⟨.inr ⟨?_, hb b h1⟩, ?_⟩
  · exact heap_lt (show w.heap[b]? = _ from h2)
  · show w.cell? _ = _
    rw [Nat.zero_add, cell_at (w := w) (show w.heap[b]? = _ from h2)]; simpa using hj

theorem capV_rep (h : SimE cx fr S κ st a w) {v : V} {c : Value} (hv : vrep (fr.env S w κ) v c) : vrep (callEnv S w []) (capV st v) c := by
  unfold capV
  split
  · split
    · rename_i cs hf
      exact box_pc h (by simp) hf (by simp) hv
    · exact vrep_undef
  · exact clr_rep h (h.callLe (by simp)) hv

theorem capVs_rep (h : SimE cx fr S κ st a w) : ∀ {l : List V} {vs : List Value}, vrepL (fr.env S w κ) l vs → vrepL (callEnv S w []) (capVs st l) vs
  | [], vs, hv => by simpa [vrepL, capVs] using hv
  | v :: l, vs, hv => by
    simp only [vrepL, capVs] at *
    obtain ⟨c, r, hc, h1, h2⟩ := hv
    exact ⟨c, r, hc, capV_rep h h1, capVs_rep h h2⟩

theorem argV_rep (h : SimE cx fr S κ st a w) {v v' : V} {c : Value} (ha : argV st v = some v') (hv : vrep (fr.env S w κ) v c) : vrep (callEnv S w []) v' c := by
  unfold argV at ha
  split at ha
  · split at ha
    · rename_i cs hf
      cases ha
      exact box_pc h (by simp) hf (by simp) hv
    · cases ha
  · split at ha
    · rename_i e xs hf
      cases ha
      simp only [vrep]
      exact arr_data h hf hv
    · cases ha
  · split at ha
    · cases ha
      simp only [vrep] at hv ⊢
      obtain ⟨vs, hc, hr⟩ := hv
      exact ⟨vs, hc, clrL_rep h (h.callLe (by simp)) hr⟩
    · cases ha
  · split at ha
    · cases ha
      simp only [vrep] at hv ⊢
      obtain ⟨vs, hc, hr⟩ := hv
      exact ⟨vs, hc, capVs_rep h hr⟩
    · cases ha
  · split at ha
    · rename_i hn
      cases ha
      exact vrep_noref (h.callLe (by simp)) hn hv
    · cases ha

theorem argVs_rep (h : SimE cx fr S κ st a w) : ∀ {i : Nat} {l l' : List V} {vs : List Value}, argVs st st [] i l = some l' → vrepL (fr.env S w κ) l vs → Args (callEnv S w []) l' vs []
  | i, [], l', vs, ha, hv => by
    simp only [argVs] at ha
    cases ha
    simp only [vrepL] at hv
    subst hv
    exact .nil
  | i, v :: l, l', vs, ha, hv => by
    simp only [argVs, hasN] at ha
    split at ha
    · rename_i x r h1 h2
      cases ha
      simp only [vrepL] at hv
      obtain ⟨c, r', rfl, h3, h4⟩ := hv
      exact .plain (argV_rep h h1 h3) (argVs_rep h h2 h4)
    · cases ha

theorem evL_rep (h : SimE cx fr S κ st a w) : ∀ (l : List Operand), vrepL (fr.env S w κ) (evL cx st l) (l.map a.eval)
  | [] => by simp [evL, vrepL]
  | x :: l => by simp only [evL, List.map_cons, vrepL]; exact ⟨_, _, rfl, h.ev x, evL_rep h l⟩

/-- how the model enters a callee -/
theorem call_enters {o : Oper} {c : Call} {fo : Operand} {f : FuncId} {caps : Array Value} {fn : Func} {w : World} (ho : o.op = .call c) (hc : c.callee = .value fo)
    (hf : a.eval fo = .func (.func f) #[] caps) (hfn : cx.P.funcs[f]? = some fn) (h1 : (fn.name == "runtime.NumGoroutine") = false) (h2 : fn.body.isNone = false) :
    (execOp a.eval o).run cx.P w = .ok (.enter f (c.args.map a.eval ++ caps)) w := by
  simp only [execOp, ho, resolve, hc, hf]
  have h1' : ¬ fn.name = "runtime.NumGoroutine" := by simpa using h1
  have h2' : ¬ fn.body = none := fun h => by rw [h] at h2; cases h2
  simp [Deferred.ofValue, invoke, callFunc, hfn, h1', h2']

theorem dataLe {B : CellSet} {κ : Nat → Option CO} {w : World} : (dataEnv S w).Le ⟨S, B, w, κ⟩ := ⟨fun _ _ h => h, fun _ _ h => h.elim, fun _ _ _ => rfl, fun _ _ h => h.elim⟩

theorem vrep_of_data {B : CellSet} {κ : Nat → Option CO} {w : World} {v : V} {c : Value} (h : vrep (dataEnv S w) v c) : vrep ⟨S, B, w, κ⟩ v c :=
  vrep_of_nok (vrep_mono (E := dataEnv S w) (E' := Env.nok ⟨S, B, w, κ⟩) dataLe (fun _ => rfl) h)

theorem callF_sound {o : Oper} {c : Call} {fo : Operand} {f : FuncId} {caps args : List V} {v : V} (ho : o.op = .call c) (hc : c.callee = .value fo)
    (hf : ev cx st fo = .fn f caps) (ha : argVs st st [] 0 (evL cx st c.args.toList ++ caps) = some args) (hok : CallOK cx f args v []) : FSound cx o st v := by
  intro fr S κ a w hs K Q hK
  have hfv := hs.ev fo
  rw [hf] at hfv
  simp only [vrep] at hfv
  obtain ⟨cvs, hfe, hcaps⟩ := hfv
  obtain ⟨fn, e1, e2, e3⟩ := hok.enter
  unfold Oper.wp
  rw [call_enters ho hc hfe e1 e2 e3, Oper.upon_enter]
  have hargs := argVs_rep hs ha (vrepL_append (evL_rep hs c.args.toList) hcaps)
  have := hok.calls S w [] _ (fun b o h => ⟨hs.sz _ _ h, by simp⟩) List.nodup_nil (fun g v hg => vrep_mono (E := (fr.env S w κ).nok) (E' := callEnv S w []) (hs.callLe (by simp)).nok (fun _ => rfl) (hs.gl g v hg)) hargs
  have he : (List.map a.eval c.args.toList ++ cvs.toList).toArray = c.args.map a.eval ++ cvs := by
    apply Array.ext'; simp
  rw [he] at this
  refine this.mono fun e w' h => ?_
  obtain ⟨cv, S', rfl, hout, hv, _⟩ := h
  exact hK cv S' w' hout.quiet (vrep_of_data hv)

end Go.Proofs.Vm
