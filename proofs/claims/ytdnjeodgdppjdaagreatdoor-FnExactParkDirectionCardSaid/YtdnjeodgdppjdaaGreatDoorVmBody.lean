/- A function whose body the executor has run (own work). -/
import Derived.Test.YtdnjeodgdppjdaaGreatDoorVmLoop
namespace Go.Proofs.Vm
open Go Go.RowKit
set_option linter.unusedVariables false
set_option linter.unusedSimpArgs false

variable {cx : Ctx} {fr : Fr} {S S' : CellSet} {κ κ' : Nat → Option CO} {st st' : St} {a a' : Act} {w w' : World} {R : Type}

/-- which object is which block, at the start -/
def kOf : Nat → List V → List Value → Nat → Option CO
  | i, .mb _ :: vs, c :: cs, id => if id = 100000 + i then (match c with | .pointer (some a) => some (.box a.block) | _ => none) else kOf (i + 1) vs cs id
  | i, _ :: vs, _ :: cs, id => kOf (i + 1) vs cs id
  | _, _, _, _ => none

theorem kOf_lt : ∀ {i : Nat} {vs : List V} {cs : List Value} {id : Nat}, id < 100000 + i → kOf i vs cs id = none
  | i, [], cs, id, h => by simp [kOf]
  | i, v :: vs, [], id, h => by cases v <;> simp [kOf]
  | i, v :: vs, c :: cs, id, h => by
    have := kOf_lt (vs := vs) (cs := cs) (id := id) (i := i + 1) (by omega)
    cases v <;> simp [kOf, this]
    intro e; omega

theorem kOf_some : ∀ {i : Nat} {vs : List V} {cs : List Value} {id : Nat} {c : CO}, kOf i vs cs id = some c → id < 100000 + i + vs.length ∧ 100000 + i ≤ id ∧ ∃ b, c = .box b
  | i, [], cs, id, c, h => by simp [kOf] at h
  | i, v :: vs, [], id, c, h => by cases v <;> simp [kOf] at h
  | i, v :: vs, u :: cs, id, c, h => by
    have ih := fun h => kOf_some (i := i + 1) (vs := vs) (cs := cs) (id := id) (c := c) h
    by_cases hm : ∃ us, v = .mb us
    · obtain ⟨us, rfl⟩ := hm
      simp only [kOf] at h
      split at h
      · rename_i he
        subst he
        split at h
        · cases h; exact ⟨by simp, by omega, _, rfl⟩
        · cases h
      · obtain ⟨h1, h2, h3⟩ := ih h
        exact ⟨by simp; omega, by omega, h3⟩
    · have h' : kOf (i + 1) vs cs id = some c := by
        cases v <;> first | exact absurd ⟨_, rfl⟩ hm | simpa [kOf] using h
      obtain ⟨h1, h2, h3⟩ := ih h'
      exact ⟨by simp; omega, by omega, h3⟩

theorem vrep_not_mb {E : Env} {us : List V} {c : Value} (h : vrep E (.mb us) c) : False := by simp [vrep] at h

theorem start_slots {E : Env} : ∀ {i : Nat} {vs : List V} {cs : List Value} {M : List Nat}, Args E.nok vs cs M → (∀ id, 100000 + i ≤ id → E.κ id = kOf i vs cs id) → vrepL E (startT i vs) cs
  | i, _, _, _, .nil, _ => by simp [startT, vrepL]
  | i, _, _, _, .plain (v := v) (c := c) (vs := vs) (cs := cs) h t, hk => by
    have hne : ∀ us, v ≠ .mb us := fun us e => by subst e; exact vrep_not_mb h
    have e1 : startT i (v :: vs) = v :: startT (i + 1) vs := by cases v <;> first | rfl | exact absurd rfl (hne _)
    have e2 : ∀ id, kOf i (v :: vs) (c :: cs) id = kOf (i + 1) vs cs id := fun id => by cases v <;> first | rfl | exact absurd rfl (hne _)
    rw [e1]
    simp only [vrepL]
    exact ⟨c, cs, rfl, vrep_of_nok h, start_slots t fun id hid => (hk id (by omega)).trans (e2 id)⟩
  | i, _, _, _, .box (us := us) (b := b) (vs := vs) (cs := cs) hb hu hs t, hk => by
    simp only [startT, vrepL, vrep]
    refine ⟨_, cs, rfl, ⟨b, ?_, rfl⟩, start_slots t fun id hid => (hk id (by omega)).trans ?_⟩
    · rw [hk _ (Nat.le_refl _)]; simp [kOf]
    · simp only [kOf]; rw [if_neg (by omega)]

theorem start_objs {E : Env} (fr : Fr) (hfr : ∀ b, b ∈ fr.M → b ∈ fr.M) : ∀ {i : Nat} {vs : List V} {cs : List Value} {M : List Nat}, Args E.nok vs cs M → (∀ b ∈ M, b ∈ fr.M) → (∀ id, 100000 + i ≤ id → E.κ id = kOf i vs cs id) →
    ∀ id x, (id, x) ∈ startO i vs → 100000 + i ≤ id ∧ orep fr E id x ∧ ∃ b ∈ M, E.κ id = some (.box b)
  | i, _, _, _, .nil, _, _, id, x, h => by simp [startO] at h
  | i, _, _, _, .plain (v := v) (c := c) (vs := vs) (cs := cs) h t, hM, hk, id, x, hx => by
    have hne : ∀ us, v ≠ .mb us := fun us e => by subst e; exact vrep_not_mb h
    have e1 : startO i (v :: vs) = startO (i + 1) vs := by cases v <;> first | rfl | exact absurd rfl (hne _)
    have e2 : ∀ id, kOf i (v :: vs) (c :: cs) id = kOf (i + 1) vs cs id := fun id => by cases v <;> first | rfl | exact absurd rfl (hne _)
    rw [e1] at hx
    obtain ⟨h1, h2, h3⟩ := start_objs fr hfr t hM (fun id hid => (hk id (by omega)).trans (e2 id)) id x hx
    exact ⟨by omega, h2, h3⟩
  | i, _, _, _, .box (us := us) (b := b) (el := el) (xs := xs) (vs := vs) (cs := cs) (M := M) hb hu hs t, hM, hk, id, x, hx => by
    simp only [startO] at hx
    rcases List.mem_cons.mp hx with hx | hx
    · cases hx
      have hkb : E.κ (100000 + i) = some (.box b) := by rw [hk _ (Nat.le_refl _)]; simp [kOf]
      refine ⟨Nat.le_refl _, ⟨b, el, xs, hkb, hb, ?_, hs, .inr (hM b List.mem_cons_self)⟩, b, List.mem_cons_self, hkb⟩
      have : ∀ (l : List V) (vs : List Value), vrepL E.nok l vs → vrepL E l vs := by
        intro l
        induction l with
        | nil => intro vs h; simpa [vrepL] using h
        | cons v l ih =>
          intro vs h
          simp only [vrepL] at *
          obtain ⟨c, r, hc, h1, h2⟩ := h
          exact ⟨c, r, hc, vrep_of_nok h1, ih r h2⟩
      exact this _ _ hu
    · obtain ⟨h1, h2, b', hb', h3⟩ := start_objs fr hfr t (fun b hb => hM b (List.mem_cons_of_mem _ hb)) (fun id hid => (hk id (by omega)).trans (by simp only [kOf]; rw [if_neg (by omega)])) id x hx
      exact ⟨by omega, h2, b', List.mem_cons_of_mem _ hb', h3⟩

theorem start_keys : ∀ (i : Nat) (vs : List V), ((startO i vs).map (·.1)).Nodup ∧ ∀ id ∈ (startO i vs).map (·.1), 100000 + i ≤ id
  | i, [] => by simp [startO]
  | i, v :: vs => by
    obtain ⟨h1, h2⟩ := start_keys (i + 1) vs
    by_cases hm : ∃ us, v = .mb us
    · obtain ⟨us, rfl⟩ := hm
      simp only [startO, List.map_cons, List.nodup_cons]
      refine ⟨⟨fun h => by have := h2 _ h; omega, h1⟩, fun id hid => ?_⟩
      rcases List.mem_cons.mp hid with rfl | hid
      · exact Nat.le_refl _
      · have := h2 id hid; omega
    · have e : startO i (v :: vs) = startO (i + 1) vs := by cases v <;> first | rfl | exact absurd ⟨_, rfl⟩ hm
      rw [e]
      exact ⟨h1, fun id hid => by have := h2 id hid; omega⟩

/-- different boxes lie in different blocks -/
theorem start_di {E : Env} : ∀ {i : Nat} {vs : List V} {cs : List Value} {M : List Nat}, Args E.nok vs cs M → M.Nodup → (∀ id, 100000 + i ≤ id → E.κ id = kOf i vs cs id) →
    (∀ id x, (id, x) ∈ startO i vs → ∃ b ∈ M, E.κ id = some (.box b)) →
    ∀ id x jd y, (id, x) ∈ startO i vs → (jd, y) ∈ startO i vs → id ≠ jd → ∀ c d b, E.κ id = some c → E.κ jd = some d → blkOf c = some b → blkOf d ≠ some b
  | i, _, _, _, .nil, _, _, _, id, x, jd, y, h, _, _ => by simp [startO] at h
  | i, _, _, _, .plain (v := v) (c := c) (vs := vs) (cs := cs) h t, hn, hk, hx, id, x, jd, y, h1, h2, hne2 => by
    have hne : ∀ us, v ≠ .mb us := fun us e => by subst e; exact vrep_not_mb h
    have e1 : startO i (v :: vs) = startO (i + 1) vs := by cases v <;> first | rfl | exact absurd rfl (hne _)
    have e2 : ∀ id, kOf i (v :: vs) (c :: cs) id = kOf (i + 1) vs cs id := fun id => by cases v <;> first | rfl | exact absurd rfl (hne _)
    rw [e1] at h1 h2
    exact start_di t hn (fun id hid => (hk id (by omega)).trans (e2 id)) (fun id x h => hx id x (by rw [e1]; exact h)) id x jd y h1 h2 hne2
  | i, _, _, _, .box (us := us) (b := b) (vs := vs) (cs := cs) (M := M) hb hu hs t, hn, hk, hx, id, x, jd, y, h1, h2, hne2 => by
    have hn' := List.nodup_cons.mp hn
    have hk' : ∀ id, 100000 + (i + 1) ≤ id → E.κ id = kOf (i + 1) vs cs id := fun id hid => (hk id (by omega)).trans (by simp only [kOf]; rw [if_neg (by omega)])
    have hkb : E.κ (100000 + i) = some (.box b) := by rw [hk _ (Nat.le_refl _)]; simp [kOf]
    have hrest : ∀ id x, (id, x) ∈ startO (i + 1) vs → ∃ b' ∈ M, E.κ id = some (.box b') := fun id x h => by
      have hM : ∀ {i : Nat} {vs : List V} {cs : List Value} {M : List Nat}, Args E.nok vs cs M → (∀ id, 100000 + i ≤ id → E.κ id = kOf i vs cs id) → ∀ id x, (id, x) ∈ startO i vs → ∃ b ∈ M, E.κ id = some (.box b) := by
        intro i vs cs M ha
        induction ha generalizing i with
        | nil => intro _ id x h; simp [startO] at h
        | @plain v c vs cs M h t ih =>
          intro hk id x hx
          have hne : ∀ us, v ≠ .mb us := fun us e => by subst e; exact vrep_not_mb h
          have e1 : startO i (v :: vs) = startO (i + 1) vs := by cases v <;> first | rfl | exact absurd rfl (hne _)
          have e2 : ∀ id, kOf i (v :: vs) (c :: cs) id = kOf (i + 1) vs cs id := fun id => by cases v <;> first | rfl | exact absurd rfl (hne _)
          rw [e1] at hx
          exact ih (fun id hid => (hk id (by omega)).trans (e2 id)) id x hx
        | @box us b el xs vs cs M hb hu hs t ih =>
          intro hk id x hx
          simp only [startO] at hx
          rcases List.mem_cons.mp hx with hx | hx
          · cases hx
            exact ⟨b, List.mem_cons_self, by rw [hk _ (Nat.le_refl _)]; simp [kOf]⟩
          · obtain ⟨b', h1, h2⟩ := ih (fun id hid => (hk id (by omega)).trans (by simp only [kOf]; rw [if_neg (by omega)])) id x hx
            exact ⟨b', List.mem_cons_of_mem _ h1, h2⟩
      exact hM t hk' id x h
    intro c d k hc hd hck hdk
    simp only [startO] at h1 h2
    rcases List.mem_cons.mp h1 with h1 | h1
    · cases h1
      rcases List.mem_cons.mp h2 with h2 | h2
      · cases h2; exact hne2 rfl
      · obtain ⟨b', hb', hkb'⟩ := hrest jd y h2
        rw [hkb] at hc; cases hc
        rw [hkb'] at hd; cases hd
        simp only [blkOf, Option.some.injEq] at hck hdk
        rw [← hck] at hdk
        exact hn'.1 (hdk ▸ hb')
    · rcases List.mem_cons.mp h2 with h2 | h2
      · cases h2
        obtain ⟨b', hb', hkb'⟩ := hrest id x h1
        rw [hkb] at hd; cases hd
        rw [hkb'] at hc; cases hc
        simp only [blkOf, Option.some.injEq] at hck hdk
        rw [← hdk] at hck
        exact hn'.1 (hck ▸ hb')
      · exact start_di t hn'.2 hk' hrest id x jd y h1 h2 hne2 c d k hc hd hck hdk

/-! ### The end -/
theorem ret_data (h : SimE cx fr S κ st a w) {id : Nat} {e : Ty} {xs : List e.den} (hf : findO st.o id = some (.arr e xs false)) {c : Value} (hv : vrep (fr.env S w κ) (.os id) c) :
    vrep (dataEnv S w) (.sl e xs) c := by
  simp only [vrep]
  exact arr_data h hf hv

theorem retCell_rep (h : SimE cx fr S κ st a w) {v : V} {c : Value} (hv : vrep (fr.env S w κ) v c) : vrep (dataEnv S w) (retCell st v) c := by
  unfold retCell
  split
  · simp only [vrep] at *; exact hv
  · simp only [vrep] at *; exact hv
  · split
    · rename_i hf; exact ret_data h hf hv
    · exact vrep_undef
  · exact vrep_undef

theorem retCells_rep (h : SimE cx fr S κ st a w) : ∀ {l : List V} {vs : List Value}, vrepL (fr.env S w κ) l vs → vrepL (dataEnv S w) (retCells st l) vs
  | [], vs, hv => by simpa [vrepL, retCells] using hv
  | v :: l, vs, hv => by
    simp only [vrepL, retCells] at *
    obtain ⟨c, r, hc, h1, h2⟩ := hv
    exact ⟨c, r, hc, retCell_rep h h1, retCells_rep h h2⟩

theorem retV_rep (h : SimE cx fr S κ st a w) {v v' : V} {c : Value} (hr : retV st v = some v') (hv : vrep (fr.env S w κ) v c) : vrep (dataEnv S w) v' c := by
  unfold retV at hr
  split at hr
  · cases hr; simp only [vrep] at *; exact hv
  · cases hr; simp only [vrep] at *; exact hv
  · split at hr
    · rename_i hf; cases hr; exact ret_data h hf hv
    · cases hr
  · cases hr
    simp only [vrep] at *
    obtain ⟨vs, hc, h1⟩ := hv
    exact ⟨vs, hc, retCells_rep h h1⟩
  · cases hr

theorem retVs_rep (h : SimE cx fr S κ st a w) : ∀ {l l' : List V} {vs : List Value}, retVs st l = some l' → vrepL (fr.env S w κ) l vs → vrepL (dataEnv S w) l' vs
  | [], l', vs, hr, hv => by simp only [retVs] at hr; cases hr; simpa [vrepL] using hv
  | v :: l, l', vs, hr, hv => by
    simp only [retVs] at hr
    split at hr
    · rename_i x r h1 h2
      cases hr
      simp only [vrepL] at *
      obtain ⟨c, q, hc, h3, h4⟩ := hv
      exact ⟨c, q, hc, retV_rep h h1 h3, retVs_rep h h2 h4⟩
    · cases hr

theorem loadV_addr (h : SimE cx fr S κ st a w) {t : TypeId} {va v : V} {ca : Value} (hl : loadV cx st t va = some v) (hv : vrep (fr.env S w κ) va ca) :
    ∃ p c, ca = .pointer (some p) ∧ (loadVar t p).run cx.P w = .ok c w ∧ vrep (fr.env S w κ) v c := by
  obtain ⟨c, h1, h2⟩ := loadV_rep h hl hv
  have hp : ∃ p, ca = .pointer (some p) := by
    unfold loadV at hl
    split at hl
    · simp only [vrep] at hv; obtain ⟨b, _, rfl⟩ := hv; exact ⟨_, rfl⟩
    · simp only [vrep] at hv; obtain ⟨b, _, rfl, _⟩ := hv; exact ⟨_, rfl⟩
    · simp only [vrep] at hv; obtain ⟨_, _, _, _, _, _, rfl⟩ := hv; exact ⟨_, rfl⟩
    · cases hl
  obtain ⟨p, rfl⟩ := hp
  refine ⟨p, c, rfl, ?_, h2⟩
  simpa [Instr.loadAt, Instr.sureAddr] using h1

theorem results_list (h : SimE cx fr S κ st a w) {f : ResultVar → Sem Value} (f1 : ∀ t, f (.tmp t) = pure (a.tmps.getD t undef))
    (f2 : ∀ x t, f (.cell x t) = do loadVar t (← asAddr (a.tmps.getD x undef))) : ∀ {rs : List ResultVar} {vs : List V}, resultVs cx st rs = some vs →
    ∃ cs : List Value, (rs.mapM f).run cx.P w = .ok cs w ∧ vrepL (fr.env S w κ) vs cs
  | [], vs, hr => by
    simp only [resultVs] at hr; cases hr
    exact ⟨[], by simp, by simp [vrepL]⟩
  | q :: rs, vs, hr => by
    simp only [resultVs] at hr
    split at hr
    · rename_i v r h1 h2
      cases hr
      obtain ⟨cs, h3, h4⟩ := results_list h f1 f2 h2
      have hq : ∃ c, (f q).run cx.P w = .ok c w ∧ vrep (fr.env S w κ) v c := by
        cases q with
        | tmp t =>
          simp only [resultV] at h1
          split at h1
          · cases h1
          · cases h1
            exact ⟨_, by rw [f1]; rfl, vrepL_at h.tm t⟩
        | cell x t =>
          simp only [resultV] at h1
          split at h1
          · rename_i u hu
            cases h1
            obtain ⟨p, c, h5, h6, h7⟩ := loadV_addr h hu (vrepL_at h.tm x)
            exact ⟨c, by rw [f2, h5]; simp [asAddr, h6], h7⟩
          · cases h1
      obtain ⟨c, h5, h6⟩ := hq
      refine ⟨c :: cs, ?_, by simp only [vrepL]; exact ⟨_, cs, rfl, h6, h4⟩⟩
      rw [List.mapM_cons]
      simp only [Sem.run_bind, h5, Sem.run_pure, Result.andThen_ok, h3]
    · cases hr

theorem results_run (h : SimE cx fr S κ st a w) {fn : Func} {vs : List V} (hr : resultVs cx st fn.results.toList = some vs) :
    ∃ cs : List Value, (results fn a.tmps).run cx.P w = .ok (if h : cs.length = 1 then cs[0] else .tuple cs.toArray) w ∧ vrepL (fr.env S w κ) vs cs := by
  unfold results
  have e : fn.results = fn.results.toList.toArray := rfl
  rw [e, List.mapM_toArray]
  obtain ⟨cs, h1, h2⟩ := results_list h (f := fun
    | .tmp t => pure (a.tmps.getD t undef)
    | .cell x t => do loadVar t (← asAddr (a.tmps.getD x undef))) (fun _ => rfl) (fun _ _ => rfl) hr
  refine ⟨cs, ?_, h2⟩
  rw [Sem.run_bind, Sem.run_map]
  have : ∀ (f g : ResultVar → Sem Value), f = g → (List.mapM f fn.results.toList).run cx.P w = .ok cs w → (List.mapM g fn.results.toList).run cx.P w = .ok cs w := fun f g h h' => h ▸ h'
  rw [this _ _ ?_ h1]
  · simp only [Result.andThen_ok, Sem.run_pure, List.size_toArray]
    congr 1
  · funext q; cases q <;> rfl

theorem ends_back (h : SimE cx fr S κ st a w) {Eb : Env} : ∀ {i : Nat} {vs : List V} {cs : List Value} {M : List Nat} {ms : List (List V)}, Args Eb vs cs M → endM st i vs = some ms →
    (∀ id, 100000 + i ≤ id → fr.K0 id = kOf i vs cs id) → Backs (dataEnv S w) M ms
  | i, _, _, _, ms, .nil, he, _ => by simp only [endM] at he; cases he; exact .nil
  | i, _, _, _, ms, .plain (v := v) (c := c) (vs := vs) (cs := cs) hv t, he, hk => by
    have hne : ∀ us, v ≠ .mb us := fun us e => by subst e; exact vrep_not_mb hv
    have e1 : endM st i (v :: vs) = endM st (i + 1) vs := by cases v <;> first | rfl | exact absurd rfl (hne _)
    have e2 : ∀ id, kOf i (v :: vs) (c :: cs) id = kOf (i + 1) vs cs id := fun id => by cases v <;> first | rfl | exact absurd rfl (hne _)
    rw [e1] at he
    exact ends_back h t he fun id hid => (hk id (by omega)).trans (e2 id)
  | i, _, _, _, ms, .box (us := us) (b := b) (vs := vs) (cs := cs) (M := M) hb hu hs t, he, hk => by
    simp only [endM] at he
    split at he
    · rename_i us' r h1 h2
      cases he
      obtain ⟨b', el', xs', e1, e2, e3, _, _⟩ := h.findBox h1
      have hkb := h.pk (100000 + i) _ (findO_mem h1) (.box b) (by rw [hk _ (Nat.le_refl _)]; simp [kOf])
      have e1 : κ (100000 + i) = some (.box b') := e1
      rw [hkb] at e1
      cases e1
      refine .cons e2 (retCells_rep h e3) (ends_back h t h2 fun id hid => (hk id (by omega)).trans (by simp only [kOf]; rw [if_neg (by omega)]))
    · cases he

/-- one result, or many -/
def packV : List V → V
  | [v] => v
  | rs => .tup rs

theorem packV_rep {E : Env} : ∀ {rs : List V} {rcs : List Value}, vrepL E rs rcs → vrep E (packV rs) (if h : rcs.length = 1 then rcs[0] else .tuple rcs.toArray)
  | [], rcs, h => by
    have hl := vrepL_len h
    have : rcs = [] := by cases rcs with | nil => rfl | cons a b => simp at hl
    subst this
    simp only [packV, vrep]
    exact ⟨#[], rfl, h⟩
  | [v], rcs, h => by
    simp only [vrepL] at h
    obtain ⟨c, r, rfl, h3, h4⟩ := h
    subst h4
    simpa [packV] using h3
  | v :: u :: vs, rcs, h => by
    have hl := vrepL_len h
    have : rcs.length ≠ 1 := fun h1 => by rw [h1] at hl; simp at hl
    rw [dif_neg this]
    simp only [packV, vrep]
    exact ⟨rcs.toArray, rfl, h⟩

/-- a function whose body the executor has run -/
theorem body_ok (hG : GoodG cx) {f : FuncId} {fn : Func} {c : Code} (hf : cx.P.funcs[f]? = some fn) (hb : fn.body = some c) (hnm : (fn.name == "runtime.NumGoroutine") = false)
    (hL : ∀ b ∈ subL c, LoopOK cx b) {args : List V} (hlen : args.length ≤ fn.ntmps) (hla : args.length ≤ 50000) {k : V → List (List V) → Option R} {r : R} (h : body cx fn args k = some r) : ∃ v ms, k v ms = some r ∧ CallOK cx f args v ms := by
  unfold body at h
  rw [hb] at h
  obtain ⟨e, st', h1, h2⟩ := run_sound hG c hL h
  have hsplit : ∃ vs, resultVs cx st' fn.results.toList = some vs ∧ (∀ i, e ≠ .exit i) ∧ ∃ rs ms, retVs (st'.demote (vs ++ boxCells st' 0 args)) vs = some rs ∧ endM (st'.demote (vs ++ boxCells st' 0 args)) 0 args = some ms ∧
      k (packV rs) ms = some r := by
    split at h1
    · cases h1
    · rename_i hne
      split at h1
      · cases h1
      · rename_i vs hvs
        refine ⟨vs, hvs, fun i hi => hne i hi, ?_⟩
        dsimp only at h1
        split at h1
        · rename_i v ms h3 h4; exact ⟨[v], ms, h3, h4, h1⟩
        · rename_i rs ms hns h3 h4
          refine ⟨rs, ms, h3, h4, ?_⟩
          have : packV rs = .tup rs := by
            unfold packV
            split
            · exact absurd rfl (hns _)
            · rfl
          rw [this]; exact h1
        · cases h1
  obtain ⟨vs, hvs, hne, rs, ms, hrs, hms, hk⟩ := hsplit
  refine ⟨_, ms, hk, ⟨fn, hf, hnm, by rw [hb]; rfl⟩, fun S0 w M cs hS0 hMn hgl hargs => ?_⟩
  have hcl : cs.length = args.length := by
    have : ∀ {vs : List V} {cs : List Value} {M : List Nat}, Args (callEnv S0 w M) vs cs M → True := fun _ => trivial
    have key : ∀ {E : Env} {vs : List V} {cs : List Value} {M : List Nat}, Args E vs cs M → cs.length = vs.length := by
      intro E vs cs M ha
      induction ha with
      | nil => rfl
      | plain h t ih => simp [ih]
      | box hb hu hs t ih => simp [ih]
    exact key hargs
  have hK : ∀ id c, kOf 0 args cs id = some c → (100000 ≤ id ∧ id < 200000) ∧ ∃ b, c = .box b := fun id c hc => by
    obtain ⟨h1, h2, h3⟩ := kOf_some hc
    exact ⟨⟨by omega, by omega⟩, h3⟩
  let fr : Fr := ⟨w, S0, M, kOf 0 args cs, hK⟩
  have hnok : (fr.env S0 w (kOf 0 args cs)).nok = callEnv S0 w M := rfl
  have hargs' : Args (fr.env S0 w (kOf 0 args cs)).nok args cs M := by rw [hnok]; exact hargs
  have hobj := start_objs (E := fr.env S0 w (kOf 0 args cs)) fr (fun _ h => h) hargs' (fun b h => h) (fun id _ => rfl)
  have hkeys := start_keys 0 args
  have htm : vrepL (fr.env S0 w (kOf 0 args cs)) (startT 0 args ++ repl (fn.ntmps - args.length)) (cs.toArray ++ Array.replicate (fn.ntmps - cs.toArray.size) undef).toList := by
    have h3 := start_slots (E := fr.env S0 w (kOf 0 args cs)) hargs' (fun id _ => rfl)
    have h4 : ∀ n, vrepL (fr.env S0 w (kOf 0 args cs)) (repl n) (List.replicate n undef) := by
      intro n
      induction n with
      | zero => simp [repl, vrepL]
      | succ n ih => simp only [repl, List.replicate_succ, vrepL]; exact ⟨_, _, rfl, vrep_undef, ih⟩
    have := vrepL_append h3 (h4 (fn.ntmps - args.length))
    simpa [hcl] using this
  have hsim : SimE cx fr S0 (kOf 0 args cs) { t := startT 0 args ++ repl (fn.ntmps - args.length), o := startO 0 args } { tmps := cs.toArray ++ Array.replicate (fn.ntmps - cs.toArray.size) undef, defers := [] } w :=
    { tm := htm
      ob := fun id x hx => (hobj id x hx).2.1
      di := start_di hargs' hMn (fun id _ => rfl) fun id x hx => (hobj id x hx).2.2
      sz := fun b o hs => (hS0 b o hs).1
      s0 := fun b o hs => hs
      sn := fun b o hs => .inl hs
      sm := hS0
      kp := ⟨rfl, rfl, rfl, Nat.le_refl _, fun b _ _ => rfl⟩
      df := rfl
      gl := hgl
      nd := hkeys.1
      pk := fun id x hx c hc => hc }
  refine calls_of_wp hf hb (h2 fr S0 _ _ w _ hsim fun a' w' ⟨S1, κ1, hs1⟩ => ?_)
  obtain ⟨S2, hS2, hs2⟩ := hs1.demote (vs ++ boxCells st' 0 args)
  obtain ⟨rcs, hres, hrv⟩ := results_run hs1 hvs
  have hle : (fr.env S1 w' κ1).Le (fr.env S2 w' κ1) := ⟨hS2, fun b o x => x.imp (hS2 _ _) (fun x => x), fun _ _ _ => rfl, fun _ _ _ => rfl⟩
  have hret := retVs_rep hs2 hrs (vrepL_mono hle (fun _ => rfl) hrv)
  have hbacks := ends_back hs2 hargs' hms (fun id _ => rfl)
  have hval := packV_rep hret
  have hfin : ∃ v, (results fn a'.tmps).run cx.P w' = .ok v w' ∧ ∃ c S', Ending.returned v = .returned c ∧ Out S0 S' M w w' ∧ vrep (dataEnv S' w') (packV rs) c ∧ Backs (dataEnv S' w') M ms := by
    refine ⟨_, hres, _, S2, rfl, ?_, hval, hbacks⟩
    exact ⟨hs2.s0, fun b o hx => (hs2.sn b o hx).imp id fun h => ⟨h, hs2.sz b o hx⟩, hs2.kp.os, hs2.kp.tape, hs2.kp.output, hs2.kp.size, fun b hb hm => hs2.kp.block b hb hm⟩
  obtain ⟨v, hv1, hv2⟩ := hfin
  cases e with
  | nrm => exact ⟨hs1.df, v, hv1, hv2⟩
  | ret => exact ⟨hs1.df, v, hv1, hv2⟩
  | exit i => exact absurd rfl (hne i)

end Go.Proofs.Vm
