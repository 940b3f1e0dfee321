/- Code: sequences, tests, blocks, loops (own work). -/
import Derived.Test.YtdnjeodgdppjdaaGreatDoorVmDraw
import Derived.LoopN
import Derived.Scope
namespace Go.Proofs.Vm
open Go Go.RowKit
set_option linter.unusedVariables false
set_option linter.unusedSimpArgs false

variable {cx : Ctx} {fr : Fr} {S S' : CellSet} {κ κ' : Nat → Option CO} {st st' : St} {a a' : Act} {w w' : World} {R : Type}

def Ex.to : Ex → Exit
  | .nrm => .normal
  | .exit i => .exit i
  | .ret => .ret

/-- some code leads from what the one state stands for to what the other one stands for -/
def CSound (cx : Ctx) (c : Code) (st : St) (e : Ex) (st' : St) : Prop :=
  ∀ fr S κ a w (Q : Exit → Act → World → Prop), SimE cx fr S κ st a w → (∀ a' w', After cx fr st' a' w' → Q e.to a' w') → c.wp cx.P Q a w

/-- the bodies of the loops in some code -/
def subL : Code → List Code
  | .seq a b => subL a ++ subL b
  | .cond _ a b => subL a ++ subL b
  | .block _ a => subL a
  | .scope a => subL a
  | .loop b => b :: subL b
  | _ => []

/-- what the context says of a loop is what its rounds do -/
def LoopOK (cx : Ctx) (b : Code) : Prop :=
  ∀ (R : Type) (st : St) (k : Ex → St → Option R) (r : R), cx.L (keyOf b) st k = some r → ∃ n, rounds cx b k n st = some r

theorem SimE.dropObj (h : SimE cx fr S κ st a w) (s : Nat) : SimE cx fr S κ { st with o := dropO st.o s } a w :=
  h.fewer (fun i x hx => (mem_dropO hx).2) (nodup_dropO h.nd)

theorem SimE.forget (h : SimE cx fr S κ st a w) : ∀ (l : List Nat), SimE cx fr S κ (forget l st) a w := by
  intro l
  induction l generalizing st with
  | nil => exact h
  | cons s l ih =>
    simp only [Vm.forget]
    split
    · exact ih (SimE.setUndef (st := st) h (s - 1000000))
    exact ih (SimE.setUndef (st := { st with o := dropO st.o s }) (h.dropObj s) s)

/-- an empty owned array for a nil slice -/
theorem SimE.ownNil1 (h : SimE cx fr S κ st a w) {s : Nat} {e : Ty} (hv : getL st.t s = .val (.slice none 0 0)) :
    ∃ κ', SimE cx fr S κ' { t := setL (st.kill (200000 + s)).t s (.os (200000 + s)), o := (200000 + s, .arr e [] false) :: (st.kill (200000 + s)).o } a w := by
  have hle : (fr.env S w κ).Le (fr.env S w fun i => if i = 200000 + s then some (CO.arr none 0 0 e.width) else κ i) := ⟨fun _ _ x => x, fun _ _ x => x, fun _ _ _ => rfl, fun _ _ _ => rfl⟩
  have h1 := h.newObj (200000 + s) (co := .arr none 0 0 e.width) (ob := .arr e [] false) (v := .os (200000 + s)) (c := .slice none 0 0) hle (fun b hb => rfl) (fun b o x => .inl x) (Nat.le_refl _)
    (fun b hb => by simp [blkOf] at hb) ⟨none, 0, by simp [Fr.env], Nat.le_refl _, fun _ => ⟨rfl, rfl⟩, fun x hx => by cases hx⟩ (by simp [vrep, Fr.env]) h.kp s (by omega)
  have hval : a.tmps.getD s undef = .slice none 0 0 := by
    have := vrepL_at h.tm s
    rw [hv] at this
    simpa [vrep] using this
  have ha : a.put (some s) (.slice none 0 0) = a := by
    obtain ⟨tm, df⟩ := a
    simp only [Act.put]
    congr 1
    apply Array.ext
    · simp
    · intro i h1 h2
      by_cases hi : s = i
      · subst hi
        simp only [Array.getElem_setIfInBounds_self]
        have : tm.getD s undef = tm[s] := by simp [h2]
        rw [← this]
        exact hval.symm
      · rw [Array.getElem_setIfInBounds_ne _ hi]
  rw [ha] at h1
  exact ⟨_, h1⟩

theorem SimE.ownNil (h : SimE cx fr S κ st a w) : ∀ (l : List (Nat × Ty)), ∃ κ', SimE cx fr S κ' (ownNil l st) a w := by
  intro l
  induction l generalizing st κ with
  | nil => exact ⟨κ, h⟩
  | cons p l ih =>
    obtain ⟨s, e⟩ := p
    simp only [Vm.ownNil]
    split
    · rename_i hv
      obtain ⟨κ', h1⟩ := h.ownNil1 (e := e) hv
      exact ih h1
    · exact ih h

theorem SimE.prep (h : SimE cx fr S κ st a w) (key : Nat) : ∃ κ', SimE cx fr S κ' (prep cx key st) a w := by
  obtain ⟨κ', h1⟩ := h.ownNil (cx.own key)
  exact ⟨κ', h1.forget _⟩

theorem run_sound (hG : GoodG cx) : ∀ (c : Code), (∀ b ∈ subL c, LoopOK cx b) → ∀ {R : Type} {st : St} {k : Ex → St → Option R} {r : R}, run cx c st k = some r → ∃ e st', k e st' = some r ∧ CSound cx c st e st'
  | .skip, _, R, st, k, r, h => ⟨.nrm, st, h, fun fr S κ a w Q hs hQ => wp_skip (hQ a w ⟨S, κ, hs⟩)⟩
  | .label l, _, R, st, k, r, h => ⟨.nrm, st, h, fun fr S κ a w Q hs hQ => wp_label (hQ a w ⟨S, κ, hs⟩)⟩
  | .region id arr false, _, R, st, k, r, h => by
    simp only [run] at h
    obtain ⟨st', h1, h2⟩ := ops_sound hG h
    exact ⟨.nrm, st', h1, fun fr S κ a w Q hs hQ => wp_region_list (h2 fr S κ a w Q hs hQ)⟩
  | .region id arr true, _, R, st, k, r, h => by
    simp only [run] at h
    split at h
    · rename_i hok
      simp only [Bool.and_eq_true] at hok
      obtain ⟨st', h1, h2⟩ := draw_sound (id := id) hG hok.1 hok.2 h
      exact ⟨.nrm, st', h1, fun fr S κ a w Q hs hQ => h2 fr S κ a w Q hs hQ⟩
    · cases h
  | .seq x y, hL, R, st, k, r, h => by
    simp only [run] at h
    obtain ⟨e, st1, h1, h2⟩ := run_sound hG x (fun b hb => hL b (List.mem_append_left _ hb)) h
    cases e with
    | nrm =>
      obtain ⟨e2, st2, h3, h4⟩ := run_sound hG y (fun b hb => hL b (List.mem_append_right _ hb)) h1
      refine ⟨e2, st2, h3, fun fr S κ a w Q hs hQ => wp_seq (h2 fr S κ a w _ hs fun a' w' ⟨S', κ', hs'⟩ => h4 fr S' κ' a' w' Q hs' hQ)⟩
    | exit i => exact ⟨.exit i, st1, h1, fun fr S κ a w Q hs hQ => wp_seq (h2 fr S κ a w _ hs hQ)⟩
    | ret => exact ⟨.ret, st1, h1, fun fr S κ a w Q hs hQ => wp_seq (h2 fr S κ a w _ hs hQ)⟩
  | .cond c x y, hL, R, st, k, r, h => by
    simp only [run] at h
    split at h
    · rename_i t hc
      have hcv : ∀ {fr S κ a w}, SimE cx fr S κ st a w → a.eval c = .bool t := fun hs => by
        have := hs.ev c
        rw [hc] at this
        simpa [vrep] using this
      cases t with
      | true =>
        rw [cond_true, know_eq hc] at h
        obtain ⟨e, st', h1, h2⟩ := run_sound hG x (fun b hb => hL b (List.mem_append_left _ hb)) h
        exact ⟨e, st', h1, fun fr S κ a w Q hs hQ => wp_cond_true (hcv hs) (h2 fr S κ a w Q hs hQ)⟩
      | false =>
        rw [cond_false, know_eq hc] at h
        obtain ⟨e, st', h1, h2⟩ := run_sound hG y (fun b hb => hL b (List.mem_append_right _ hb)) h
        exact ⟨e, st', h1, fun fr S κ a w Q hs hQ => wp_cond_false (hcv hs) (h2 fr S κ a w Q hs hQ)⟩
    · cases h
  | .block id c, hL, R, st, k, r, h => by
    simp only [run] at h
    obtain ⟨e, st1, h1, h2⟩ := run_sound hG c hL h
    cases e with
    | nrm => exact ⟨.nrm, st1, h1, fun fr S κ a w Q hs hQ => wp_block (h2 fr S κ a w _ hs hQ)⟩
    | exit i =>
      simp only at h1
      split at h1
      · rename_i hi
        have := beq_true hi
        subst this
        exact ⟨.nrm, st1, h1, fun fr S κ a w Q hs hQ => wp_block (h2 fr S κ a w _ hs fun a' w' ha => by simp only [Ex.to, Exit.inBlock, if_true]; exact hQ a' w' ha)⟩
      · rename_i hi
        exact ⟨.exit i, st1, h1, fun fr S κ a w Q hs hQ => wp_block (h2 fr S κ a w _ hs fun a' w' ha => by
          have : i ≠ id := fun e => by rw [e] at hi; simp at hi
          simp only [Ex.to, Exit.inBlock, if_neg this]; exact hQ a' w' ha)⟩
    | ret => exact ⟨.ret, st1, h1, fun fr S κ a w Q hs hQ => wp_block (h2 fr S κ a w _ hs hQ)⟩
  | .loop b, hL, R, st, k, r, h => by
    simp only [run] at h
    obtain ⟨n, hn⟩ := hL b (List.mem_cons_self) R _ k r h
    have key : ∀ (n : Nat) (st : St), rounds cx b k n st = some r → ∃ e st', k e st' = some r ∧ ∀ fr S κ a w (Q : Exit → Act → World → Prop), SimE cx fr S κ st a w →
        (∀ a' w', After cx fr st' a' w' → Q e.to a' w') → Code.rounds cx.P b Q n a w := by
      intro n
      induction n with
      | zero => intro st h; simp [rounds] at h
      | succ n ih =>
        intro st h
        simp only [rounds] at h
        obtain ⟨e, st1, h1, h2⟩ := run_sound hG b (fun b' hb' => hL b' (List.mem_cons_of_mem _ hb')) h
        cases e with
        | nrm =>
          obtain ⟨e2, st2, h3, h4⟩ := ih _ h1
          exact ⟨e2, st2, h3, fun fr S κ a w Q hs hQ => h2 fr S κ a w _ hs fun a' w' ⟨S', κ', hs'⟩ => h4 fr S' κ' a' w' Q (hs'.forget _) hQ⟩
        | exit i => exact ⟨.exit i, _, h1, fun fr S κ a w Q hs hQ => h2 fr S κ a w _ hs fun a' w' ⟨S', κ', hs'⟩ => hQ a' w' ⟨S', κ', hs'.forget _⟩⟩
        | ret => exact ⟨.ret, _, h1, fun fr S κ a w Q hs hQ => h2 fr S κ a w _ hs fun a' w' ⟨S', κ', hs'⟩ => hQ a' w' ⟨S', κ', hs'.forget _⟩⟩
    obtain ⟨e, st', h1, h2⟩ := key n _ hn
    refine ⟨e, st', h1, fun fr S κ a w Q hs hQ => ?_⟩
    obtain ⟨κ', hs'⟩ := hs.prep (keyOf b)
    exact wp_loop_rounds n (h2 fr S κ' a w Q hs' hQ)
  | .scope c, hL, R, st, k, r, h => by
    simp only [run] at h
    obtain ⟨e, st1, h1, h2⟩ := run_sound hG c hL h
    refine ⟨e, st1, h1, fun fr S κ a w Q hs hQ => wp_scope_straight (h2 fr S κ a w _ hs fun a' w' ha => ?_)⟩
    have := hQ a' w' ha
    cases e <;> simpa [Ex.to, Exit.noGoto] using this
  | .exit id, _, R, st, k, r, h => ⟨.exit id, st, h, fun fr S κ a w Q hs hQ => wp_exit (hQ a w ⟨S, κ, hs⟩)⟩
  | .ret, _, R, st, k, r, h => ⟨.ret, st, h, fun fr S κ a w Q hs hQ => wp_ret (hQ a w ⟨S, κ, hs⟩)⟩
  | .goto l, _, R, st, k, r, h => by simp [run] at h
  | .refuse s, _, R, st, k, r, h => by simp [run] at h
  | .rangeFunc f p x b, _, R, st, k, r, h => by simp [run] at h

end Go.Proofs.Vm
