/- Operations in order, and regions (own work). -/
import Derived.Test.YtdnjeodgdppjdaaGreatDoorVmCallB
namespace Go.Proofs.Vm
open Go Go.RowKit
set_option linter.unusedVariables false
set_option linter.unusedSimpArgs false

variable {cx : Ctx} {fr : Fr} {S S' : CellSet} {κ κ' : Nat → Option CO} {st st' : St} {a a' : Act} {w w' : World} {R : Type}

theorem setL_self : ∀ {l : List V} {n : Nat} {v : V}, getL l n = v → v ≠ .undef → setL l n v = l
  | [], n, v, h, hne => by simp [getL] at h; exact absurd h.symm hne
  | x :: l, 0, v, h, hne => by simp [getL] at h; subst h; rfl
  | x :: l, n + 1, v, h, hne => by simp [getL] at h; simp [setL, setL_self h hne]

theorem know_eq {x : Operand} {b : Bool} (h : ev cx st x = .val (.bool b)) : st.know x b = st := by
  cases x with
  | tmp s =>
    simp only [St.know, St.setT]
    have h : getL st.t s = .val (.bool b) := h
    rw [setL_self h (by simp)]
  | _ => rfl

theorem know_slot {s : Nat} {b : Bool} (h : getL st.t s = .val (.bool b)) : st.know (.tmp s) b = st := by
  simp only [St.know, St.setT]
  rw [setL_self h (by simp)]

theorem pick_sound {o : Oper} {c x y : Operand} {t : Bool} (ho : o.op = .pick c x y) (hc : ev cx st c = .val (.bool t)) : FSound cx o st (if t then ev cx st x else ev cx st y) := by
  refine FSound.of_run fun fr S κ a w h => ?_
  have hcv := h.ev c
  rw [hc] at hcv
  simp only [vrep] at hcv
  refine ⟨if t then a.eval x else a.eval y, ?_, ?_⟩
  · simp only [execOp, ho, hcv, asBool]
    cases t <;> rfl
  · cases t
    · exact h.ev y
    · exact h.ev x

theorem OSound.demote {o : Oper} {vs : List V} (h : OSound cx o (st.demote vs) st') : OSound cx o st st' := fun fr S κ a w hs K Q hK => by
  obtain ⟨S1, _, hs1⟩ := hs.demote vs
  exact h fr S1 κ a w hs1 K Q hK

theorem opB_sound (hG : GoodG cx) {o : Oper} {k : St → Option R} {r : R} (h : opB cx o st k = some r) : ∃ st', k st' = some r ∧ OSound cx o st st' := by
  unfold opB at h
  split at h
  case h_2 => cases h
  rename_i hdst
  have hlt : ∀ d : Nat, o.dst = some d → ¬ (100000 ≤ d ∧ d < 200000) := fun d hd => by
    rw [hd] at hdst
    simp only [dstOk] at hdst
    have := Nat.le_of_ble_eq_true hdst
    omega
  unfold opB1 at h
  split at h
  · rename_i e x d ho hd
    split at h
    · rename_i h1
      exact ⟨_, h, box_osound (hlt d hd) ho hd h1⟩
    · cases h
  · rename_i e d ho hd
    split at h
    · rename_i cs hz
      exact ⟨_, h, alloc_osound (hlt d hd) ho hd hz⟩
    · cases h
  · rename_i t x y dst ho
    split at h
    · rename_i n id off hn hx
      split at h
      · rename_i cs hf hl
        simp only [Bool.and_eq_true] at hl
        split at h
        · rename_i cs' hov
          exact ⟨_, h, storeBox_osound ho hn hx hf (beq_true hl.1) hl.2 hov⟩
        · cases h
      · cases h
    · rename_i n id i off hn hx
      split at h
      · rename_i e xs hf hl
        simp only [Bool.and_eq_true] at hl
        split at h
        · rename_i cs' hov
          split at h
          · rename_i y' hu
            exact ⟨_, h, storePe_osound ho hn hx hf (beq_true hl.1) hl.2 hov hu⟩
          · cases h
        · cases h
      · cases h
    · cases h
  · rename_i t parts d ho hd
    split at h
    · rename_i e hp hu
      split at h
      · rename_i ty n hty hn
        split at h
        · rename_i hw
          exact ⟨_, h, build0_osound (hlt d hd) ho hd hp hu hn (beq_true hw)⟩
        · cases h
      · cases h
    · cases h
  · rename_i t l c d ho hd
    split at h
    · rename_i e hlc hu
      split at h
      · rename_i ty inf ik n hty hi hl
        split at h
        · rename_i z hz
          split at h
          · rename_i x0 hw hx
            by_cases h0 : 0 ≤ n
            · by_cases h1 : n * (inf.bytes + 1) ≤ (roomB : Int)
              · simp only [h0, h1, decide_true, cond_true] at h
                exact ⟨_, h, makeSlice_osound (hlt d hd) ho hd hlc hu hi hl hz (beq_true hw) hx h0 h1⟩
              · simp [h0, h1] at h
            · simp [h0] at h
          · cases h
        · cases h
      · cases h
    · cases h
  · rename_i c d ho hd
    split at h
    · rename_i hc
      split at h
      · rename_i x y tx ty0 ha ht
        split at h
        · rename_i e htt hu
          have htt := beq_true htt
          subst htt
          split at h
          · rename_i ty inf z hty hi hz
            split at h
            · rename_i ys hw hy
              simp only [Bool.and_eq_true] at hw
              have hw1 := beq_true hw.1.1
              have hw2 := beq_true hw.1.2
              have hw3 := Nat.le_of_ble_eq_true hw.2
              split at h
              · rename_i id hx
                split at h
                · rename_i ty' xs' wr hf
                  split at h
                  · rename_i xs hcast
                    obtain ⟨he, rfl⟩ := castList_eq hcast
                    subst he
                    cases hb : Nat.ble ((List.length xs' + List.length ys) * (inf.bytes + 1)) roomB with
                    | false => simp only [hb, cond_false] at h; cases h
                    | true =>
                      simp only [hb, cond_true] at h
                      exact ⟨_, h, append_os_osound ho hd hc ha ht hu hi hz hw1 hw2 hw3 hy hx hf (Nat.le_of_ble_eq_true hb)⟩
                  · cases h
                · cases h
              · rename_i hx
                cases hb : Nat.ble (List.length ys * (inf.bytes + 1)) roomB with
                | false => simp only [hb, cond_false] at h; cases h
                | true =>
                  simp only [hb, cond_true] at h
                  exact ⟨_, h, append_nil_osound (hlt d hd) ho hd hc ha ht hu hi hz hw1 hw2 hw3 hy hx (Nat.le_of_ble_eq_true hb)⟩
              · cases h
            · cases h
          · cases h
        · cases h
      · cases h
    · rename_i fo hc
      split at h
      · rename_i f caps hf
        dsimp only at h
        split at h
        · rename_i ids hi
          split at h
          · rename_i args ha
            exact callB_osound hG ho hd hc hf hi ha h
          · cases h
        · cases h
      · cases h
    · cases h
  · cases h

theorem op_sound (hG : GoodG cx) {o : Oper} {k : St → Option R} {r : R} (h : op cx o st k = some r) : ∃ st', k st' = some r ∧ OSound cx o st st' := by
  have hF : ∀ vs, (opF cx o (st.demote vs) fun v => k ((st.demote vs).put o.dst v)) = some r → ∃ st', k st' = some r ∧ OSound cx o st st' := fun vs h => by
    obtain ⟨v, h1, h2⟩ := opF_sound hG h
    exact ⟨_, h1, (FSound.osound h2).demote⟩
  unfold op at h
  split at h
  · rename_i c x y ho
    split at h
    · rename_i t hc
      have hp := pick_sound ho hc
      cases t with
      | true =>
        rw [cond_true, know_eq hc] at h
        exact ⟨_, h, hp.osound⟩
      | false =>
        rw [cond_false, know_eq hc] at h
        exact ⟨_, h, hp.osound⟩
    · cases h
  · exact opB_sound hG h
  · exact opB_sound hG h
  · exact opB_sound hG h
  · exact opB_sound hG h
  · exact opB_sound hG h
  · split at h
    · exact opB_sound hG h
    · obtain ⟨v, h1, h2⟩ := opF_sound hG h
      exact ⟨_, h1, FSound.osound h2⟩
    · exact opB_sound hG h
  · exact hF _ h

/-! ### A region in the order of its text -/
/-- what is asked of the state behind some code -/
def After (cx : Ctx) (fr : Fr) (st : St) : Act → World → Prop := fun a w => ∃ S κ, SimE cx fr S κ st a w

theorem yielded_slot (h : SimE cx fr S κ st a w) {ops : Array Oper} {j s : Nat} {b : Bool} (hs : guardSlot ops.toList j = some s) (hv : getL st.t s = .val (.bool b)) : yielded ops a.tmps j = some b := by
  unfold guardSlot at hs
  split at hs
  · rename_i o ho
    have ho' : ops[j]? = some o := by simpa using ho
    have hl : st.t[s]? = some (.val (.bool b)) := by
      rw [getL_eq] at hv
      cases hx : st.t[s]? with
      | none => rw [hx] at hv; simp at hv
      | some v => rw [hx] at hv; simp at hv; rw [hv]
    obtain ⟨c, hc, hr⟩ := vrepL_get h.tm hl
    simp only [vrep] at hr
    subst hr
    have hc' : a.tmps[s]? = some (.bool b) := by simpa using hc
    simp [yielded, ho', hs, hc']
  · cases hs

theorem yielded_undef (h : SimE cx fr S κ st a w) {ops : Array Oper} {j s : Nat} {u : Array Value} (hs : guardSlot ops.toList j = some s) (hv : getL st.t s = .val (.tuple u)) : yielded ops a.tmps j = none := by
  unfold guardSlot at hs
  split at hs
  · rename_i o ho
    have ho' : ops[j]? = some o := by simpa using ho
    have hl : st.t[s]? = some (.val (.tuple u)) := by
      rw [getL_eq] at hv
      cases hx : st.t[s]? with
      | none => rw [hx] at hv; simp at hv
      | some v => rw [hx] at hv; simp at hv; rw [hv]
    obtain ⟨c, hc, hr⟩ := vrepL_get h.tm hl
    simp only [vrep] at hr
    subst hr
    have hc' : a.tmps[s]? = some (.tuple u) := by simpa using hc
    simp [yielded, ho', hs, hc']
  · cases hs

theorem wanted_none {o : Oper} {y : Nat → Option Bool} (h : o.guard = none) : Region.wanted o y = true := by simp [Region.wanted, h]
theorem wanted_some {o : Oper} {y : Nat → Option Bool} {j : Nat} {want b : Bool} (h : o.guard = some (j, want)) (hy : y j = some b) : Region.wanted o y = (b == want) := by
  simp [Region.wanted, h, hy]

theorem wanted_skip {o : Oper} {y : Nat → Option Bool} {j : Nat} {want : Bool} (h : o.guard = some (j, want)) (hy : y j = none) : Region.wanted o y = false := by
  simp [Region.wanted, h, hy]

theorem ops_step (hG : GoodG cx) {arr : Array Oper} {o : Oper} {rest : List Oper} {st : St} {k : St → Option R} {r : R} (h : ops cx arr.toList (o :: rest) st k = some r) :
    ∃ st1, ops cx arr.toList rest st1 k = some r ∧ ∀ fr S κ a w (K : Act → World → Prop) (Q : Exit → Act → World → Prop), SimE cx fr S κ st a w → (∀ a' w', After cx fr st1 a' w' → K a' w') →
      (if Region.wanted o (yielded arr a.tmps) then o.wp cx.P a w K Q else K (a.put o.dst undef) w) := by
  simp only [ops] at h
  have exec : (op cx o st fun st' => ops cx arr.toList rest st' k) = some r → ∃ st1, ops cx arr.toList rest st1 k = some r ∧ ∀ fr S κ a w (K : Act → World → Prop) (Q : Exit → Act → World → Prop), SimE cx fr S κ st a w →
      (∀ a' w', After cx fr st1 a' w' → K a' w') → o.wp cx.P a w K Q := by
    intro h
    obtain ⟨st1, h1, h2⟩ := op_sound hG h
    exact ⟨st1, h1, fun fr S κ a w K Q hs hK => h2 fr S κ a w hs K Q fun a' w' S' κ' hs' => hK a' w' ⟨S', κ', hs'⟩⟩
  split at h
  · rename_i hg
    obtain ⟨st1, h3, h4⟩ := exec h
    refine ⟨st1, h3, fun fr S κ a w K Q hs hK => ?_⟩
    rw [if_pos (wanted_none hg)]
    exact h4 fr S κ a w K Q hs hK
  · rename_i j want hg
    split at h
    · cases h
    · rename_i s hs
      split at h
      · rename_i b hb
        have fin1 : (op cx o st fun st' => ops cx arr.toList rest st' k) = some r → b = want → _ := fun h hbw => (by
          obtain ⟨st1, h3, h4⟩ := exec h
          exact ⟨st1, h3, fun fr S κ a w K Q hsim hK => by
            rw [if_pos (by rw [wanted_some hg (yielded_slot hsim hs hb), hbw]; simp)]
            exact h4 fr S κ a w K Q hsim hK⟩ : ∃ st1, ops cx arr.toList rest st1 k = some r ∧ ∀ fr S κ a w (K : Act → World → Prop) (Q : Exit → Act → World → Prop), SimE cx fr S κ st a w → (∀ a' w', After cx fr st1 a' w' → K a' w') →
              (if Region.wanted o (yielded arr a.tmps) then o.wp cx.P a w K Q else K (a.put o.dst undef) w))
        have fin2 : ops cx arr.toList rest (st.put o.dst (.val undef)) k = some r → b ≠ want → _ := fun h hbw => (by
          exact ⟨_, h, fun fr S κ a w K Q hsim hK => by
            rw [if_neg (by rw [wanted_some hg (yielded_slot hsim hs hb)]; simpa using hbw)]
            exact hK _ _ ⟨S, κ, hsim.put o.dst vrep_val⟩⟩ : ∃ st1, ops cx arr.toList rest st1 k = some r ∧ ∀ fr S κ a w (K : Act → World → Prop) (Q : Exit → Act → World → Prop), SimE cx fr S κ st a w → (∀ a' w', After cx fr st1 a' w' → K a' w') →
              (if Region.wanted o (yielded arr a.tmps) then o.wp cx.P a w K Q else K (a.put o.dst undef) w))
        cases b <;> cases want
        · rw [cond_false, know_slot hb] at h; exact fin1 h rfl
        · rw [cond_false, know_slot hb] at h; exact fin2 h (by simp)
        · rw [cond_true, know_slot hb] at h; exact fin2 h (by simp)
        · rw [cond_true, know_slot hb] at h; exact fin1 h rfl
      · rename_i u hb
        exact ⟨_, h, fun fr S κ a w K Q hsim hK => by
          rw [if_neg (by rw [wanted_skip hg (yielded_undef hsim hs hb)]; simp)]
          exact hK _ _ ⟨S, κ, hsim.put o.dst vrep_val⟩⟩
      · cases h

theorem ops_sound (hG : GoodG cx) {arr : Array Oper} : ∀ {l : List Oper} {st : St} {k : St → Option R} {r : R}, ops cx arr.toList l st k = some r →
    ∃ st', k st' = some r ∧ ∀ fr S κ a w (Q : Exit → Act → World → Prop), SimE cx fr S κ st a w → (∀ a' w', After cx fr st' a' w' → Q .normal a' w') → wpList cx.P arr Q l a w
  | [], st, k, r, h => ⟨st, h, fun fr S κ a w Q hs hQ => hQ a w ⟨S, κ, hs⟩⟩
  | o :: rest, st, k, r, h => by
    obtain ⟨st1, h1, h2⟩ := ops_step hG h
    obtain ⟨st2, h3, h4⟩ := ops_sound hG h1
    refine ⟨st2, h3, fun fr S κ a w Q hs hQ => ?_⟩
    have := h2 fr S κ a w (wpList cx.P arr Q rest) Q hs fun a' w' ⟨S', κ', hs'⟩ => h4 fr S' κ' a' w' Q hs' hQ
    unfold wpList
    split
    · rename_i hw; rw [if_pos hw] at this; exact .inl this
    · rename_i hw; rw [if_neg hw] at this; exact this

end Go.Proofs.Vm
