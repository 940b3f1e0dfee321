/- All operations that only set their slot (own work). -/
import Derived.Test.YtdnjeodgdppjdaaGreatDoorVmEq
namespace Go.Proofs.Vm
open Go Go.RowKit
set_option linter.unusedVariables false
set_option linter.unusedSimpArgs false

variable {cx : Ctx} {fr : Fr} {S S' : CellSet} {κ : Nat → Option CO} {st : St} {a : Act} {w w' : World} {R : Type}

theorem pureK {o : Oper} {k : V → Option R} {r : R} (h : (match opPure cx o st with | some v => k v | none => none) = some r) : ∃ v, k v = some r ∧ FSound cx o st v := by
  split at h
  · rename_i v hv
    exact ⟨v, h, opPure_sound hv⟩
  · cases h

theorem opF_sound (hG : GoodG cx) {o : Oper} {k : V → Option R} {r : R} (h : opF cx o st k = some r) : ∃ v, k v = some r ∧ FSound cx o st v := by
  unfold opF at h
  split at h
  · rename_i x ho
    exact ⟨_, h, move_sound (.inl ho)⟩
  · rename_i x ho
    exact ⟨_, h, move_sound (.inr ho)⟩
  · rename_i t x ho
    split at h
    · rename_i v hv
      exact ⟨v, h, load_sound ho hv⟩
    · cases h
  · rename_i x ho
    split at h
    · rename_i hx; exact ⟨_, h, nilCheck_sound ho hx (.inl ⟨_, _, rfl⟩)⟩
    · rename_i hx; exact ⟨_, h, nilCheck_sound ho hx (.inr (.inl ⟨_, _, rfl⟩))⟩
    · rename_i hx; exact ⟨_, h, nilCheck_sound ho hx (.inr (.inr (.inl ⟨_, _, rfl⟩)))⟩
    · rename_i hx; exact ⟨_, h, nilCheck_sound ho hx (.inr (.inr (.inr (.inl ⟨_, _, _, rfl⟩))))⟩
    · rename_i hx; exact ⟨_, h, nilCheck_sound ho hx (.inr (.inr (.inr (.inr ⟨_, _, rfl⟩))))⟩
    · cases h
  · rename_i s x f ho
    split at h
    · rename_i fd hf
      split at h
      · rename_i n hs
        split at h
        · rename_i v hv
          exact ⟨v, h, fieldAddr_sound ho hf hs hv⟩
        · cases h
      · cases h
    · cases h
  · rename_i s x f ho
    split at h
    · rename_i fd cs hf hx
      split at h
      · rename_i v hv
        exact ⟨v, h, field_sound ho hf hx hv⟩
      · cases h
    · cases h
  · rename_i t x ix ho
    exact indexAddrV_sound ho h
  · rename_i t x ix ho
    split at h
    · rename_i s ik i hu hx hix
      exact index_sound ho hu hx hix h
    · cases h
  · rename_i t parts ho
    split at h
    · rename_i v hv
      exact ⟨v, h, build_sound ho hv⟩
    · cases h
  · rename_i t len parts ho
    split at h
    · rename_i ty xs hl
      exact ⟨_, h, buildSlice_sound ho hl⟩
    · cases h
  · rename_i b t x y yt ho
    split at h
    · rename_i ik m jk n hx hy
      split at h
      · rename_i hk
        have := kindEq_eq hk
        subst this
        by_cases hn : n = 0
        · simp [hn] at h
        · have : (n == 0) = false := by simpa using hn
          rw [this] at h
          exact ⟨_, h, div_sound ho hx hy hn (.inl ⟨rfl, rfl⟩)⟩
      · cases h
    · rename_i ik m jk n hx hy
      split at h
      · rename_i hk
        have := kindEq_eq hk
        subst this
        by_cases hn : n = 0
        · simp [hn] at h
        · have : (n == 0) = false := by simpa using hn
          rw [this] at h
          exact ⟨_, h, div_sound ho hx hy hn (.inr ⟨rfl, rfl⟩)⟩
      · cases h
    · rename_i xs ys hx hy
      split at h
      · rename_i q hq
        exact ⟨_, h, eqS_sound ho hx hy hq (.inl ⟨rfl, rfl⟩)⟩
      · cases h
    · rename_i xs ys hx hy
      split at h
      · rename_i q hq
        exact ⟨_, h, eqS_sound ho hx hy hq (.inr ⟨rfl, rfl⟩)⟩
      · cases h
    · exact pureK h
  · rename_i t x lo hi ho
    split at h
    · rename_i s hu hx
      exact slice_str_sound ho hu hx h
    · rename_i e hu
      split at h
      · rename_i n ty xs hn hx
        split at h
        · rename_i hw
          have hw := beq_true hw
          subst hw
          exact slice_data_sound ho hu hn hx h
        · cases h
      · cases h
    · cases h
  · rename_i fn first captured ho
    split at h
    · rename_i f h0
      exact ⟨_, h, makeFunc_sound ho h0⟩
    · cases h
  · rename_i t i ho
    split at h
    · rename_i vs ht
      split at h
      · rename_i v hv
        exact ⟨v, h, extract_sound ho ht hv⟩
      · cases h
    · cases h
  · rename_i c ho
    split at h
    · rename_i hc
      split at h
      · rename_i x t ha ht
        split at h
        · rename_i hu
          split at h
          · rename_i s hx
            exact ⟨_, h, lenStr_sound ho hc ha ht hu hx⟩
          · cases h
        · rename_i e hu
          split at h
          · rename_i n hn
            exact ⟨_, h, len_sound ho hc ha ht hu hn⟩
          · cases h
        · cases h
      · cases h
    · exact pureK h
    · exact pureK h
    · cases h
    · rename_i fo hc
      split at h
      · rename_i f caps hf
        split at h
        · split at h
          · rename_i args ha
            obtain ⟨v, ms, h1, h2⟩ := hG _ _ _ _ _ h
            split at h1
            · exact ⟨v, h1, callF_sound ho hc hf ha h2⟩
            · cases h1
          · cases h
        · cases h
      · cases h
    · cases h
  · exact pureK h

end Go.Proofs.Vm
