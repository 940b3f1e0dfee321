/- Tools for the plain part: loops, ranges of whole numbers, lists (own work). -/
import Derived.Test.YtdnjeodgdppjdaaGreatDoorVmSpec
import Derived.Test.YtdnjeodgdppjdaaGreatDoorVmOpen
import Derived.IntWalk
import Derived.Laws.Strings
namespace Go.Proofs.Vm
open Go
set_option linter.unusedVariables false
set_option linter.unusedSimpArgs false

/-! ### loops -/
theorem iter_succ {D O R : Type} (step : D → (O → Option R) → (D → Option R) → Option R) (n : Nat) (d : D) (k : O → Option R) :
    iter step (n + 1) d k = step d k (fun d' => iter step n d' k) := rfl

theorem iter_inv {D O R : Type} {step : D → (O → Option R) → (D → Option R) → Option R} (I : D → Prop) (m : D → Nat) (Q : O → Prop)
    (h : ∀ d, I d → (∃ o, Q o ∧ ∀ kx kn, step d kx kn = kx o) ∨ (∃ d', I d' ∧ m d' < m d ∧ ∀ kx kn, step d kx kn = kn d')) :
    ∀ (n : Nat) (d : D), I d → m d < n → ∃ o, Q o ∧ ∀ kx, iter step n d kx = kx o
  | 0, d, _, hm => absurd hm (Nat.not_lt_zero _)
  | n + 1, d, hI, hm => by
    rcases h d hI with ⟨o, hq, ho⟩ | ⟨d', hI', hlt, hd⟩
    · exact ⟨o, hq, fun kx => by rw [iter_succ, ho]⟩
    · obtain ⟨o, hq, ho⟩ := iter_inv I m Q h n d' hI' (by omega)
      exact ⟨o, hq, fun kx => by rw [iter_succ, hd]; exact ho kx⟩

theorem iter_eq {D O R : Type} {step : D → (O → Option R) → (D → Option R) → Option R} (I : D → Prop) (m : D → Nat) (F : D → O)
    (h : ∀ d, I d → (∀ kx kn, step d kx kn = kx (F d)) ∨ (∃ d', I d' ∧ m d' < m d ∧ F d' = F d ∧ ∀ kx kn, step d kx kn = kn d')) :
    ∀ (n : Nat) (d : D), I d → m d < n → ∀ kx, iter step n d kx = kx (F d)
  | 0, d, _, hm, kx => absurd hm (Nat.not_lt_zero _)
  | n + 1, d, hI, hm, kx => by
    rcases h d hI with ho | ⟨d', hI', hlt, hF, hd⟩
    · rw [iter_succ, ho]
    · rw [iter_succ, hd, ← hF]; exact iter_eq I m F h n d' hI' (by omega) kx

/-- a walk over a list with a way out -/
def runL {α S O : Type} (f : Nat → α → S → S ⊕ O) (e : S → O) : List α → Nat → S → O
  | [], _, s => e s
  | x :: xs, i, s => match f i x s with
    | .inl s' => runL f e xs (i + 1) s'
    | .inr o => o

theorem iter_runL {α S D O R : Type} {step : D → (O → Option R) → (D → Option R) → Option R} (xs : List α) (mk : Nat → S → D) (P : Nat → S → Prop) (f : Nat → α → S → S ⊕ O) (e : S → O)
    (hs : ∀ i s (hi : i < xs.length), P i s → (∀ kx kn, step (mk i s) kx kn = match f i xs[i] s with | .inl s' => kn (mk (i + 1) s') | .inr o => kx o) ∧ (∀ s', f i xs[i] s = .inl s' → P (i + 1) s'))
    (he : ∀ s, P xs.length s → ∀ kx kn, step (mk xs.length s) kx kn = kx (e s)) :
    ∀ (n i k : Nat) (s : S), i + n = xs.length → n < k → P i s → ∀ kx, iter step k (mk i s) kx = kx (runL f e (xs.drop i) i s)
  | _, _, 0, _, _, hk, _, _ => absurd hk (Nat.not_lt_zero _)
  | 0, i, k + 1, s, hi, hk, hP, kx => by
    have hi : i = xs.length := by omega
    subst hi
    rw [iter_succ, he s hP, List.drop_length]; rfl
  | n + 1, i, k + 1, s, hi, hk, hP, kx => by
    have hl : i < xs.length := by omega
    obtain ⟨h1, h2⟩ := hs i s hl hP
    rw [iter_succ, h1, List.drop_eq_getElem_cons hl]
    unfold runL
    split
    · rename_i s' hs'
      exact iter_runL xs mk P f e hs he n (i + 1) k s' (by omega) (by omega) (h2 s' hs') kx
    · rfl

/-! ### whole numbers -/
theorem wi {n : Int} (h : -9223372036854775808 ≤ n ∧ n ≤ 9223372036854775807) : IntKind.wrap .i64 n = n := IntWalk.i64_in n h
theorem atIdx_in {R : Type} {n : Nat} {i : Int} {k : Nat → Option R} (h : 0 ≤ i ∧ i < (n : Int)) : atIdx n i k = k i.toNat := by
  unfold atIdx; simp [h.1, h.2]
theorem atIdx_nat {R : Type} {n : Nat} {i : Nat} {k : Nat → Option R} (h : i < n) : atIdx n (i : Int) k = k i := by
  rw [atIdx_in (by omega)]; simp

/-! ### truth values -/
/-- p holds for all numbers below n -/
def allB (n : Nat) (p : Nat → Bool) : Bool := (List.range n).all p
theorem allB_iff {n : Nat} {p : Nat → Bool} : allB n p = true ↔ ∀ i, i < n → p i = true := by
  unfold allB; simp [List.all_eq_true]
theorem allB_congr {n : Nat} {p q : Nat → Bool} (h : ∀ i, i < n → p i = q i) : allB n p = allB n q := by
  rw [Bool.eq_iff_iff, allB_iff, allB_iff]
  constructor
  · intro h1 i hi; rw [← h i hi]; exact h1 i hi
  · intro h1 i hi; rw [h i hi]; exact h1 i hi
/-- the first number below n with q -/
def findN (n : Nat) (q : Nat → Bool) : Option Nat := (List.range n).find? q

theorem bl1 {α : Type} {b x : Bool} {u : α} : cond b (some (x, u)) (some (false, u)) = some (b && x, u) := by cases b <;> simp
theorem bl2 {α : Type} {b x : Bool} {u : α} : cond (!b) (some (false, u)) (some (x, u)) = some (b && x, u) := by cases b <;> simp
theorem bl3 {α : Type} {b x : Bool} {u : α} : cond b (some (true, u)) (some (x, u)) = some (b || x, u) := by cases b <;> simp

/-- a loop that leaves at the first number that is not as asked -/
theorem iter_find {D O R : Type} {step : D → (O → Option R) → (D → Option R) → Option R} (n : Nat) (q : Nat → Bool) (mk : Nat → D) (o1 : Nat → O) (o2 : O)
    (hs : ∀ i, i < n → (∀ j, j < i → q j = false) → ∀ kx kn, step (mk i) kx kn = cond (q i) (kx (o1 i)) (kn (mk (i + 1))))
    (he : ∀ kx kn, step (mk n) kx kn = kx o2) {kx : O → Option R} {k : Nat} (hk : n < k) {d0 : D} (h0 : d0 = mk 0 := by rfl) :
    iter step k d0 kx = match findN n q with | some i => kx (o1 i) | none => kx o2 := by
  rw [h0]
  have key : ∀ (m i k : Nat), i + m = n → m < k → (∀ j, j < i → q j = false) → iter step k (mk i) kx = match (List.range' i m).find? q with | some i => kx (o1 i) | none => kx o2 := by
    intro m
    induction m with
    | zero =>
      intro i k hi hk hq
      obtain ⟨k, rfl⟩ : ∃ k', k = k' + 1 := ⟨k - 1, by omega⟩
      have : i = n := by omega
      subst this
      rw [iter_succ, he]; simp
    | succ m ih =>
      intro i k hi hk hq
      obtain ⟨k, rfl⟩ : ∃ k', k = k' + 1 := ⟨k - 1, by omega⟩
      rw [iter_succ, hs i (by omega) hq, List.range'_succ, List.find?_cons]
      cases hqi : q i with
      | true => simp
      | false =>
        simp only [cond_false]
        exact ih (i + 1) k (by omega) (by omega) (fun j hj => by
          rcases Nat.lt_or_ge j i with h | h
          · exact hq j h
          · have : j = i := by omega
            subst this; exact hqi)
  have := key n 0 k (by omega) hk (fun j hj => absurd hj (Nat.not_lt_zero j))
  rw [this]; unfold findN; rw [List.range_eq_range']

/-- a loop that leaves with the same answer wherever it leaves -/
theorem iter_all {D O R : Type} {step : D → (O → Option R) → (D → Option R) → Option R} (n : Nat) (p : Nat → Bool) (mk : Nat → D) (o1 o2 : O)
    (hs : ∀ i, i < n → (∀ j, j < i → p j = true) → ∀ kx kn, step (mk i) kx kn = cond (p i) (kn (mk (i + 1))) (kx o1))
    (he : ∀ kx kn, step (mk n) kx kn = kx o2) {kx : O → Option R} {k : Nat} (hk : n < k) {d0 : D} (h0 : d0 = mk 0 := by rfl) :
    iter step k d0 kx = cond (allB n p) (kx o2) (kx o1) := by
  rw [h0, iter_find n (fun i => !p i) mk (fun _ => o1) o2 (fun i hi hq kx kn => by
    rw [hs i hi (fun j hj => by have := hq j hj; simpa using this)]; cases p i <;> rfl) he hk]
  cases h : findN n (fun i => !p i) with
  | none =>
    have : allB n p = true := by
      rw [allB_iff]; intro i hi
      unfold findN at h
      rw [List.find?_eq_none] at h
      have := h i (by simp [hi]); simpa using this
    rw [this]; rfl
  | some i =>
    have : allB n p = false := by
      rw [Bool.eq_false_iff]; intro h2
      unfold findN at h
      have h3 := List.find?_some h
      have h4 := List.mem_of_find?_eq_some h
      rw [allB_iff] at h2
      have := h2 i (by simpa using h4)
      simp [this] at h3
    rw [this]; rfl

/-- a loop that goes on to its end -/
theorem iter_to {D O R : Type} {step : D → (O → Option R) → (D → Option R) → Option R} (n : Nat) (mk : Nat → D) (o : O)
    (hs : ∀ i, i < n → ∀ kx kn, step (mk i) kx kn = kn (mk (i + 1)))
    (he : ∀ kx kn, step (mk n) kx kn = kx o) {kx : O → Option R} {k : Nat} (hk : n < k) {d0 : D} (h0 : d0 = mk 0 := by rfl) :
    iter step k d0 kx = kx o := by
  rw [h0, iter_find n (fun _ => false) mk (fun _ => o) o (fun i hi _ kx kn => by rw [hs i hi]; rfl) he hk]
  cases findN n (fun _ => false) <;> rfl

theorem findN_some {n i : Nat} {q : Nat → Bool} (h : findN n q = some i) : i < n ∧ q i = true ∧ ∀ j, j < i → q j = false := by
  unfold findN at h
  have h3 := List.find?_some h
  have h4 := List.mem_of_find?_eq_some h
  refine ⟨by simpa using h4, h3, fun j hj => ?_⟩
  rw [List.find?_range_eq_some] at h
  have := h.2.2 j hj
  simpa using this
theorem findN_none {n : Nat} {q : Nat → Bool} (h : findN n q = none) : ∀ j, j < n → q j = false := by
  unfold findN at h
  rw [List.find?_eq_none] at h
  intro j hj
  have := h j (by simp [hj]); simpa using this

/-- fuel enough for every loop -/
abbrev BigK (K : Nat) : Prop := 18446744073709551616 ≤ K

theorem wf_i64 {n : Int} (h : Wf (.int .i64) n) : -9223372036854775808 ≤ n ∧ n ≤ 9223372036854775807 := by
  have h' : (Lit.int .i64 n).wf = true := h
  unfold Lit.wf at h'
  simp only [Bool.and_eq_true, decide_eq_true_eq] at h'
  have e1 : IntKind.min .i64 = -9223372036854775808 := by decide
  have e2 : IntKind.max .i64 = 9223372036854775807 := by decide
  rw [e1, e2] at h'
  omega

theorem strEq_refl (s : ByteArray) : strEq s s = true := by unfold strEq; simp
theorem strEq_empty (s : ByteArray) : strEq s ⟨#[]⟩ = decide (s.size = 0) := by
  unfold strEq
  rw [ByteArray.toList_eq, ByteArray.toList_eq]
  obtain ⟨⟨l⟩⟩ := s
  cases l <;> rfl
theorem bt_bd (s : ByteArray) (i : Nat) : 0 ≤ bt s i ∧ bt s i ≤ 255 := by
  unfold bt
  have := (s.data.toList.getD i 0).toNat_lt
  omega
end Go.Proofs.Vm
