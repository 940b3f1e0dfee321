/- What is handed in, as data (own work). -/
import Derived.Test.YtdnjeodgdppjdaaGreatDoorVmSpec
import Derived.ProofKit
namespace Go.Proofs.Vm
open Go Go.RowKit
set_option linter.unusedVariables false
set_option linter.unusedSimpArgs false

def tyFields (P : Program) (f : TypeId → Option Ty) : List Field → Nat → Option (Ty × Nat)
  | [], n => some (.unit, n)
  | fd :: fs, n => match f fd.type, tyFields P f fs (n + P.cellsOf fd.type) with
    | some a, some (y, m) => match Nat.beq fd.offset n && Nat.beq (P.cellsOf fd.type) a.width with
      | true => some (.pair a y, m)
      | false => none
    | _, _ => none

/-- the type of data behind a type, with its lay-out looked at -/
def ty2 (P : Program) : Nat → TypeId → Option Ty
  | 0, _ => none
  | d + 1, t => match P.underlying t with
    | some (.int k) => some (.int k)
    | some .bool => some .bool
    | some .string => some .str
    | some (.slice e) => match ty2 P d e with
      | some x => match Nat.beq (P.cellsOf e) x.width && Nat.blt 0 x.width with
        | true => some (.sl x)
        | false => none
      | none => none
    | some (.struct fs) => match tyFields P (ty2 P d) fs.toList 0 with
      | some (y, n) => match Nat.beq n (P.cellsOf t) with
        | true => some y
        | false => none
      | none => none
    | _ => none

/-- data that Go's types allow -/
def Wf : (t : Ty) → t.den → Prop
  | .int k, n => (Lit.int k n).wf = true
  | .bool, _ => True
  | .str, s => s.size ≤ maxLen
  | .unit, _ => True
  | .pair a b, x => Wf a x.1 ∧ Wf b x.2
  | .sl e, xs => List.length xs ≤ maxLen ∧ ∀ x ∈ (show List e.den from xs), Wf e x

theorem exists_list {α : Type} {Q : Nat → α → Prop} : ∀ (n : Nat), (∀ i, i < n → ∃ x, Q i x) → ∃ xs : List α, xs.length = n ∧ ∀ (i : Nat) (x : α), xs[i]? = some x → Q i x
  | 0, _ => ⟨[], rfl, fun i x h => by simp at h⟩
  | n + 1, h => by
    obtain ⟨xs, h1, h2⟩ := exists_list (Q := fun i x => Q i x) n fun i hi => h i (by omega)
    obtain ⟨x, hx⟩ := h n (by omega)
    refine ⟨xs ++ [x], by simp [h1], fun i y hy => ?_⟩
    rcases Nat.lt_or_ge i xs.length with hi | hi
    · rw [List.getElem?_append_left hi] at hy; exact h2 i y hy
    · rw [List.getElem?_append_right hi] at hy
      have : i - xs.length = 0 := by
        rcases Nat.eq_zero_or_pos (i - xs.length) with h0 | h0
        · exact h0
        · rw [List.getElem?_eq_none (by simp; omega)] at hy; cases hy
      rw [this] at hy
      simp at hy; subst hy
      have : i = n := by omega
      subst this; exact hx

theorem mapM_cons_some {α β : Type} {f : α → Option β} {a : α} {l : List α} {r : List β} (h : (a :: l).mapM f = some r) : ∃ y ys, f a = some y ∧ l.mapM f = some ys ∧ r = y :: ys := by
  rw [List.mapM_cons] at h
  cases hy : f a with
  | none => rw [hy] at h; simp at h
  | some y =>
    rw [hy] at h
    cases hys : l.mapM f with
    | none => rw [hys] at h; simp at h
    | some ys => rw [hys] at h; simp at h; exact ⟨y, ys, rfl, rfl, h.symm⟩

theorem mapM_get {α β : Type} {f : α → Option β} : ∀ {l : List α} {r : List β}, l.mapM f = some r → r.length = l.length ∧ ∀ (i : Nat) (x : α), l[i]? = some x → ∃ y, f x = some y ∧ r[i]? = some y
  | [], r, h => by simp at h; subst h; exact ⟨rfl, fun i x hx => by simp at hx⟩
  | a :: l, r, h => by
    obtain ⟨y, ys, hy, hys, rfl⟩ := mapM_cons_some h
    obtain ⟨h1, h2⟩ := mapM_get hys
    refine ⟨by simp [h1], fun i x hx => ?_⟩
    cases i with
    | zero => simp at hx; subst hx; exact ⟨y, hy, by simp⟩
    | succ i => simp at hx; obtain ⟨z, h3, h4⟩ := h2 i x hx; exact ⟨z, h3, by simpa using h4⟩

variable {H : Type} {en : TypeId × Value → H} {P : Program} {w : World} {spare : Nat → Bool} {held : Bool}

/-- cells of blocks that are there -/
def there (w : World) : CellSet := fun b _ => b < w.heap.size

theorem cells_get {a : Addr} {n : Nat} {cs : List Value} {base : Nat} (h : w.cells? base a n = some cs) : cs.length = n ∧ ∀ j v, cs[j]? = some v → w.cell? (a.add j) = some v := by
  unfold World.cells? at h
  split at h
  · obtain ⟨h1, h2⟩ := mapM_get h
    refine ⟨by simpa using h1, fun j v hj => ?_⟩
    have hjn : j < n := by
      rcases Nat.lt_or_ge j cs.length with h' | h'
      · have := h1; simp at this; omega
      · rw [List.getElem?_eq_none h'] at hj; cases hj
    obtain ⟨y, h3, h4⟩ := h2 j j (by simp [hjn])
    rw [h4] at hj; cases hj; exact h3
  · cases h

theorem fields_rep {d : Nat} (ih : ∀ (fuel : Nat) (t : TypeId) (ty : Ty) (cs : List Value) x, ty2 P d t = some ty → DataW.trod en P w 0 spare held fuel t cs = some x → ∃ v : ty.den, rep (there w) w ty v cs ∧ Wf ty v) {fuel : Nat} {cs : List Value} :
    ∀ {fs : List Field} {n m : Nat} {y : Ty} {xs : List (DataW H × List MemPlace)}, tyFields P (ty2 P d) fs n = some (y, m) → (fs.mapM fun f => DataW.trod en P w 0 spare held fuel f.type ((cs.drop f.offset).take (P.cellsOf f.type))) = some xs → cs.length = m → n ≤ m →
      ∃ v : y.den, rep (there w) w y v (cs.drop n) ∧ Wf y v
  | [], n, m, y, xs, h, hx, hl, hn => by
    simp only [tyFields] at h; cases h
    refine ⟨(), ?_, trivial⟩
    simp only [rep]
    exact List.drop_eq_nil_of_le (by omega)
  | f :: fs, n, m, y, xs, h, hx, hl, hn => by
    simp only [tyFields] at h
    split at h
    · rename_i a y' m' h1 h2
      split at h
      · rename_i hb
        simp only [Bool.and_eq_true] at hb
        have hb1 := beq_true hb.1
        have hb2 := beq_true hb.2
        cases h
        obtain ⟨x0, xs', hx0, hxs, rfl⟩ := mapM_cons_some hx
        obtain ⟨v1, r1, w1⟩ := ih fuel f.type a _ _ h1 hx0
        have hw : ((cs.drop f.offset).take (P.cellsOf f.type)).length = a.width := rep_len r1
        have hle : n + P.cellsOf f.type ≤ m := by
          rw [hb2]
          simp only [List.length_take, List.length_drop] at hw
          by_cases ha : a.width = 0
          · omega
          · omega
        obtain ⟨v2, r2, w2⟩ := fields_rep ih h2 hxs hl hle
        refine ⟨(v1, v2), ⟨_, _, ?_, r1, r2⟩, w1, w2⟩
        rw [hb1, ← List.drop_drop]
        exact (List.take_append_drop _ _).symm
      · cases h
    · cases h

theorem trod_rep : ∀ (d fuel : Nat) (t : TypeId) (ty : Ty) (cs : List Value) x, ty2 P d t = some ty → DataW.trod en P w 0 spare held fuel t cs = some x → ∃ v : ty.den, rep (there w) w ty v cs ∧ Wf ty v
  | 0, fuel, t, ty, cs, x, h, hx => by simp [ty2] at h
  | d + 1, 0, t, ty, cs, x, h, hx => by simp [DataW.trod] at hx
  | d + 1, fuel + 1, t, ty, cs, x, h, hx => by
    unfold ty2 at h
    unfold DataW.trod at hx
    cases hu : P.underlying t with
    | none => rw [hu] at h; cases h
    | some u =>
      rw [hu] at h hx
      cases u <;> simp only at h <;> try (cases h; done)
      case bool =>
        cases h
        split at hx <;> simp_all
        exact ⟨_, rfl, trivial⟩
      case int k =>
        cases h
        split at hx <;> simp_all
        rename_i heq
        obtain ⟨⟨rfl, hwf⟩, _⟩ := hx
        subst heq
        exact ⟨_, rfl, hwf⟩
      case string =>
        cases h
        split at hx <;> simp_all
        exact ⟨_, rfl, hx.1⟩
      case slice e =>
        split at h
        · rename_i ye hye
          split at h
          · rename_i hb
            cases h
            simp only [Bool.and_eq_true] at hb
            have hb1 := beq_true hb.1
            have hb2 : 0 < ye.width := by have := hb.2; simp [Nat.blt] at this; omega
            split at hx <;> try (simp_all; done)
            · exact ⟨([] : List ye.den), rep_nil _ _ _, Nat.zero_le _, fun x hx => by cases hx⟩
            · rename_i a len cap heq
              simp only [Option.some.injEq, TypeDesc.slice.injEq] at heq
              subst heq
              split at hx
              · rename_i hlc
                dsimp only at hx
                cases hel : ((List.range len).mapM fun i => (w.cells? 0 (a.add (i * P.cellsOf e)) (P.cellsOf e)).bind (DataW.trod en P w 0 spare held fuel e)) with
                | none => rw [hel] at hx; simp at hx
                | some elems =>
                  obtain ⟨h1, h2⟩ := mapM_get hel
                  obtain ⟨xs, hxl, hxs⟩ := exists_list (Q := fun i x => ∃ c, rep (there w) w ye x c ∧ Wf ye x ∧ w.cells? 0 (a.add (i * P.cellsOf e)) (P.cellsOf e) = some c) len fun i hi => by
                    obtain ⟨y, hy1, hy2⟩ := h2 i i (by simp [hi])
                    cases hc : w.cells? 0 (a.add (i * P.cellsOf e)) (P.cellsOf e) with
                    | none => rw [hc] at hy1; simp at hy1
                    | some c =>
                      rw [hc] at hy1
                      obtain ⟨v, r1, w1⟩ := trod_rep d fuel e ye c y hye hy1
                      exact ⟨v, c, r1, w1, rfl⟩
                  refine ⟨xs, ⟨some a, cap, by rw [hxl], by rw [hxl]; exact hlc.2.1, fun i x hi => ?_⟩, by rw [hxl]; omega, fun x hx => ?_⟩
                  · obtain ⟨c, r1, w1, hc⟩ := hxs i x hi
                    obtain ⟨hcl, hcg⟩ := cells_get hc
                    have hspot : a.spot = none := by
                      have hxl0 : 0 < xs.length := by
                        rcases Nat.lt_or_ge i xs.length with h' | h'
                        · omega
                        · rw [show (xs[i]? : Option ye.den) = none from List.getElem?_eq_none h'] at hi; cases hi
                      obtain ⟨c0, _, _, hc0⟩ := hxs 0 _ (List.getElem?_eq_getElem hxl0)
                      have ea : a.add (0 * P.cellsOf e) = a := by simp [Addr.add]
                      rw [ea] at hc0
                      obtain ⟨hcl0, hcg0⟩ := cells_get hc0
                      have hlt : 0 < c0.length := by rw [hcl0, hb1]; exact hb2
                      have hz : a.add 0 = a := by simp [Addr.add]
                      have := hcg0 0 c0[0] (by simp [hlt])
                      rw [hz] at this
                      unfold World.cell? at this
                      split at this
                      · split at this
                        · cases this
                        · rename_i hs; simpa using hs
                      · cases this
                    refine ⟨a.block, a.off, c, by obtain ⟨ab, ao, as⟩ := a; simp only at hspot; rw [hspot], r1, fun j v hj => ?_⟩
                    have hcell := hcg j v hj
                    have e1 : (a.add (i * P.cellsOf e)).add j = ⟨a.block, a.off + i * ye.width + j, none⟩ := by
                      obtain ⟨ab, ao, as⟩ := a
                      simp only at hspot
                      subst hspot
                      simp only [Addr.add, hb1]
                      by_cases h0 : i * ye.width = 0
                      · by_cases h1 : j = 0 <;> simp [h0, h1]
                      · by_cases h1 : j = 0 <;> simp [h0, h1]
                    rw [e1] at hcell
                    refine ⟨?_, hcell⟩
                    unfold World.cell? at hcell
                    split at hcell
                    · rename_i hh
                      rcases Nat.lt_or_ge a.block w.heap.size with h' | h'
                      · exact h'
                      · rw [Array.getElem?_eq_none h'] at hh; cases hh
                    · cases hcell
                  · obtain ⟨i, hi, rfl⟩ := List.getElem_of_mem hx
                    obtain ⟨c, r1, w1, hc⟩ := hxs i _ (List.getElem?_eq_getElem hi)
                    exact w1
              · cases hx
          · cases h
        · cases h
      case struct fs =>
        split at h
        · rename_i y n hy
          split at h
          · rename_i hb
            cases h
            have hb1 := beq_true hb
            split at hx <;> try (simp_all; done)
            rename_i cs _ _ fs' heq
            simp only [Option.some.injEq, TypeDesc.struct.injEq] at heq
            subst heq
            split at hx
            · rename_i hcl
              cases hfx : (fs.toList.mapM fun f => DataW.trod en P w 0 spare held fuel f.type ((cs.drop f.offset).take (P.cellsOf f.type))) with
              | none => rw [hfx] at hx; simp at hx
              | some xs =>
                obtain ⟨v, r1, w1⟩ := fields_rep (fun fuel t ty cs x => trod_rep d fuel t ty cs x) hy hfx (by rw [hcl, hb1]) (Nat.zero_le _)
                exact ⟨v, by simpa using r1, w1⟩
            · cases hx
          · cases h
        · cases h
end Go.Proofs.Vm
