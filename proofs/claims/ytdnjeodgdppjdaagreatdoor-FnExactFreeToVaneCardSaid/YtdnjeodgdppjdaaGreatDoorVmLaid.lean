/- A datum of literals tells the cells (own work). -/
import Derived.Test.YtdnjeodgdppjdaaGreatDoorVmTop
namespace Go.Proofs.Vm
open Go Go.RowKit
set_option linter.unusedVariables false
set_option linter.unusedSimpArgs false

def litV : Lit → Option Value
  | .int k n => some (.int k n)
  | .bool b => some (.bool b)
  | .string s => some (.string ⟨s.toArray⟩)
  | _ => none

def litsL {H : Type} (f : DataW H → Option (List Value)) : List (DataW H) → Option (List Value)
  | [] => some []
  | d :: ds => match f d, litsL f ds with
    | some a, some b => some (a ++ b)
    | _, _ => none

def litCells {H : Type} : Nat → DataW H → Option (List Value)
  | 0, _ => none
  | D + 1, .lit l => match litV l with | some v => some [v] | none => none
  | D + 1, .agg ds => litsL (litCells D) ds
  | _ + 1, _ => none

def pkFields (P : Program) (f : TypeId → Bool) : List Field → Nat → Option Nat
  | [], n => some n
  | fd :: fs, n => match f fd.type && Nat.beq fd.offset n with
    | true => pkFields P f fs (n + P.cellsOf fd.type)
    | false => none

/-- laid out without gaps -/
def pk (P : Program) : Nat → TypeId → Bool
  | 0, _ => false
  | d + 1, t => match P.underlying t with
    | some (.int _) => Nat.beq (P.cellsOf t) 1
    | some .bool => Nat.beq (P.cellsOf t) 1
    | some .string => Nat.beq (P.cellsOf t) 1
    | some (.struct fs) => match pkFields P (pk P d) fs.toList 0 with
      | some n => Nat.beq n (P.cellsOf t)
      | none => false
    | some (.array n e) => pk P d e && Nat.beq (n * P.cellsOf e) (P.cellsOf t)
    | _ => false

variable {H : Type} {en : TypeId × Value → H} {P : Program} {w : World} {base : Nat} {spare : Nat → Bool} {held : Bool}

theorem litsL_get {f : DataW H → Option (List Value)} : ∀ {ds : List (DataW H)} {r : List Value}, litsL f ds = some r → ∃ rs : List (List Value), r = rs.flatten ∧ rs.length = ds.length ∧ ∀ (i : Nat) (d : DataW H), ds[i]? = some d → ∃ q, f d = some q ∧ rs[i]? = some q
  | [], r, h => by simp [litsL] at h; subst h; exact ⟨[], rfl, rfl, fun i d hd => by simp at hd⟩
  | d :: ds, r, h => by
    simp only [litsL] at h
    split at h
    · rename_i a b h1 h2
      cases h
      obtain ⟨rs, e1, e2, e3⟩ := litsL_get h2
      refine ⟨a :: rs, by simp [e1], by simp [e2], fun i d' hd => ?_⟩
      cases i with
      | zero => simp at hd; subst hd; exact ⟨a, h1, by simp⟩
      | succ i => simp at hd; simpa using e3 i d' hd
    · cases h

theorem pk_fields {D : Nat} (ih : ∀ (fuel : Nat) (t : TypeId) (cs vs : List Value) x, pk P D t = true → DataW.trod en P w base spare held fuel t cs = some x → litCells D x.1 = some vs → cs = vs ∧ cs.length = P.cellsOf t) {fuel : Nat} {cs : List Value} :
    ∀ {fs : List Field} {n m : Nat} {xs : List (DataW H × List MemPlace)} {vs : List Value}, pkFields P (pk P D) fs n = some m → (fs.mapM fun f => DataW.trod en P w base spare held fuel f.type ((cs.drop f.offset).take (P.cellsOf f.type))) = some xs → litsL (litCells D) (xs.map (·.1)) = some vs → cs.length = m → n ≤ m →
      cs.drop n = vs
  | [], n, m, xs, vs, h, hx, hv, hl, hn => by
    simp only [pkFields] at h; cases h
    simp at hx; subst hx
    simp [litsL] at hv; subst hv
    exact List.drop_eq_nil_of_le (by omega)
  | f :: fs, n, m, xs, vs, h, hx, hv, hl, hn => by
    simp only [pkFields] at h
    split at h
    · rename_i hb
      simp only [Bool.and_eq_true] at hb
      have hb2 := beq_true hb.2
      obtain ⟨x0, xs', hx0, hxs, rfl⟩ := mapM_cons_some hx
      simp only [List.map_cons, litsL] at hv
      split at hv
      · rename_i a b h1 h2
        cases hv
        obtain ⟨e1, e2⟩ := ih fuel f.type _ _ _ hb.1 hx0 h1
        simp only [List.length_take, List.length_drop] at e2
        by_cases hz : P.cellsOf f.type = 0
        · have := pk_fields ih h hxs h2 hl (by omega)
          rw [hz] at this e1
          simp at e1
          rw [e1]
          simpa using this
        · have := pk_fields ih h hxs h2 hl (by omega)
          rw [← e1, ← this, hb2, ← List.drop_drop]
          exact (List.take_append_drop _ _).symm
      · cases hv
    · cases h
theorem chunks {α : Type} (c : Nat) : ∀ (n : Nat) (l : List α), l.length = n * c → ((List.range n).map fun i => (l.drop (i * c)).take c).flatten = l
  | 0, l, h => by
    have : l = [] := List.length_eq_zero_iff.mp (by simpa using h)
    subst this; simp
  | n + 1, l, h => by
    rw [List.range_succ_eq_map]
    simp only [List.map_cons, List.flatten_cons, List.map_map]
    have h1 := chunks c n (l.drop c) (by rw [List.length_drop, h, Nat.succ_mul]; omega)
    have e : ((List.range n).map ((fun i => (l.drop (i * c)).take c) ∘ Nat.succ)) = (List.range n).map fun i => ((l.drop c).drop (i * c)).take c := by
      apply List.map_congr_left
      intro i _
      simp only [Function.comp, List.drop_drop]
      rw [Nat.succ_mul, Nat.add_comm]
    rw [e, h1]
    simp

theorem trod_lits : ∀ (D fuel : Nat) (t : TypeId) (cs vs : List Value) x, pk P D t = true → DataW.trod en P w base spare held fuel t cs = some x → litCells D x.1 = some vs → cs = vs ∧ cs.length = P.cellsOf t
  | 0, fuel, t, cs, vs, x, h, hx, hv => by simp [pk] at h
  | D + 1, 0, t, cs, vs, x, h, hx, hv => by simp [DataW.trod] at hx
  | D + 1, fuel + 1, t, cs, vs, x, h, hx, hv => by
    unfold pk at h
    unfold DataW.trod at hx
    cases hu : P.underlying t with
    | none => rw [hu] at h; cases h
    | some u =>
      rw [hu] at h hx
      cases u <;> simp only at h <;> try (cases h; done)
      case bool =>
        have h := beq_true h
        split at hx <;> simp_all
        subst hx
        simp [litCells, litV] at hv
        exact hv
      case int k =>
        have h := beq_true h
        split at hx <;> simp_all
        obtain ⟨⟨rfl, _⟩, rfl⟩ := hx
        simp [litCells, litV] at hv
        exact hv
      case string =>
        have h := beq_true h
        split at hx <;> simp_all
        obtain ⟨_, rfl⟩ := hx
        simp [litCells, litV] at hv
        exact hv
      case struct fs =>
        split at h
        · rename_i n hn
          have h := beq_true h
          split at hx <;> try (simp_all; done)
          rename_i cs _ _ fs' heq
          simp only [Option.some.injEq, TypeDesc.struct.injEq] at heq
          subst heq
          split at hx
          · rename_i hcl
            cases hfx : (fs.toList.mapM fun f => DataW.trod en P w base spare held fuel f.type ((cs.drop f.offset).take (P.cellsOf f.type))) with
            | none => rw [hfx] at hx; simp at hx
            | some xs =>
              rw [hfx] at hx
              simp at hx
              subst hx
              have := pk_fields (fun fuel t cs vs x => trod_lits D fuel t cs vs x) hn hfx hv (by rw [hcl, h]) (Nat.zero_le _)
              exact ⟨by simpa using this, hcl⟩
          · cases hx
        · cases h
      case array n e =>
        simp only [Bool.and_eq_true] at h
        have h2 := beq_true h.2
        split at hx <;> try (simp_all; done)
        rename_i cs _ _ n' e' heq
        simp only [Option.some.injEq, TypeDesc.array.injEq] at heq
        obtain ⟨rfl, rfl⟩ := heq
        split at hx
        · rename_i hcl
          cases hfx : ((List.range n).mapM fun i => DataW.trod en P w base spare held fuel e ((cs.drop (i * P.cellsOf e)).take (P.cellsOf e))) with
          | none => rw [hfx] at hx; simp at hx
          | some xs =>
            rw [hfx] at hx
            simp at hx
            subst hx
            obtain ⟨m1, m2⟩ := mapM_get hfx
            obtain ⟨rs, e1, e2, e3⟩ := litsL_get hv
            refine ⟨?_, hcl⟩
            rw [e1, ← chunks (P.cellsOf e) n cs (by rw [hcl, h2])]
            congr 1
            apply List.ext_getElem?
            intro i
            rcases Nat.lt_or_ge i n with hi | hi
            · obtain ⟨y, hy1, hy2⟩ := m2 i i (by simp [hi])
              obtain ⟨q, hq1, hq2⟩ := e3 i y.1 (by simp [hy2])
              obtain ⟨e4, _⟩ := trod_lits D fuel e _ _ _ h.1 hy1 hq1
              rw [hq2, ← e4]
              simp [hi]
            · rw [List.getElem?_eq_none (by simpa using hi), List.getElem?_eq_none]
              rw [e2]; simp [m1]; simpa using hi
        · cases hx
/-- the cells of a datum without slices -/
def raw : (t : Ty) → t.den → List Value
  | .int k, n => [.int k n]
  | .bool, b => [.bool b]
  | .str, s => [.string s]
  | .unit, _ => []
  | .pair a b, x => raw a x.1 ++ raw b x.2
  | .sl _, _ => []

def flatTy : Ty → Bool
  | .pair a b => flatTy a && flatTy b
  | .sl _ => false
  | _ => true

theorem raw_rep {S : CellSet} {w : World} : ∀ {t : Ty} {x : t.den}, flatTy t = true → rep S w t x (raw t x)
  | .int k, x, _ => rfl
  | .bool, x, _ => rfl
  | .str, x, _ => rfl
  | .unit, x, _ => rfl
  | .pair a b, x, h => by
    simp only [flatTy, Bool.and_eq_true] at h
    exact ⟨_, _, rfl, raw_rep h.1, raw_rep h.2⟩
  | .sl e, x, h => by simp [flatTy] at h

/-- the cells of a laid variable -/
theorem laid_cells {P : Program} {W : World} {name : String} {d : DataW Unit} {g : Nat} {t : TypeId} {D : Nat} {vs : List Value} (h : laidMet P [(name, d)] W) (hg : P.globalNamed name = some g)
    (ht : (P.globals[g]?).map (·.type) = some t) (hp : pk P D t = true) (hl : litCells D d = some vs) : ∀ (k : Nat) (v : Value), vs[k]? = some v → W.cell? ⟨g, k, none⟩ = some v := by
  obtain ⟨ps, ⟨g', t', cs, fuel, p, q, e1, e2, e3, e4, _⟩, _⟩ := h
  have eg := Option.some.inj (e1.symm.trans hg)
  subst eg
  have et := Option.some.inj (e2.symm.trans ht)
  subst et
  obtain ⟨e5, _⟩ := trod_lits D fuel _ _ _ _ hp e4 hl
  intro k v hk
  rw [World.var?_cell hg e3 k, ← hk, ← e5]
  simp
/-- a laid array as a global of the executor -/
theorem pa_rep {E : Env} {e : Ty} {xs : List e.den} {g : Nat} (hf : flatTy e = true) (hB : ∀ b o, b < E.w.heap.size → E.B b o)
    (hc : ∀ (k : Nat) (v : Value), ((xs.map (raw e)).flatten)[k]? = some v → E.w.cell? ⟨g, k, none⟩ = some v) : vrep E (.pa e xs) (.pointer (some ⟨g, 0, none⟩)) := by
  simp only [vrep]
  refine ⟨g, 0, rfl, fun i x hx => ⟨raw e x, raw_rep hf, fun j v hj => ?_⟩⟩
  have hlen : ∀ y ∈ xs.map (raw e), y.length = e.width := by
    intro y hy
    obtain ⟨z, _, rfl⟩ := List.mem_map.mp hy
    exact rep_len (raw_rep (S := E.S) (w := E.w) hf)
  have hp := flatten_piece (i := i) (l := raw e x) hlen (by simp [hx])
  have hjw : j < e.width := by
    have := rep_len (raw_rep (S := E.S) (w := E.w) (x := x) hf)
    rcases Nat.lt_or_ge j (raw e x).length with h' | h'
    · omega
    · rw [List.getElem?_eq_none h'] at hj; cases hj
  have hcell := hc (i * e.width + j) v (by
    rw [← hp] at hj
    rw [List.getElem?_take, if_pos hjw, List.getElem?_drop] at hj
    exact hj)
  rw [Nat.zero_add]
  refine ⟨hB _ _ ?_, hcell⟩
  unfold World.cell? at hcell
  split at hcell
  · rename_i hh
    rcases Nat.lt_or_ge g E.w.heap.size with h' | h'
    · exact h'
    · rw [Array.getElem?_eq_none h'] at hh; cases hh
  · cases hcell
end Go.Proofs.Vm
