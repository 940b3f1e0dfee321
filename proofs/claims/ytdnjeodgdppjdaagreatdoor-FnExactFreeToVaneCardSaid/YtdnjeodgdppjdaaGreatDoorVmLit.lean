/- Literals of structs and slices (own work). -/
import Derived.Test.YtdnjeodgdppjdaaGreatDoorVmOpF
namespace Go.Proofs.Vm
open Go Go.RowKit
set_option linter.unusedVariables false
set_option linter.unusedSimpArgs false

variable {cx : Ctx} {fr : Fr} {S S' : CellSet} {κ : Nat → Option CO} {st : St} {a : Act} {w w' : World} {R : Type}

/-- a value that is one cell -/
def single : Value → Prop
  | .agg _ => False
  | .tuple _ => False
  | _ => True

theorem one_single {E : Env} {v : V} {c : Value} (h : v.one = true) (hv : vrep E v c) : single c := by
  cases v with
  | undef => simp [V.one] at h
  | val u => simp only [vrep] at hv; subst hv; cases c <;> simp [V.one] at h <;> simp [single]
  | sl e xs => simp only [vrep] at hv; obtain ⟨ad, cap, hc, _⟩ := hv; simp at hc; subst hc; simp [single]
  | os id => simp only [vrep] at hv; obtain ⟨_, _, _, _, _, rfl⟩ := hv; simp [single]
  | vref id off => simp only [vrep] at hv; obtain ⟨_, _, rfl⟩ := hv; simp [single]
  | pc cs off => simp only [vrep] at hv; obtain ⟨_, _, rfl, _⟩ := hv; simp [single]
  | pa e xs => simp only [vrep] at hv; obtain ⟨_, _, rfl, _⟩ := hv; simp [single]
  | pe id i off => simp only [vrep] at hv; obtain ⟨_, _, _, _, _, _, rfl⟩ := hv; simp [single]
  | fn f caps => simp only [vrep] at hv; obtain ⟨_, rfl, _⟩ := hv; simp [single]
  | agg cs => simp [V.one] at h
  | tup vs => simp [V.one] at h
  | mb cs => simp [V.one] at h

theorem single_cells {c : Value} (h : single c) : c.cells = #[c] := by cases c <;> simp [single] at h <;> rfl

theorem one_cells {v : V} (h : v.one = true) : v.cells = [v] := by cases v <;> simp [V.one] at h <;> rfl

theorem okc_cells {E : Env} {v : V} {c : Value} (h : v.okc = true) (hv : vrep E v c) : vrepL E v.cells c.cells.toList := by
  by_cases ha : ∃ cs, v = .agg cs
  · obtain ⟨cs, rfl⟩ := ha
    exact vrep_agg hv
  · have h1 : v.one = true := by
      cases v <;> first | exact h | exact absurd ⟨_, rfl⟩ ha
    rw [one_cells h1, single_cells (one_single h1 hv)]
    simp only [vrepL]
    exact ⟨c, [], rfl, hv, rfl⟩

theorem partsR_of {f : Operand → V} {g : Operand → Value} {E : Env} (hfg : ∀ x, vrep E (f x) (g x)) : ∀ (l : List (Nat × Operand)), okParts (l.map fun p => (p.1, f p.2)) = true →
    PartsR E (l.map fun p => (p.1, f p.2)) (l.map fun p => (p.1, g p.2))
  | [], _ => .nil
  | p :: l, h => by
    simp only [List.map_cons, okParts] at h ⊢
    split at h
    · rename_i ho
      exact .cons (okc_cells ho (hfg _)) (partsR_of hfg l h)
    · cases h

theorem zeroCells_run {P : Program} {t : TypeId} {cs : List V} (h : zeroCellsV P t = some cs) :
    ∃ z, (∀ w, (zeroValue t).run P w = .ok z w) ∧ (∃ i, P.info? t = some i ∧ i.zero = some z) ∧ cs = z.cells.toList.map .val := by
  unfold zeroCellsV at h
  split at h
  · rename_i i hi
    split at h
    · rename_i z hz
      cases h
      exact ⟨z, fun w => by simp [zeroValue, typeInfo, hi, hz], ⟨i, hi, hz⟩, rfl⟩
    · cases h
  · cases h

theorem places_run {P : Program} {w : World} : ∀ {fs : List Field} {ps : List (Nat × Nat)}, fieldPlaces P fs = some ps →
    (fs.mapM (m := Sem) fun f => Prod.mk f.offset <$> sizeOf f.type).run P w = .ok ps w
  | [], ps, h => by simp only [fieldPlaces] at h; cases h; simp
  | f :: fs, ps, h => by
    simp only [fieldPlaces] at h
    split at h
    · rename_i n r hn hr
      cases h
      have := places_run (w := w) hr
      simp [List.mapM_cons, run_sizeOf hn, this]
    · cases h

theorem build_sound {o : Oper} {t : TypeId} {parts : Array (Nat × Operand)} {v : V} (ho : o.op = .build t parts)
    (h : buildV cx.P t (parts.toList.map fun p => (p.1, ev cx st p.2)) = some v) : FSound cx o st v := by
  unfold buildV at h
  split at h
  · rename_i fs hok hu
    split at h
    · rename_i z ps hz hp
      split at h
      · rename_i cs hf
        cases h
        refine FSound.of_run fun fr S κ a w hs => ?_
        obtain ⟨zv, hz1, _, rfl⟩ := zeroCells_run hz
        have hparts := partsR_of (E := fr.env S w κ) (f := ev cx st) (g := a.eval) (fun x => hs.ev x) parts.toList hok
        obtain ⟨vs', h1, h2⟩ := fillV_run (E := fr.env S w κ) (vs := zv.cells) hf (vrepL_map_val _) hparts
        refine ⟨.agg vs', ?_, by simp only [vrep]; exact ⟨vs', rfl, h2⟩⟩
        have hm : (fs.mapM (m := Sem) fun f => Prod.mk f.offset <$> sizeOf f.type).run cx.P w = .ok ps.toArray w := by
          have := places_run (w := w) hp
          have e : fs = fs.toList.toArray := rfl
          rw [e, List.mapM_toArray]
          simp only [Sem.run_map, this, Result.andThen_ok]
        simp only [execOp, ho, Instr.build]
        simp [hz1, run_underlying hu, hm, h1]
      · cases h
    · cases h
  · cases h

/-- all places of a row are laid, one after the other -/
theorem fill_seq {E : Env} {size : Nat} : ∀ {parts : List (Nat × V)} {ps : List (Nat × Value)} {n : Nat} {vs : Array Value},
    seqParts n parts = true → PartsR E parts ps → (∀ p ∈ parts, p.2.cells.length = size) → vs.size = (n + parts.length) * size →
    ∃ vs' : Array Value, Instr.fill (fun i => some (i * size, size)) vs ps = some vs' ∧ vs'.toList = vs.toList.take (n * size) ++ (ps.map fun p => p.2.cells.toList).flatten
  | [], _, n, vs, _, .nil, _, hv => ⟨vs, rfl, by simp; rw [List.take_of_length_le (by simp at hv ⊢; omega)]⟩
  | (i, v) :: parts, (_, u) :: qs, n, vs, h, .cons h2 ht, hl, hv => by
    simp only [seqParts] at h
    split at h
    · rename_i hi
      have hi := beq_true hi
      subst hi
      have hsz : u.cells.size = size := by
        have := vrepL_len h2
        rw [hl (i, v) List.mem_cons_self] at this
        simpa using this
      have hle : i * size + size ≤ vs.size := by
        rw [hv]
        simp only [List.length_cons]
        have : (i + 1) * size ≤ (i + (parts.length + 1)) * size := Nat.mul_le_mul_right _ (by omega)
        rw [Nat.succ_mul] at this
        exact this
      obtain ⟨vs1, e1, e2⟩ := fill_step (place := fun i => some (i * size, size)) (i := i) (rest := qs) rfl hsz hle
      have hv1 : vs1.size = (i + 1 + parts.length) * size := by
        rw [← Array.length_toList, e2]
        simp [hsz]
        rw [hv] at hle ⊢
        simp only [List.length_cons] at hle ⊢
        rw [show i + 1 + parts.length = i + (parts.length + 1) by omega]
        omega
      obtain ⟨vs2, e3, e4⟩ := fill_seq (n := i + 1) h ht (fun p hp => hl p (List.mem_cons_of_mem _ hp)) hv1
      refine ⟨vs2, by rw [e1, e3], ?_⟩
      rw [e4, e2]
      have hA : (List.take (i * size) vs.toList).length = i * size := by simp; omega
      have hB : u.cells.toList.length = size := by simpa using hsz
      rw [show (i + 1) * size = (List.take (i * size) vs.toList ++ u.cells.toList).length by rw [List.length_append, hA, hB, Nat.succ_mul]]
      rw [List.take_left]
      simp
    · cases h

theorem unflats_rep {E : Env} {ty : Ty} : ∀ {parts : List (Nat × V)} {ps : List (Nat × Value)} {xs : List ty.den}, unflats ty parts = some xs → PartsR E parts ps →
    (ps.map fun p => p.2.cells.toList).length = xs.length ∧ ∀ (i : Nat) (x : ty.den), xs[i]? = some x → ∃ cs, (ps.map fun p => p.2.cells.toList)[i]? = some cs ∧ rep E.S E.w ty x cs
  | [], _, xs, h, .nil => by
    simp only [unflats] at h; cases h
    exact ⟨rfl, fun i x hx => by simp at hx⟩
  | (_, v) :: parts, (_, u) :: qs, xs, h, .cons h2 ht => by
    simp only [unflats] at h
    split at h
    · rename_i x xs' h3 h4
      cases h
      obtain ⟨e1, e2⟩ := unflats_rep h4 ht
      refine ⟨by simpa using e1, fun i y hy => ?_⟩
      cases i with
      | zero =>
        simp at hy; subst hy
        exact ⟨u.cells.toList, by simp, unflatAll_rep h3 h2⟩
      | succ i =>
        simp at hy
        obtain ⟨cs, h5, h6⟩ := e2 i y hy
        exact ⟨cs, by simpa using h5, h6⟩
    · cases h

theorem flatten_piece {α : Type} {size : Nat} : ∀ {ls : List (List α)} {i : Nat} {l : List α}, (∀ x ∈ ls, x.length = size) → ls[i]? = some l → (ls.flatten.drop (i * size)).take size = l
  | [], i, l, h, hi => by simp at hi
  | x :: ls, 0, l, h, hi => by
    simp at hi; subst hi
    have := h x List.mem_cons_self
    simp [List.take_append_of_le_length, this, List.take_of_length_le]
  | x :: ls, i + 1, l, h, hi => by
    simp at hi
    have hx := h x List.mem_cons_self
    rw [List.flatten_cons, Nat.succ_mul, Nat.add_comm, ← List.drop_drop, List.drop_left' hx]
    exact flatten_piece (fun y hy => h y (List.mem_cons_of_mem _ hy)) hi

/-- a new row of cells: a world that only gains -/
theorem Quiet.alloc (S : CellSet) (w : World) (o : Obj) (n : Nat) : Quiet S (fun b i => S b i ∨ (b = w.heap.size ∧ i < n)) w (w.alloc o) where
  gain := fun b o h => .inl h
  new := fun b o h => h.imp id fun ⟨h1, h2⟩ => ⟨by omega, by rw [h1]; simp⟩
  os := rfl
  tape := rfl
  output := rfl
  size := by simp
  block := fun b hb => Below.heap_alloc _ _ _ hb

theorem thawA_rep (h : SimE cx fr S κ st a w) {v : V} {c : Value} (hv : vrep (fr.env S w κ) v c) : vrep (fr.env S w κ) (st.thawA v) c := by
  unfold St.thawA
  split
  · simp only [vrep] at hv ⊢
    obtain ⟨vs, hc, hr⟩ := hv
    exact ⟨vs, hc, thawL_rep h hr⟩
  · exact thaw_rep h hv

theorem unflatAll_len {t : Ty} {cs : List V} {x : t.den} (h : unflatAll t cs = some x) : cs.length = t.width := by
  have key : ∀ {t : Ty} {cs : List V} {x : t.den} {r : List V}, unflat t cs = some (x, r) → cs.length = t.width + r.length := by
    intro t
    induction t with
    | unit => intro cs x r h; simp only [unflat] at h; cases h; simp [Ty.width]
    | pair a b iha ihb =>
      intro cs x r h
      simp only [unflat] at h
      split at h
      · rename_i x1 cs1 h1
        split at h
        · rename_i y cs2 h2
          cases h
          rw [iha h1, ihb h2]; simp [Ty.width]; omega
        · cases h
      · cases h
    | int k => intro cs x r h; simp only [unflat] at h; split at h <;> try cases h
               split at h <;> cases h
               simp [Ty.width]; omega
    | bool => intro cs x r h; simp only [unflat] at h; split at h <;> try cases h
              split at h <;> cases h
              simp [Ty.width]; omega
    | str => intro cs x r h; simp only [unflat] at h; split at h <;> try cases h
             split at h <;> cases h
             simp [Ty.width]; omega
    | sl e ih => intro cs x r h; simp only [unflat] at h; split at h <;> try cases h
                 split at h <;> cases h
                 simp [Ty.width]; omega
  unfold unflatAll at h
  split at h
  · rename_i y hu
    simpa using key hu
  · cases h

theorem unflats_len {ty : Ty} : ∀ {parts : List (Nat × V)} {xs : List ty.den}, unflats ty parts = some xs → xs.length = parts.length ∧ ∀ p ∈ parts, p.2.cells.length = ty.width
  | [], xs, h => by simp only [unflats] at h; cases h; simp
  | (i, v) :: r, xs, h => by
    simp only [unflats] at h
    split at h
    · rename_i x xs' h1 h2
      cases h
      obtain ⟨e1, e2⟩ := unflats_len h2
      refine ⟨by simp [e1], fun p hp => ?_⟩
      rcases List.mem_cons.mp hp with rfl | hp
      · exact unflatAll_len h1
      · exact e2 p hp
    · cases h

theorem partsR_len {E : Env} : ∀ {parts : List (Nat × V)} {ps : List (Nat × Value)}, PartsR E parts ps → ∀ p ∈ ps, ∃ q ∈ parts, p.2.cells.toList.length = q.2.cells.length
  | _, _, .nil, p, hp => by simp at hp
  | _, _, .cons (i := i) (v := v) (u := u) h t, p, hp => by
    rcases List.mem_cons.mp hp with rfl | hp
    · exact ⟨(i, v), List.mem_cons_self, vrepL_len h⟩
    · obtain ⟨q, hq, e⟩ := partsR_len t p hp
      exact ⟨q, List.mem_cons_of_mem _ hq, e⟩

theorem buildSlice_sound {o : Oper} {t : TypeId} {len : Nat} {parts : Array (Nat × Operand)} {ty : Ty} {xs : List ty.den} (ho : o.op = .buildSlice t len parts)
    (h : litSlice cx.P t len (parts.toList.map fun p => (p.1, st.thawA (ev cx st p.2))) = some ⟨ty, xs⟩) : FSound cx o st (.sl ty xs) := by
  unfold litSlice at h
  split at h
  · rename_i e hu
    split at h
    · rename_i ty' n hty hn
      split at h
      · rename_i hw
        have hw := beq_true hw
        split at h
        · rename_i hsq
          simp only [Bool.and_eq_true] at hsq
          split at h
          · rename_i hl
            simp only [Bool.and_eq_true] at hl
            have hl1 := beq_true hl.1.1
            have hl2 : len * n ≤ 16777216 := Nat.le_of_ble_eq_true hl.1.2
            obtain ⟨z, hz⟩ := Option.isSome_iff_exists.mp hl.2
            split at h
            · rename_i xs' hx
              cases h
              intro fr S κ a w hs K Q hK
              obtain ⟨zv, hz1, _, _⟩ := zeroCells_run hz
              have hparts := partsR_of (E := fr.env S w κ) (f := fun x => st.thawA (ev cx st x)) (g := a.eval) (fun x => thawA_rep hs (hs.ev x)) parts.toList hsq.2
              obtain ⟨ul1, ul2⟩ := unflats_len hx
              obtain ⟨ur1, ur2⟩ := unflats_rep hx hparts
              have hsize : ∀ zs : Array Value, ((Array.range (len * n)).map (zs[· % zs.size]!)).size = (0 + (parts.toList.map fun p => (p.1, st.thawA (ev cx st p.2))).length) * ty.width := by
                intro zs
                rw [hl1, ← hw]; simp
              have hfill : ∀ zs : Array Value, ∃ vs' : Array Value, Instr.fill (fun i => some (i * n, n)) ((Array.range (len * n)).map (zs[· % zs.size]!)) (parts.map fun x => (x.1, a.eval x.2)).toList = some vs' ∧
                  vs'.toList = (((parts.toList.map fun p => (p.1, a.eval p.2)).map fun p => p.2.cells.toList)).flatten := by
                intro zs
                obtain ⟨vs', e1, e2⟩ := fill_seq (size := ty.width) (n := 0) hsq.1 hparts ul2 (hsize zs)
                rw [hw]
                refine ⟨vs', by rw [Array.toList_map]; rw [hw] at e1; exact e1, by rw [e2]; simp⟩
              obtain ⟨vs', e1, e2⟩ := hfill (if len * n = 0 then #[] else zv.cells)
              have hcells : ∀ x ∈ ((parts.toList.map fun p => (p.1, a.eval p.2)).map fun p => p.2.cells.toList), x.length = ty.width := by
                intro x hx'
                obtain ⟨p, hp, rfl⟩ := List.mem_map.mp hx'
                obtain ⟨q, hq, e⟩ := partsR_len hparts p hp
                rw [e, ul2 q hq]
              have hrun : (execOp a.eval o).run cx.P w = .ok (.value (.slice (some ⟨w.heap.size, 0, none⟩) len len)) (w.alloc (.cells vs' e)) := by
                by_cases h0 : len * n = 0
                · rw [if_pos h0] at e1
                  simp only [execOp, ho, Instr.buildSlice]
                  have : ¬ (2 ^ 24 < len * n) := by omega
                  simp [run_underlying hu, run_sizeOf hn, this, h0, newRow]
                  simp [h0] at e1
                  simp [e1]
                · rw [if_neg h0] at e1
                  simp only [execOp, ho, Instr.buildSlice]
                  have : ¬ (2 ^ 24 < len * n) := by omega
                  simp [run_underlying hu, run_sizeOf hn, this, h0, newRow, hz1]
                  simp at e1
                  simp [e1]
              unfold Oper.wp
              rw [hrun]
              refine hK _ (fun b i => S b i ∨ (b = w.heap.size ∧ i < len * n)) _ (Quiet.alloc S w _ _) ?_
              simp only [vrep]
              have hxl : xs.length = len := by rw [ul1, hl1]
              refine ⟨_, len, by rw [hxl], by rw [hxl]; exact Nat.le_refl _, fun i x hi => ?_⟩
              obtain ⟨cs, h5, h6⟩ := ur2 i x hi
              have hilt : i < len := by
                have hi' : xs[i]? = some x := hi
                rcases Nat.lt_or_ge i xs.length with h' | h'
                · omega
                · rw [List.getElem?_eq_none h'] at hi'; cases hi'
              refine ⟨w.heap.size, 0, cs, rfl, rep_mono (fun b o h => .inl h) (fun b o h => cell_of_block (Below.heap_alloc _ _ _ (hs.sz _ _ h))) h6, fun j v hj => ?_⟩
              have hp := flatten_piece hcells h5
              have hjw : j < ty.width := by
                have := hcells cs (List.mem_of_getElem? h5)
                rcases Nat.lt_or_ge j cs.length with h' | h'
                · omega
                · rw [List.getElem?_eq_none h'] at hj; cases hj
              refine ⟨.inr ⟨rfl, ?_⟩, ?_⟩
              · rw [hw]
                have : (i + 1) * ty.width ≤ len * ty.width := Nat.mul_le_mul_right _ hilt
                rw [Nat.succ_mul] at this
                omega
              · show (w.alloc (.cells vs' e)).cell? _ = _
                rw [World.cell?_alloc_new]
                rw [← hp, ← e2] at hj
                rw [List.getElem?_take_of_lt hjw, List.getElem?_drop] at hj
                simpa using hj
            · cases h
          · cases h
        · cases h
      · cases h
    · cases h
  · cases h

end Go.Proofs.Vm
