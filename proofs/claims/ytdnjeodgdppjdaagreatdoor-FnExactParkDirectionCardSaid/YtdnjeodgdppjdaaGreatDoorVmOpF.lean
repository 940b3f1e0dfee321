/- Operations that only set their slot: each is sound (own work). -/
import Derived.Test.YtdnjeodgdppjdaaGreatDoorVmSim
namespace Go.Proofs.Vm
open Go
set_option linter.unusedVariables false
set_option linter.unusedSimpArgs false

variable {cx : Ctx} {fr : Fr} {S S' : CellSet} {κ : Nat → Option CO} {st : St} {a : Act} {w w' : World} {R : Type}

theorem beq_true {n m : Nat} (h : Nat.beq n m = true) : n = m := Nat.eq_of_beq_eq_true h

theorem findO_mem : ∀ {o : List (Nat × VObj)} {i : Nat} {x : VObj}, findO o i = some x → (i, x) ∈ o
  | [], i, x, h => by simp [findO] at h
  | (j, y) :: o, i, x, h => by
    simp only [findO] at h
    split at h
    · rename_i hb
      cases h; rw [beq_true hb]; exact List.mem_cons_self
    · exact List.mem_cons_of_mem _ (findO_mem h)

/-! ### Types -/
theorem run_isAgg {P : Program} {t : TypeId} {w : World} {b : Bool} (h : isAggT P t = some b) : (isAgg t).run P w = .ok b w := by
  unfold isAggT at h
  unfold isAgg
  cases hu : P.underlying t with
  | none => rw [hu] at h; cases h
  | some d =>
    rw [hu] at h
    simp only [Sem.run_bind, run_underlying hu, Result.andThen_ok]
    cases d <;> simp at h <;> subst h <;> rfl

theorem run_sizeOf {P : Program} {t : TypeId} {w : World} {n : Nat} (h : sizeT P t = some n) : (sizeOf t).run P w = .ok n w := by
  unfold sizeT at h
  split at h
  · rename_i i hi
    cases h
    simp [sizeOf, typeInfo, hi]
  · cases h

theorem underlying_of_size {P : Program} {t : TypeId} {n : Nat} (h : sizeT P t = some n) : ∃ i, P.info? t = some i ∧ i.size = n := by
  unfold sizeT at h
  split at h
  · rename_i i hi
    cases h
    exact ⟨i, hi, rfl⟩
  · cases h

/-- that a type has an underlying one is asked of the executor too -/
theorem partV_load {P : Program} {E : Env} {t : TypeId} {cs : List V} {b o off : Nat} {v : V}
    (hc : ∀ j x, cs[j]? = some x → ∃ c, E.w.cell? ⟨b, o + j, none⟩ = some c ∧ vrep E x c) (h : partV P t cs off = some v) :
    ∃ c, (loadVar t ⟨b, o + off, none⟩).run P E.w = .ok c E.w ∧ vrep E v c := by
  unfold partV at h
  split at h
  · rename_i hagg
    split at h
    · rename_i n hn
      split at h
      · rename_i hlen
        cases h
        have hlen := beq_true hlen
        have hget : ∀ (m : Nat) (l : List V) (o : Nat), (∀ j x, l[j]? = some x → ∃ c, E.w.cell? ⟨b, o + j, none⟩ = some c ∧ vrep E x c) →
            ∃ vs : List Value, vs.length = l.length ∧ (∀ j v, vs[j]? = some v → E.w.cell? ⟨b, o + j, none⟩ = some v) ∧ vrepL E l vs := by
          intro _ l
          induction l with
          | nil => intro o _; exact ⟨[], rfl, fun j v hv => by simp at hv, by simp [vrepL]⟩
          | cons x l ih =>
            intro o hl
            obtain ⟨c, h1, h2⟩ := hl 0 x rfl
            obtain ⟨vs, h3, h4, h5⟩ := ih (o + 1) (fun j y hy => by
              have := hl (j + 1) y (by simpa using hy)
              rwa [show o + (j + 1) = o + 1 + j by omega] at this)
            refine ⟨c :: vs, by simp [h3], fun j v hv => ?_, by simp only [vrepL]; exact ⟨c, vs, rfl, h2, h5⟩⟩
            cases j with
            | zero => simp at hv; subst hv; exact h1
            | succ j =>
              simp at hv
              have := h4 j v hv
              rwa [show o + 1 + j = o + (j + 1) by omega] at this
        obtain ⟨vs, h1, h2, h3⟩ := hget 0 ((cs.drop off).take n) (o + off) (fun j x hx => by
          have : cs[off + j]? = some x := by
            rw [List.getElem?_take] at hx
            split at hx
            · simpa [List.getElem?_drop] using hx
            · cases hx
          have := hc _ _ this
          rwa [show o + (off + j) = o + off + j by omega] at this)
        refine ⟨.agg vs.toArray, ?_, by simp only [vrep]; exact ⟨_, rfl, by simpa using h3⟩⟩
        have hl : vs.length = n := by rw [h1, hlen]
        have := run_loadCells_list (P := P) E.w ⟨b, o + off, none⟩ vs (fun j v hv => by
          have := h2 j v hv
          unfold Addr.add
          split
          · rename_i hj; subst hj; exact this
          · exact this)
        rw [hl] at this
        simp [loadVar, run_isAgg hagg, run_sizeOf hn, this]
      · cases h
    · cases h
  · rename_i hagg
    obtain ⟨c, h1, h2⟩ := hc off v h
    refine ⟨c, ?_, h2⟩
    simp [loadVar, run_isAgg hagg, h1]
  · cases h

/-- the cells of an object's element, as the executor sees them -/
theorem SimE.findArr (h : SimE cx fr S κ st a w) {id : Nat} {e : Ty} {xs : List e.den} {wr : Bool} (hf : findO st.o id = some (.arr e xs wr)) :
    orep fr (fr.env S w κ) id (.arr e xs wr) := h.ob _ _ (findO_mem hf)
theorem SimE.findBox (h : SimE cx fr S κ st a w) {id : Nat} {cs : List V} (hf : findO st.o id = some (.box cs)) :
    orep fr (fr.env S w κ) id (.box cs) := h.ob _ _ (findO_mem hf)

theorem cell_at {w : World} {b i : Nat} {vs : Array Value} {el : TypeId} {f : Nat × Nat} (h : w.heap[b]? = some (.cells vs el f)) : w.cell? ⟨b, i, none⟩ = vs[i]? := by
  simp [World.cell?, h]

theorem loadV_rep (h : SimE cx fr S κ st a w) {t : TypeId} {va v : V} {ca : Value} (hl : loadV cx st t va = some v) (hv : vrep (fr.env S w κ) va ca) :
    ∃ c, (Instr.loadAt t ca).run cx.P w = .ok c w ∧ vrep (fr.env S w κ) v c := by
  unfold loadV at hl
  split at hl
  · rename_i id off
    split at hl
    · rename_i cs hf
      obtain ⟨b, el, vs, h1, h2, h3, h4, h5⟩ := h.findBox hf
      simp only [vrep] at hv
      obtain ⟨b', hb', rfl⟩ := hv
      rw [h1] at hb'; cases hb'
      obtain ⟨c, hc, hr⟩ := partV_load (E := fr.env S w κ) (b := b) (o := 0) (fun j x hx => by
        obtain ⟨c, hc, hr⟩ := vrepL_get h3 hx
        exact ⟨c, by rw [Nat.zero_add, cell_at (w := (fr.env S w κ).w) h2]; simpa using hc, hr⟩) hl
      exact ⟨c, by simpa [Instr.loadAt, Instr.sureAddr, Fr.env] using hc, hr⟩
    · cases hl
  · rename_i cs off
    simp only [vrep] at hv
    obtain ⟨b, o, rfl, hr⟩ := hv
    obtain ⟨c, hc, hr⟩ := partV_load (E := fr.env S w κ) (b := b) (o := o) (fun j x hx => by
      obtain ⟨c, _, hc, hr⟩ := rowAt_get hr hx
      exact ⟨c, hc, vrep_of_nok hr⟩) hl
    exact ⟨c, by simpa [Instr.loadAt, Instr.sureAddr, Fr.env] using hc, hr⟩
  · rename_i id i off
    split at hl
    · rename_i e xs wr hf
      obtain ⟨ad, cap, h1, h2, h3, h4⟩ := h.findArr hf
      simp only [vrep] at hv
      obtain ⟨b, n, cp, wd, hk, hi, rfl⟩ := hv
      rw [h1] at hk
      cases hk
      obtain ⟨el, vs, ha, hh, hs, hb, hS1, hS2, he⟩ := h4 b rfl
      have hx : xs[i]? = some (xs.getD i e.dflt) := by
        simp [List.getD, List.getElem?_eq_getElem hi]
      have hrep := flat_rep (E := fr.env S w κ) (he i _ hx)
      obtain ⟨c, hc, hr⟩ := partV_load (E := fr.env S w κ) (b := b.block) (o := i * e.width) (fun j x hx => by
        obtain ⟨c, hc, hr⟩ := vrepL_get hrep hx
        refine ⟨c, ?_, hr⟩
        rw [cell_at (w := (fr.env S w κ).w) hh]
        rw [List.getElem?_take] at hc
        split at hc
        · simpa [List.getElem?_drop] using hc
        · cases hc) hl
      exact ⟨c, by simpa [Instr.loadAt, Instr.sureAddr, Fr.env] using hc, hr⟩
    · cases hl
  · cases hl

theorem add_none (b o n : Nat) : (⟨b, o, none⟩ : Addr).add n = ⟨b, o + n, none⟩ := by
  unfold Addr.add
  split
  · rename_i h; subst h; rfl
  · rfl

theorem addOff_rep {E : Env} {va v : V} {ca : Value} {n : Nat} (h : addOff va n = some v) (hv : vrep E va ca) :
    ∃ b o, ca = .pointer (some ⟨b, o, none⟩) ∧ vrep E v (.pointer (some ⟨b, o + n, none⟩)) := by
  unfold addOff at h
  split at h
  · cases h
    simp only [vrep] at hv ⊢
    obtain ⟨b, hk, rfl⟩ := hv
    exact ⟨b, _, rfl, b, hk, rfl⟩
  · cases h
    simp only [vrep] at hv ⊢
    obtain ⟨b, o, rfl, hr⟩ := hv
    exact ⟨b, _, rfl, b, o, by rw [Nat.add_assoc], hr⟩
  · cases h
    simp only [vrep] at hv ⊢
    obtain ⟨a, n', cap, wd, hk, hi, rfl⟩ := hv
    exact ⟨a.block, _, rfl, a, n', cap, wd, hk, hi, by rw [Nat.add_assoc]⟩
  · cases h

theorem fieldOf_eq {P : Program} {s : TypeId} {f : Nat} {fd : Field} (h : fieldOf P s f = some fd) : ∃ fs, P.underlying s = some (.struct fs) ∧ fs[f]? = some fd := by
  unfold fieldOf at h
  split at h
  · rename_i fs hu; exact ⟨fs, hu, h⟩
  · cases h

theorem fieldAddr_sound {o : Oper} {s : TypeId} {x : Operand} {f n : Nat} {fd : Field} {v : V} (ho : o.op = .fieldAddr s x f) (hf : fieldOf cx.P s f = some fd)
    (hs : sizeT cx.P fd.type = some (n + 1)) (ha : addOff (ev cx st x) fd.offset = some v) : FSound cx o st v := by
  refine FSound.of_run fun fr S κ a w h => ?_
  obtain ⟨b, o', hc, hr⟩ := addOff_rep ha (h.ev x)
  obtain ⟨fs, hu, hg⟩ := fieldOf_eq hf
  refine ⟨_, ?_, hr⟩
  simp [execOp, ho, Instr.fieldAt, run_underlying hu, hg, hc, Instr.sureAddr, fieldPlace, run_sizeOf hs, add_none]

theorem part_run {P : Program} {E : Env} {t : TypeId} {cs : List V} {vs : Array Value} {off : Nat} {v : V} {w : World}
    (hc : vrepL E cs vs.toList) (h : partV P t cs off = some v) : ∃ c, (part t vs off).run P w = .ok c w ∧ vrep E v c := by
  unfold partV at h
  split at h
  · rename_i hagg
    split at h
    · rename_i n hn
      split at h
      · cases h
        refine ⟨.agg (vs.extract off (off + n)), by simp [part, run_isAgg hagg, run_sizeOf hn], ?_⟩
        simp only [vrep]
        refine ⟨_, rfl, ?_⟩
        have := vrepL_take n (vrepL_drop off hc)
        have he : (vs.extract off (off + n)).toList = (vs.toList.drop off).take n := by
          simp [List.extract, Nat.add_sub_cancel_left]
        rwa [he]
      · cases h
    · cases h
  · rename_i hagg
    obtain ⟨c, h1, h2⟩ := vrepL_get hc h
    refine ⟨c, ?_, h2⟩
    have h1' : vs[off]? = some c := by simpa using h1
    simp [part, run_isAgg hagg, h1']
  · cases h

theorem field_sound {o : Oper} {s : TypeId} {x : Operand} {f : Nat} {fd : Field} {cs : List V} {v : V} (ho : o.op = .field s x f) (hf : fieldOf cx.P s f = some fd)
    (hx : ev cx st x = .agg cs) (hp : partV cx.P fd.type cs fd.offset = some v) : FSound cx o st v := by
  refine FSound.of_run fun fr S κ a w h => ?_
  have hv := h.ev x
  rw [hx] at hv
  simp only [vrep] at hv
  obtain ⟨vs, hc, hr⟩ := hv
  obtain ⟨fs, hu, hg⟩ := fieldOf_eq hf
  obtain ⟨c, h1, h2⟩ := part_run (P := cx.P) (w := w) hr hp
  refine ⟨c, ?_, h2⟩
  simp [execOp, ho, Instr.field, run_underlying hu, hg, hc, asAgg, h1]

theorem load_sound {o : Oper} {t : TypeId} {x : Operand} {v : V} (ho : o.op = .load t x) (hl : loadV cx st t (ev cx st x) = some v) : FSound cx o st v := by
  refine FSound.of_run fun fr S κ a w h => ?_
  obtain ⟨c, h1, h2⟩ := loadV_rep h hl (h.ev x)
  exact ⟨c, by simp [execOp, ho, h1], h2⟩

theorem move_sound {o : Oper} {x : Operand} (ho : o.op = .move x ∨ o.op = .assign x) : FSound cx o st (ev cx st x) := by
  refine FSound.of_run fun fr S κ a w h => ⟨_, ?_, h.ev x⟩
  rcases ho with ho | ho <;> simp [execOp, ho]

theorem nilCheck_sound {o : Oper} {x : Operand} {v : V} (ho : o.op = .nilCheck x) (hx : ev cx st x = v)
    (hv : (∃ id off, v = .vref id off) ∨ (∃ cs off, v = .pc cs off) ∨ (∃ e xs, v = .pa e xs) ∨ (∃ id i off, v = .pe id i off) ∨ (∃ f caps, v = .fn f caps)) : FSound cx o st v := by
  refine FSound.of_run fun fr S κ a w h => ?_
  have hr := h.ev x
  rw [hx] at hr
  refine ⟨a.eval x, ?_, hr⟩
  have hp : (∃ p, a.eval x = .pointer (some p)) ∨ (∃ f vs, a.eval x = .func (.func f) #[] vs) := by
    rcases hv with ⟨id, off, rfl⟩ | ⟨cs, off, rfl⟩ | ⟨e, xs, rfl⟩ | ⟨id, i, off, rfl⟩ | ⟨f, caps, rfl⟩ <;> simp only [vrep] at hr
    · obtain ⟨b, _, h⟩ := hr; exact .inl ⟨_, h⟩
    · obtain ⟨b, _, h, _⟩ := hr; exact .inl ⟨_, h⟩
    · obtain ⟨b, _, h, _⟩ := hr; exact .inl ⟨_, h⟩
    · obtain ⟨b, _, _, _, _, _, h⟩ := hr; exact .inl ⟨_, h⟩
    · obtain ⟨vs, h, _⟩ := hr; exact .inr ⟨_, _, h⟩
  rcases hp with ⟨p, hp⟩ | ⟨f, vs, hp⟩ <;> simp [execOp, ho, hp]

theorem makeFunc_sound {o : Oper} {f : FuncId} {first captured : Array Operand} (ho : o.op = .makeFunc (.func f) first captured) (h0 : first.toList = []) :
    FSound cx o st (.fn f (captured.toList.map (ev cx st))) := by
  refine FSound.of_run fun fr S κ a w h => ?_
  have e0 : first = #[] := by simpa using h0
  subst e0
  refine ⟨.func (.func f) #[] (captured.map a.eval), by simp [execOp, ho, Instr.makeFunc], ?_⟩
  simp only [vrep]
  refine ⟨_, rfl, ?_⟩
  rw [Array.toList_map]
  have : ∀ l : List Operand, vrepL (fr.env S w κ) (l.map (ev cx st)) (l.map a.eval) := by
    intro l
    induction l with
    | nil => simp [vrepL]
    | cons x l ih => simp only [List.map_cons, vrepL]; exact ⟨_, _, rfl, h.ev x, ih⟩
  exact this _

theorem extract_sound {o : Oper} {t : Operand} {i : Nat} {vs : List V} {v : V} (ho : o.op = .extract t i) (ht : ev cx st t = .tup vs) (hi : vs[i]? = some v) :
    FSound cx o st v := by
  refine FSound.of_run fun fr S κ a w h => ?_
  have hr := h.ev t
  rw [ht] at hr
  simp only [vrep] at hr
  obtain ⟨cs, hc, hr⟩ := hr
  obtain ⟨c, h1, h2⟩ := vrepL_get hr hi
  refine ⟨c, ?_, h2⟩
  have h1' : cs[i]? = some c := by simpa using h1
  simp [execOp, ho, Instr.extract, hc, h1']

/-! ### Elements -/
theorem atIdx_some {n : Nat} {i : Int} {k : Nat → Option R} {r : R} (h : atIdx n i k = some r) : 0 ≤ i ∧ i.toNat < n ∧ k i.toNat = some r ∧ i < (n : Int) := by
  unfold atIdx at h
  by_cases h0 : 0 ≤ i
  · by_cases h1 : i < (n : Int)
    · simp [h0, h1] at h
      exact ⟨h0, by omega, h, h1⟩
    · simp [h0, h1] at h
  · simp [h0] at h

theorem run_indexAt {P : Program} {w : World} {t e : TypeId} {ad : Addr} {len cap n : Nat} {k : IntKind} {i : Int} (hu : P.underlying t = some (.slice e)) (hs : sizeT P e = some n)
    (h0 : 0 ≤ i) (h1 : i < (len : Int)) : (Instr.indexAt t (.slice (some ad) len cap) (.int k i)).run P w = .ok (.pointer (some (ad.add (i.toNat * n)))) w := by
  simp [Instr.indexAt, asIntOf, run_underlying hu, h0, h1, run_sizeOf hs]

theorem run_indexAtArr {P : Program} {w : World} {t e : TypeId} {ad : Addr} {len n : Nat} {k : IntKind} {i : Int} (hu : P.underlying t = some (.array len e)) (hs : sizeT P e = some n)
    (h0 : 0 ≤ i) (h1 : i < (len : Int)) : (Instr.indexAt t (.pointer (some ad)) (.int k i)).run P w = .ok (.pointer (some (ad.add (i.toNat * n)))) w := by
  simp [Instr.indexAt, asIntOf, run_underlying hu, h0, h1, run_sizeOf hs, Instr.sureAddr]

theorem getD_some {α : Type} {xs : List α} {i : Nat} {d : α} (h : i < xs.length) : xs[i]? = some (xs.getD i d) := by
  simp [List.getD, List.getElem?_eq_getElem h]

/-- an element of a data slice, as a frozen run of cells -/
theorem elem_pc {E : Env} {e : Ty} {x : e.den} {cs : List Value} {b o : Nat} (hr : rep E.S E.w e x cs)
    (hc : ∀ (j : Nat) (v : Value), cs[j]? = some v → E.B b (o + j) ∧ E.w.cell? ⟨b, o + j, none⟩ = some v) :
    vrep E (.pc (flat e x) 0) (.pointer (some ⟨b, o, none⟩)) := by
  simp only [vrep]
  refine ⟨b, o, rfl, rowAt_of (flat_rep (E := E.nok) hr) hc⟩

theorem indexAddrV_sound {o : Oper} {t : TypeId} {x ix : Operand} {k : V → Option R} {r : R} (ho : o.op = .indexAddr t x ix)
    (h : indexAddrV cx st t (ev cx st x) (ev cx st ix) k = some r) : ∃ v, k v = some r ∧ FSound cx o st v := by
  unfold indexAddrV at h
  split at h
  · rename_i ik i hix
    split at h
    · -- a data slice
      rename_i e ty xs hu hx
      split at h
      · rename_i n hn
        split at h
        · rename_i hw
          have hw := beq_true hw
          obtain ⟨h0, h1, hk, h2⟩ := atIdx_some h
          refine ⟨_, hk, FSound.of_run fun fr S κ a w hs => ?_⟩
          have hxv := hs.ev x
          have hiv := hs.ev ix
          rw [hx] at hxv; rw [hix] at hiv
          simp only [vrep] at hxv hiv
          obtain ⟨ad, cap, hc, hl, he⟩ := hxv
          obtain ⟨b, o', cs, rfl, hr, hcell⟩ := he i.toNat _ (getD_some h1 (d := ty.dflt))
          simp at hc
          refine ⟨.pointer (some ⟨b, o' + i.toNat * n, none⟩), ?_, elem_pc hr fun j v hv => ?_⟩
          · simp [execOp, ho, hc, hiv, run_indexAt hu hn h0 h2, add_none]
          · rw [hw]
            exact ⟨.inl (hcell j v hv).1, (hcell j v hv).2⟩
        · cases h
      · cases h
    · -- an owned array
      rename_i e id hu hx
      split at h
      · rename_i ty xs wr hf
        split at h
        · rename_i n hn
          split at h
          · rename_i hw
            have hw := beq_true hw
            split at h
            · obtain ⟨h0, h1, hk, h2⟩ := atIdx_some h
              refine ⟨_, hk, FSound.of_run fun fr S κ a w hs => ?_⟩
              have hxv := hs.ev x
              have hiv := hs.ev ix
              rw [hx] at hxv; rw [hix] at hiv
              simp only [vrep] at hxv hiv
              obtain ⟨ad', n', cap', wd, hxv, hxc⟩ := hxv
              obtain ⟨ad, cap, hk1, hl, hnil, hb⟩ := hs.findArr hf
              rw [hk1] at hxv
              simp only [Option.some.injEq, CO.arr.injEq] at hxv
              obtain ⟨rfl, rfl, rfl, rfl⟩ := hxv
              cases ad with
              | none => rw [(hnil rfl).1] at h1; simp at h1
              | some ad =>
                obtain ⟨el, vs, ha, hh, hsz, hbase, hS1, hS2, hel⟩ := hb ad rfl
                refine ⟨.pointer (some ⟨ad.block, i.toNat * n, none⟩), ?_, ?_⟩
                · rw [ha] at hxc
                  simp [execOp, ho, hxc, hiv, run_indexAt hu hn h0 h2, add_none]
                · simp only [vrep]
                  exact ⟨ad, List.length xs, cap, ty.width, hk1, h1, by rw [hw]; rfl⟩
            · obtain ⟨h0, h1, hk, h2⟩ := atIdx_some h
              refine ⟨_, hk, FSound.of_run fun fr S κ a w hs => ?_⟩
              have hxv := hs.ev x
              have hiv := hs.ev ix
              rw [hx] at hxv; rw [hix] at hiv
              simp only [vrep] at hxv hiv
              obtain ⟨ad', n', cap', wd, hxv, hxc⟩ := hxv
              obtain ⟨ad, cap, hk1, hl, hnil, hb⟩ := hs.findArr hf
              rw [hk1] at hxv
              simp only [Option.some.injEq, CO.arr.injEq] at hxv
              obtain ⟨rfl, rfl, rfl, rfl⟩ := hxv
              cases ad with
              | none => rw [(hnil rfl).1] at h1; simp at h1
              | some ad =>
                obtain ⟨el, vs, ha, hh, hsz, hbase, hS1, hS2, hel⟩ := hb ad rfl
                refine ⟨.pointer (some ⟨ad.block, i.toNat * n, none⟩), ?_, elem_pc (hel i.toNat _ (getD_some h1 (d := ty.dflt))) fun j v hv => ?_⟩
                · rw [ha] at hxc
                  simp [execOp, ho, hxc, hiv, run_indexAt hu hn h0 h2, add_none]
                · rw [List.getElem?_take] at hv
                  split at hv
                  · rename_i hj
                    rw [List.getElem?_drop] at hv
                    refine ⟨.inl ?_, ?_⟩
                    · rw [hw]
                      refine hS2 rfl _ ?_
                      have : (i.toNat + 1) * ty.width ≤ List.length xs * ty.width := Nat.mul_le_mul_right _ h1
                      rw [Nat.succ_mul] at this
                      omega
                    · rw [hw, cell_at (w := (fr.env S w κ).w) hh]; simpa using hv
                  · cases hv
          · cases h
        · cases h
      · cases h
    · -- a frozen array
      rename_i m e ty xs hu hx
      split at h
      · rename_i n hn
        split at h
        · rename_i hw
          simp only [Bool.and_eq_true] at hw
          have hm := beq_true hw.2
          have hw := beq_true hw.1
          obtain ⟨h0, h1, hk, h2⟩ := atIdx_some h
          refine ⟨_, hk, FSound.of_run fun fr S κ a w hs => ?_⟩
          have hxv := hs.ev x
          have hiv := hs.ev ix
          rw [hx] at hxv; rw [hix] at hiv
          simp only [vrep] at hxv hiv
          obtain ⟨b, o', hc, he⟩ := hxv
          obtain ⟨cs, hr, hcell⟩ := he i.toNat _ (getD_some h1 (d := ty.dflt))
          refine ⟨.pointer (some ⟨b, o' + i.toNat * n, none⟩), ?_, elem_pc hr fun j v hv => ?_⟩
          · simp [execOp, ho, hc, hiv, run_indexAtArr hu hn h0 (by rw [hm]; exact h2), add_none]
          · rw [hw]
            exact hcell j v hv
        · cases h
      · cases h
    · cases h
  · cases h

theorem bt_eq {s : ByteArray} {i : Nat} (h : i < s.size) : s[i]? = some s[i] ∧ ((s[i].toNat : Nat) : Int) = bt s i := by
  refine ⟨by simp [h], ?_⟩
  unfold bt
  have : s.data.toList.getD i 0 = s[i] := by
    have hi : i < s.data.toList.length := by simpa using h
    rw [List.getD_eq_getElem?_getD, List.getElem?_eq_getElem hi]; rfl
  rw [this]

theorem index_sound {o : Oper} {t : TypeId} {x ix : Operand} {k : V → Option R} {r : R} {s : ByteArray} {ik : IntKind} {i : Int} (ho : o.op = .index t x ix)
    (hu : cx.P.underlying t = some .string) (hx : ev cx st x = .val (.string s)) (hix : ev cx st ix = .val (.int ik i))
    (h : atIdx s.size i (fun j => k (.val (.int .u8 (bt s j)))) = some r) : ∃ v, k v = some r ∧ FSound cx o st v := by
  obtain ⟨h0, h1, hk, h2⟩ := atIdx_some h
  refine ⟨_, hk, FSound.of_run fun fr S κ a w hs => ?_⟩
  have hxv := hs.ev x
  have hiv := hs.ev ix
  rw [hx] at hxv; rw [hix] at hiv
  simp only [vrep] at hxv hiv
  obtain ⟨hb1, hb2⟩ := bt_eq h1
  refine ⟨_, ?_, vrep_val⟩
  simp [execOp, ho, hxv, hiv, Instr.index, asIntOf, run_underlying hu, h0, hb1, hb2]

theorem div_sound {o : Oper} {b : BinOp} {t yt : TypeId} {x y : Operand} {ik : IntKind} {m n : Int} {v : V} (ho : o.op = .binOp b t x y yt)
    (hx : ev cx st x = .val (.int ik m)) (hy : ev cx st y = .val (.int ik n)) (hn : n ≠ 0)
    (hv : (b = .quo ∧ v = .val (.int ik (ik.wrap (m.tdiv n)))) ∨ (b = .rem ∧ v = .val (.int ik (m.tmod n)))) : FSound cx o st v := by
  refine FSound.of_run fun fr S κ a w hs => ?_
  have hxv := hs.ev x
  have hyv := hs.ev y
  rw [hx] at hxv; rw [hy] at hyv
  simp only [vrep] at hxv hyv
  rcases hv with ⟨rfl, rfl⟩ | ⟨rfl, rfl⟩ <;> refine ⟨_, ?_, vrep_val⟩ <;>
    simp [execOp, ho, hxv, hyv, eqGuard, binOp, Op.intDiv, hn]

/-! ### Owned arrays as data -/
theorem arr_data (h : SimE cx fr S κ st a w) {id : Nat} {e : Ty} {xs : List e.den} (hf : findO st.o id = some (.arr e xs false)) {c : Value} (hv : vrep (fr.env S w κ) (.os id) c) :
    rep S w (.sl e) xs [c] := by
  simp only [vrep] at hv
  obtain ⟨ad', n', cap', wd, hv, hvc⟩ := hv
  obtain ⟨ad, cap, hk1, hl, hnil, hb⟩ := h.findArr hf
  rw [hk1] at hv
  simp only [Option.some.injEq, CO.arr.injEq] at hv
  obtain ⟨rfl, rfl, rfl, rfl⟩ := hv
  refine ⟨ad, cap, by rw [hvc], hl, fun i x hx => ?_⟩
  have hi : i < xs.length := by
    rcases Nat.lt_or_ge i xs.length with h' | h'
    · exact h'
    · rw [List.getElem?_eq_none h'] at hx; cases hx
  cases ad with
  | none => rw [(hnil rfl).1] at hi; simp at hi
  | some ad =>
    obtain ⟨el, vs, ha, hh, hsz, hbase, hS1, hS2, hel⟩ := hb ad rfl
    refine ⟨ad.block, 0, _, by rw [← ha], hel i x hx, fun j v hj => ?_⟩
    rw [List.getElem?_take] at hj
    split at hj
    · rename_i hjw
      rw [List.getElem?_drop] at hj
      refine ⟨?_, ?_⟩
      · refine hS2 rfl _ ?_
        have : (i + 1) * e.width ≤ List.length xs * e.width := Nat.mul_le_mul_right _ hi
        rw [Nat.succ_mul] at this
        omega
      · rw [Nat.zero_add, cell_at (w := w) (show w.heap[ad.block]? = _ from hh)]; simpa using hj
    · cases hj

theorem thaw_rep (h : SimE cx fr S κ st a w) {v : V} {c : Value} (hv : vrep (fr.env S w κ) v c) : vrep (fr.env S w κ) (st.thaw v) c := by
  unfold St.thaw
  split
  · split
    · rename_i e xs hf
      simp only [vrep]
      exact arr_data h hf hv
    · exact vrep_undef
  · exact hv

theorem thawL_rep (h : SimE cx fr S κ st a w) : ∀ {l : List V} {vs : List Value}, vrepL (fr.env S w κ) l vs → vrepL (fr.env S w κ) (thawL st l) vs
  | [], vs, hv => by simpa [vrepL, thawL] using hv
  | v :: l, vs, hv => by
    simp only [vrepL, thawL] at *
    obtain ⟨c, r, hc, h1, h2⟩ := hv
    exact ⟨c, r, hc, thaw_rep h h1, thawL_rep h h2⟩

/-! ### Bounds of a slice expression -/
def atV (v : Option V) (n d : Nat) : Prop :=
  match v with
  | none => n = d
  | some v => ∃ ik, v = .val (.int ik (n : Int))
theorem bounds2_some {n : Nat} {lo hi : Option V} {k : Nat → Nat → Option R} {r : R} (h : bounds2 n lo hi k = some r) :
    ∃ l u, k l u = some r ∧ l ≤ u ∧ u ≤ n ∧
      atV hi u n ∧ atV lo l 0 := by
  unfold bounds2 at h
  have lower : ∀ u, (match lo with
      | none => k 0 u
      | some (.val (.int _ l)) => cond (decide (0 ≤ l)) (cond (decide (l ≤ (u : Int))) (k l.toNat u) none) none
      | _ => none) = some r → ∃ l, k l u = some r ∧ l ≤ u ∧ atV lo l 0 := by
    intro u hu
    split at hu
    · exact ⟨0, hu, Nat.zero_le _, rfl⟩
    · rename_i ik l
      by_cases h0 : 0 ≤ l
      · by_cases h1 : l ≤ (u : Int)
        · simp [h0, h1] at hu
          exact ⟨l.toNat, hu, by omega, ik, by rw [Int.toNat_of_nonneg h0]⟩
        · simp [h0, h1] at hu
      · simp [h0] at hu
    · cases hu
  dsimp only at h
  split at h
  · obtain ⟨l, h1, h2, h3⟩ := lower _ h
    exact ⟨l, n, h1, h2, Nat.le_refl _, rfl, h3⟩
  · rename_i ik u
    by_cases h0 : 0 ≤ u
    · by_cases h1 : u ≤ (n : Int)
      · simp only [h0, h1, decide_true, cond_true] at h
        obtain ⟨l, h2, h3, h4⟩ := lower _ h
        exact ⟨l, u.toNat, h2, h3, by omega, ⟨ik, by rw [Int.toNat_of_nonneg h0]⟩, h4⟩
      · simp [h0, h1] at h
    · simp [h0] at h
  · cases h

theorem run_sliceBounds (h : SimE cx fr S κ st a w) {b : Bool} {n cap l u : Nat} {lo hi : Option Operand} (hlu : l ≤ u) (hun : u ≤ cap) (hn : n ≤ cap)
    (hh : atV (hi.map (ev cx st)) u n) (hl : atV (lo.map (ev cx st)) l 0) :
    (Instr.sliceBounds b n cap (lo.map a.eval) (hi.map a.eval) none).run cx.P w = .ok (l, u, cap) w := by
  have e1 : ∀ x, hi = some x → ∃ ik, a.eval x = .int ik (u : Int) := fun x hx => by
    subst hx
    simp only [Option.map_some, atV] at hh
    obtain ⟨ik, hh⟩ := hh
    have := h.ev x
    rw [hh] at this
    simp only [vrep] at this
    exact ⟨ik, this⟩
  have e2 : ∀ x, lo = some x → ∃ ik, a.eval x = .int ik (l : Int) := fun x hx => by
    subst hx
    simp only [Option.map_some, atV] at hl
    obtain ⟨ik, hl⟩ := hl
    have := h.ev x
    rw [hl] at this
    simp only [vrep] at this
    exact ⟨ik, this⟩
  cases hi with
  | none =>
    simp only [Option.map_none, atV] at hh
    subst hh
    cases lo with
    | none => simp only [Option.map_none, atV] at hl; subst hl; simp [Instr.sliceBounds]
    | some x => obtain ⟨ik, hx⟩ := e2 x rfl; simp [Instr.sliceBounds, hx, Instr.sliceBound, asIntOf, hlu]
  | some y =>
    obtain ⟨ik, hy⟩ := e1 y rfl
    cases lo with
    | none => simp only [Option.map_none, atV] at hl; subst hl; simp [Instr.sliceBounds, hy, Instr.sliceBound, asIntOf, hun]
    | some x => obtain ⟨jk, hx⟩ := e2 x rfl; simp [Instr.sliceBounds, hy, hx, Instr.sliceBound, asIntOf, hun, hlu]

theorem slice_str_sound {o : Oper} {t : TypeId} {x : Operand} {lo hi : Option Operand} {k : V → Option R} {r : R} {s : ByteArray} (ho : o.op = .slice t x lo hi none)
    (hu : cx.P.underlying t = some .string) (hx : ev cx st x = .val (.string s))
    (h : bounds2 s.size (lo.map (ev cx st)) (hi.map (ev cx st)) (fun l h => k (.val (.string (s.extract l h)))) = some r) : ∃ v, k v = some r ∧ FSound cx o st v := by
  obtain ⟨l, u, hk, h1, h2, h3, h4⟩ := bounds2_some h
  refine ⟨_, hk, FSound.of_run fun fr S κ a w hs => ?_⟩
  have hxv := hs.ev x
  rw [hx] at hxv
  simp only [vrep] at hxv
  have := run_sliceBounds hs (b := false) (n := s.size) (cap := s.size) h1 h2 (Nat.le_refl _) h3 h4
  refine ⟨_, ?_, vrep_val⟩
  simp [execOp, ho, hxv, Instr.sliceAt, Instr.slice, run_underlying hu, this]

theorem slice_data_sound {o : Oper} {t e : TypeId} {x : Operand} {lo hi : Option Operand} {k : V → Option R} {r : R} {ty : Ty} {xs : List ty.den} (ho : o.op = .slice t x lo hi none)
    (hu : cx.P.underlying t = some (.slice e)) (hn : sizeT cx.P e = some ty.width) (hx : st.thaw (ev cx st x) = .sl ty xs)
    (h : bounds2 xs.length (lo.map (ev cx st)) (hi.map (ev cx st)) (fun l h => k (.sl ty ((xs.take h).drop l))) = some r) : ∃ v, k v = some r ∧ FSound cx o st v := by
  obtain ⟨l, u, hk, h1, h2, h3, h4⟩ := bounds2_some h
  refine ⟨_, hk, FSound.of_run fun fr S κ a w hs => ?_⟩
  have hxv := thaw_rep hs (hs.ev x)
  rw [hx] at hxv
  simp only [vrep] at hxv
  obtain ⟨ad, cap, hc, hl, he⟩ := hxv
  simp at hc
  have hb := run_sliceBounds hs (b := true) (n := xs.length) (cap := cap) h1 (Nat.le_trans h2 hl) hl h3 h4
  refine ⟨.slice (if cap = l then ad else ad.map (·.add (l * ty.width))) (u - l) (cap - l), ?_, ?_⟩
  · simp [execOp, ho, hc, Instr.sliceAt, Instr.slice, run_underlying hu, hb, run_sizeOf hn]
  · simp only [vrep]
    have hlen : List.length (List.drop l (List.take u xs)) = u - l := by
      simp [Nat.min_eq_left h2]
    refine ⟨_, cap - l, by rw [hlen], by rw [hlen]; omega, fun i y hy => ?_⟩
    have hy' : xs[l + i]? = some y := by
      have hy : (List.drop l (List.take u xs))[i]? = some y := hy
      rw [List.getElem?_drop, List.getElem?_take] at hy
      split at hy
      · exact hy
      · cases hy
    have hi : l + i < xs.length := by
      rcases Nat.lt_or_ge (l + i) xs.length with h' | h'
      · exact h'
      · rw [List.getElem?_eq_none h'] at hy'; cases hy'
    obtain ⟨b, o', c, rfl, hr, hcell⟩ := he (l + i) y hy'
    refine ⟨b, o' + l * ty.width, c, ?_, hr, fun j v hv => ?_⟩
    · rw [if_neg (by omega)]
      simp [add_none]
    · have := hcell j v hv
      rwa [show o' + l * ty.width + i * ty.width + j = o' + (l + i) * ty.width + j by rw [Nat.add_mul]; omega]

theorem lenStr_sound {o : Oper} {c : Call} {x : Operand} {t : TypeId} {s : ByteArray} (ho : o.op = .call c) (hc : c.callee = .builtin .len) (ha : c.args.toList = [x]) (ht : c.argTypes.toList = [t])
    (hu : cx.P.underlying t = some .string) (hx : ev cx st x = .val (.string s)) : FSound cx o st (.val (.int .i64 s.size)) := by
  refine FSound.of_run fun fr S κ a w h => ⟨_, ?_, vrep_val⟩
  have hxv := h.ev x
  rw [hx] at hxv
  simp only [vrep] at hxv
  have ea : c.args = #[x] := Array.ext' ha
  have et : c.argTypes = #[t] := Array.ext' ht
  simp [execOp, ho, resolve, hc, ea, et, invoke, builtin, Builtin.len_, run_underlying hu, hxv, goInt]

theorem len_sound {o : Oper} {c : Call} {x : Operand} {t e : TypeId} {n : Nat} (ho : o.op = .call c) (hc : c.callee = .builtin .len) (ha : c.args.toList = [x]) (ht : c.argTypes.toList = [t])
    (hu : cx.P.underlying t = some (.slice e)) (hn : lenOfV st (ev cx st x) = some n) : FSound cx o st (.val (.int .i64 n)) := by
  refine FSound.of_run fun fr S κ a w h => ⟨_, ?_, vrep_val⟩
  have hxv := h.ev x
  have ea : c.args = #[x] := Array.ext' ha
  have et : c.argTypes = #[t] := Array.ext' ht
  have hev : ∃ b m, a.eval x = .slice b n m := by
    unfold lenOfV at hn
    split at hn
    · rename_i e xs hx
      cases hn
      rw [hx] at hxv
      simp only [vrep] at hxv
      obtain ⟨ad, cap, hc, _⟩ := hxv
      simp at hc
      exact ⟨ad, cap, hc⟩
    · rename_i id hx
      split at hn
      · rename_i e xs wr hf
        cases hn
        rw [hx] at hxv
        simp only [vrep] at hxv
        obtain ⟨ad', n', cap', wd, hxv, hxc⟩ := hxv
        obtain ⟨ad, cap, hk1, _⟩ := h.findArr hf
        rw [hk1] at hxv
        simp only [Option.some.injEq, CO.arr.injEq] at hxv
        obtain ⟨rfl, rfl, rfl, rfl⟩ := hxv
        exact ⟨ad, cap, hxc⟩
      · cases hn
    · rename_i hx
      cases hn
      rw [hx] at hxv
      simp only [vrep] at hxv
      exact ⟨none, 0, hxv⟩
    · cases hn
  obtain ⟨b, m, h1⟩ := hev
  simp [execOp, ho, resolve, hc, ea, et, invoke, builtin, Builtin.len_, run_underlying hu, h1, goInt]

/-! ### Literals -/
theorem over_spec : ∀ {cs : List V} {n : Nat} {xs r : List V}, over cs n xs = some r → r = cs.take n ++ xs ++ cs.drop (n + xs.length) ∧ n + xs.length ≤ cs.length
  | cs, 0, [], r, h => by simp only [over] at h; cases h; simp
  | c :: cs, n + 1, xs, r, h => by
    simp only [over] at h
    split at h
    · rename_i r' hr
      cases h
      obtain ⟨h1, h2⟩ := over_spec hr
      refine ⟨by rw [h1]; simp [Nat.add_right_comm], by simp; omega⟩
    · cases h
  | c :: cs, 0, x :: xs, r, h => by
    simp only [over] at h
    split at h
    · rename_i r' hr
      cases h
      obtain ⟨h1, h2⟩ := over_spec hr
      refine ⟨by rw [h1]; simp, by simp at h2 ⊢; omega⟩
    · cases h
  | [], n + 1, xs, r, h => by simp [over] at h
  | [], 0, x :: xs, r, h => by simp [over] at h

theorem vrepL_over {E : Env} {cs : List V} {n : Nat} {xs r : List V} {vs ws : List Value} (h : over cs n xs = some r) (hv : vrepL E cs vs) (hw : vrepL E xs ws) :
    vrepL E r (vs.take n ++ ws ++ vs.drop (n + ws.length)) := by
  obtain ⟨rfl, _⟩ := over_spec h
  have hl := vrepL_len hw
  rw [hl]
  exact vrepL_append (vrepL_append (vrepL_take n hv) hw) (vrepL_drop _ hv)

/-- the model's way of laying cells over others -/
theorem foldl_over : ∀ (ws : List Value) (s : Nat) (off : Nat) (vs : Array Value), off + s + ws.length ≤ vs.size →
    ((ws.zipIdx s).foldl (fun cs (x : Value × Nat) => cs.setIfInBounds (off + x.2) x.1) vs).toList = vs.toList.take (off + s) ++ ws ++ vs.toList.drop (off + s + ws.length)
  | [], s, off, vs, h => by simp
  | x :: ws, s, off, vs, h => by
    simp only [List.zipIdx_cons, List.foldl_cons, List.length_cons] at h ⊢
    rw [foldl_over ws (s + 1) off (vs.setIfInBounds (off + s) x) (by simp; omega)]
    have hlt : off + s < vs.toList.length := by simp; omega
    simp only [Array.toList_setIfInBounds]
    rw [show off + (s + 1) = off + s + 1 by omega, List.take_succ_eq_append_getElem (by simpa using hlt)]
    rw [List.take_set_of_le (Nat.le_refl _), List.drop_set_of_lt (by omega)]
    simp [Nat.add_right_comm, Nat.add_assoc]
    omega

theorem fill_step {place : Nat → Option (Nat × Nat)} {vs : Array Value} {i off size : Nat} {v : Value} {rest : List (Nat × Value)} (hp : place i = some (off, size))
    (hs : v.cells.size = size) (hb : off + size ≤ vs.size) :
    ∃ vs' : Array Value, Instr.fill place vs ((i, v) :: rest) = Instr.fill place vs' rest ∧ vs'.toList = vs.toList.take off ++ v.cells.toList ++ vs.toList.drop (off + size) := by
  refine ⟨_, by simp only [Instr.fill, hp]; rw [if_neg (by simp [hs]; omega)], ?_⟩
  have := foldl_over v.cells.toList 0 off vs (by simp [hs]; omega)
  simp only [Nat.add_zero, Array.length_toList, hs] at this
  rw [← this]
  congr 1
  rw [← Array.foldl_toList, Array.toList_zipIdx]

inductive PartsR (E : Env) : List (Nat × V) → List (Nat × Value) → Prop
  | nil : PartsR E [] []
  | cons {i : Nat} {v : V} {u : Value} {r : List (Nat × V)} {q : List (Nat × Value)} (h : vrepL E v.cells u.cells.toList) (t : PartsR E r q) : PartsR E ((i, v) :: r) ((i, u) :: q)

theorem fillV_run {E : Env} {place : Nat → Option (Nat × Nat)} : ∀ {parts : List (Nat × V)} {cells r : List V} {vs : Array Value} {ps : List (Nat × Value)},
    fillV place cells parts = some r → vrepL E cells vs.toList → PartsR E parts ps →
    ∃ vs', Instr.fill place vs ps = some vs' ∧ vrepL E r vs'.toList
  | [], cells, r, vs, ps, h, hv, hf => by
    cases hf
    simp only [fillV] at h
    cases h
    exact ⟨vs, rfl, hv⟩
  | (i, v) :: rest, cells, r, vs, ps, h, hv, hf => by
    cases hf with
    | @cons _ _ u _ qs h2 hqs =>
      simp only [fillV] at h
      split at h
      · cases h
      · rename_i off size hp
        split at h
        · rename_i hl
          have hl := beq_true hl
          split at h
          · rename_i cells' ho
            have hlen := vrepL_len h2
            have hsz : u.cells.size = size := by rw [← hl, ← hlen]; simp
            have hb := (over_spec ho).2
            have hvl := vrepL_len hv
            obtain ⟨vs', hs1, hs2⟩ := fill_step (vs := vs) (rest := qs) hp hsz (by rw [← Array.length_toList, hvl, ← hl]; exact hb)
            rw [hs1]
            refine fillV_run h ?_ hqs
            rw [hs2]
            have := vrepL_over ho hv h2
            rwa [show u.cells.toList.length = size by simpa using hsz] at this
          · cases h
        · cases h

end Go.Proofs.Vm
