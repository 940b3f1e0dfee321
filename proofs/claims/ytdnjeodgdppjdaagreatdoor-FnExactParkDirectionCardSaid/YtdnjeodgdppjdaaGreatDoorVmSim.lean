/- How a state of the executor stands for a frame and a world of the model (own work). -/
import Derived.Test.YtdnjeodgdppjdaaGreatDoorVmRep
import Derived.Laws.Cells
namespace Go.Proofs.Vm
open Go
set_option linter.unusedVariables false

/-- what a frame begins with: the world, the cells whose data is stable, the blocks that it may turn -/
structure Fr where
  w0 : World
  S0 : CellSet
  M : List Nat
  K0 : Nat → Option CO
  hK0 : ∀ id c, K0 id = some c → (100000 ≤ id ∧ id < 200000) ∧ ∃ b, c = .box b

abbrev Fr.base (fr : Fr) : Nat := fr.w0.heap.size
def Fr.B (fr : Fr) (S : CellSet) : CellSet := fun b o => S b o ∨ (b < fr.base ∧ b ∉ fr.M)
def Fr.env (fr : Fr) (S : CellSet) (w : World) (κ : Nat → Option CO) : Env := ⟨S, fr.B S, w, κ⟩

def elems (S : CellSet) (w : World) (e : Ty) (xs : List e.den) (vs : List Value) : Prop :=
  ∀ (i : Nat) (x : e.den), xs[i]? = some x → rep S w e x ((vs.drop (i * e.width)).take e.width)

def orep (fr : Fr) (E : Env) (id : Nat) : VObj → Prop
  | .box cs => ∃ b el vs, E.κ id = some (.box b) ∧ E.w.heap[b]? = some (.cells vs el (0, 0)) ∧ vrepL E cs vs.toList ∧ (∀ o, ¬ E.S b o) ∧ (fr.base ≤ b ∨ b ∈ fr.M)
  | .arr e xs wr => ∃ ad cap, E.κ id = some (.arr ad (List.length xs) cap e.width) ∧ List.length xs ≤ cap ∧ (ad = none → xs = [] ∧ cap = 0) ∧
      ∀ a, ad = some a → ∃ el vs, a = ⟨a.block, 0, none⟩ ∧ E.w.heap[a.block]? = some (.cells vs el (0, 0)) ∧ vs.size = cap * e.width ∧ fr.base ≤ a.block ∧
        (∀ o, E.S a.block o → wr = false ∧ o < List.length xs * e.width) ∧ (wr = false → ∀ o, o < List.length xs * e.width → E.S a.block o) ∧
        elems E.S E.w e xs vs.toList

def blkOf : CO → Option Nat
  | .box b => some b
  | .arr (some a) _ _ _ => some a.block
  | _ => none

structure Kept (fr : Fr) (w : World) : Prop where
  os : w.os = fr.w0.os
  tape : w.tape = fr.w0.tape
  output : w.output = fr.w0.output
  size : fr.base ≤ w.heap.size
  block : ∀ b, b < fr.base → b ∉ fr.M → w.heap[b]? = fr.w0.heap[b]?

structure SimE (cx : Ctx) (fr : Fr) (S : CellSet) (κ : Nat → Option CO) (st : St) (a : Act) (w : World) : Prop where
  tm : vrepL (fr.env S w κ) st.t a.tmps.toList
  ob : ∀ id x, (id, x) ∈ st.o → orep fr (fr.env S w κ) id x
  di : ∀ i x j y, (i, x) ∈ st.o → (j, y) ∈ st.o → i ≠ j → ∀ c d b, κ i = some c → κ j = some d → blkOf c = some b → blkOf d ≠ some b
  sz : ∀ b o, S b o → b < w.heap.size
  s0 : ∀ b o, fr.S0 b o → S b o
  sn : ∀ b o, S b o → fr.S0 b o ∨ fr.base ≤ b
  sm : ∀ b o, fr.S0 b o → b < fr.base ∧ b ∉ fr.M
  kp : Kept fr w
  df : a.defers = []
  gl : ∀ g v, cx.gl g = some v → vrep (fr.env S w κ).nok v (.pointer (some ⟨g, 0, none⟩))
  nd : (st.o.map (·.1)).Nodup
  pk : ∀ id x, (id, x) ∈ st.o → ∀ c, fr.K0 id = some c → κ id = some c

/-! ### Worlds that only gain -/
structure Quiet (S S' : CellSet) (w w' : World) : Prop where
  gain : ∀ b o, S b o → S' b o
  new : ∀ b o, S' b o → S b o ∨ (w.heap.size ≤ b ∧ b < w'.heap.size)
  os : w'.os = w.os
  tape : w'.tape = w.tape
  output : w'.output = w.output
  size : w.heap.size ≤ w'.heap.size
  block : ∀ b, b < w.heap.size → w'.heap[b]? = w.heap[b]?

theorem Quiet.refl (S : CellSet) (w : World) : Quiet S S w w := ⟨fun _ _ h => h, fun _ _ h => .inl h, rfl, rfl, rfl, Nat.le_refl _, fun _ _ => rfl⟩
theorem Quiet.trans {S S' S'' : CellSet} {w w' w'' : World} (h : Quiet S S' w w') (k : Quiet S' S'' w' w'') : Quiet S S'' w w'' :=
  ⟨fun b o x => k.gain _ _ (h.gain _ _ x), fun b o x => by
    rcases k.new b o x with y | ⟨y1, y2⟩
    · rcases h.new b o y with z | ⟨z1, z2⟩
      · exact .inl z
      · exact .inr ⟨z1, Nat.lt_of_lt_of_le z2 k.size⟩
    · exact .inr ⟨Nat.le_trans h.size y1, y2⟩, k.os.trans h.os, k.tape.trans h.tape, k.output.trans h.output, Nat.le_trans h.size k.size,
   fun b hb => (k.block b (Nat.lt_of_lt_of_le hb h.size)).trans (h.block b hb)⟩

theorem cell_of_block {w w' : World} {b o : Nat} (h : w'.heap[b]? = w.heap[b]?) : w'.cell? ⟨b, o, none⟩ = w.cell? ⟨b, o, none⟩ := by
  unfold World.cell?; rw [h]

variable {cx : Ctx} {fr : Fr} {S S' : CellSet} {κ : Nat → Option CO} {st : St} {a : Act} {w w' : World}

theorem SimE.b_lt (h : SimE cx fr S κ st a w) {b o : Nat} (hb : fr.B S b o) : b < w.heap.size := by
  rcases hb with hb | ⟨hb, _⟩
  · exact h.sz _ _ hb
  · exact Nat.lt_of_lt_of_le hb h.kp.size

theorem SimE.le_quiet (h : SimE cx fr S κ st a w) (q : Quiet S S' w w') : (fr.env S w κ).Le (fr.env S' w' κ) :=
  ⟨q.gain, fun b o x => x.imp (q.gain _ _) id, fun b o x => cell_of_block (q.block _ (h.sz _ _ x)), fun b o x => cell_of_block (q.block _ (h.b_lt x))⟩

theorem heap_lt {w : World} {b : Nat} {x : Obj} (h : w.heap[b]? = some x) : b < w.heap.size := by
  rcases Nat.lt_or_ge b w.heap.size with h' | h'
  · exact h'
  · simp [Array.getElem?_eq_none h'] at h

theorem SimE.quiet (h : SimE cx fr S κ st a w) (q : Quiet S S' w w') : SimE cx fr S' κ st a w' where
  tm := vrepL_mono (h.le_quiet q) (fun _ => rfl) h.tm
  ob := fun id x hx => by
    have ho := h.ob id x hx
    cases x with
    | box cs =>
      obtain ⟨b, el, vs, h1, h2, h3, h4, h5⟩ := ho
      have hb := heap_lt h2
      refine ⟨b, el, vs, h1, (q.block b hb).trans h2, vrepL_mono (h.le_quiet q) (fun _ => rfl) h3, fun o hs => ?_, h5⟩
      rcases q.new b o hs with h' | ⟨h', _⟩
      · exact h4 o h'
      · exact absurd hb (Nat.not_lt.mpr h')
    | arr e xs wr =>
      obtain ⟨ad, cap, h1, h2, h3, h4⟩ := ho
      refine ⟨ad, cap, h1, h2, h3, fun x hx => ?_⟩
      obtain ⟨el, vs, ha, hh, hs, hb, hS1, hS2, he⟩ := h4 x hx
      have hb' := heap_lt hh
      refine ⟨el, vs, ha, (q.block _ hb').trans hh, hs, hb, fun o ho => ?_, fun hw o ho => q.gain _ _ (hS2 hw o ho), fun i y hy => ?_⟩
      · rcases q.new _ o ho with h' | ⟨h', _⟩
        · exact hS1 o h'
        · exact absurd hb' (Nat.not_lt.mpr h')
      · exact rep_mono q.gain (fun b o x => cell_of_block (q.block _ (h.sz _ _ x))) (he i y hy)
  di := h.di
  sz := fun b o x => by
    rcases q.new b o x with h' | ⟨_, h'⟩
    · exact Nat.lt_of_lt_of_le (h.sz b o h') q.size
    · exact h'
  s0 := fun b o x => q.gain _ _ (h.s0 _ _ x)
  sn := fun b o x => by
    rcases q.new b o x with h' | ⟨h', _⟩
    · exact h.sn _ _ h'
    · exact .inr (Nat.le_trans h.kp.size h')
  sm := h.sm
  kp := ⟨q.os.trans h.kp.os, q.tape.trans h.kp.tape, q.output.trans h.kp.output, Nat.le_trans h.kp.size q.size,
    fun b hb hm => (q.block b (Nat.lt_of_lt_of_le hb h.kp.size)).trans (h.kp.block b hb hm)⟩
  df := h.df
  gl := fun g v hv => vrep_mono (h.le_quiet q).nok (fun _ => rfl) (h.gl g v hv)
  nd := h.nd
  pk := h.pk

/-! ### Slots -/
theorem getL_eq : ∀ (l : List V) (n : Nat), getL l n = (l[n]?).getD .undef
  | [], n => by simp [getL]
  | x :: l, 0 => by simp [getL]
  | x :: l, n + 1 => by simp [getL, getL_eq l n]

theorem setL_eq : ∀ (l : List V) (n : Nat) (v : V), setL l n v = l.set n v
  | [], n, v => by simp [setL]
  | x :: l, 0, v => by simp [setL]
  | x :: l, n + 1, v => by simp [setL, setL_eq l n v]

theorem vrepL_set {E : Env} {l : List V} {vs : List Value} (h : vrepL E l vs) (n : Nat) {v : V} {c : Value} (hv : vrep E v c) : vrepL E (l.set n v) (vs.set n c) := by
  refine vrepL_of (by simp [vrepL_len h]) fun i x d hx hd => ?_
  by_cases hn : n = i
  · subst hn
    have hl : n < l.length := by
      rcases Nat.lt_or_ge n l.length with h' | h'
      · exact h'
      · simp [h'] at hx
    have hl' : n < vs.length := by rw [vrepL_len h]; exact hl
    simp [hl] at hx; simp [hl'] at hd
    subst hx; subst hd; exact hv
  · rw [List.getElem?_set_ne hn] at hx hd
    obtain ⟨c', hc', hr⟩ := vrepL_get h hx
    rw [hd] at hc'; cases hc'
    exact hr

theorem vrepL_at {E : Env} {l : List V} {vs : Array Value} (h : vrepL E l vs.toList) (n : Nat) : vrep E (getL l n) (vs.getD n undef) := by
  rw [getL_eq]
  cases hx : l[n]? with
  | none => simp [vrep]
  | some v =>
    obtain ⟨c, hc, hr⟩ := vrepL_get h hx
    simp only [Option.getD_some]
    have : vs[n]? = some c := by simpa using hc
    simp [this, hr]

theorem SimE.put (h : SimE cx fr S κ st a w) (dst : Option Nat) {v : V} {c : Value} (hv : vrep (fr.env S w κ) v c) : SimE cx fr S κ (st.put dst v) (a.put dst c) w := by
  cases dst with
  | none => exact h
  | some d =>
    refine { h with tm := ?_, ob := h.ob, di := h.di, df := h.df, nd := h.nd, pk := h.pk }
    simp only [St.put, St.setT, Act.put, setL_eq]
    have := vrepL_set h.tm d hv
    simpa using this

theorem vrep_undef {E : Env} {c : Value} : vrep E .undef c := by simp [vrep]

/-- to forget what a slot holds -/
theorem SimE.setUndef (h : SimE cx fr S κ st a w) (d : Nat) : SimE cx fr S κ (st.setT d .undef) a w := by
  refine { h with tm := ?_, ob := h.ob, di := h.di, df := h.df, nd := h.nd, pk := h.pk }
  simp only [St.setT, setL_eq]
  have := vrepL_set h.tm d (v := .undef) (c := a.tmps.toList.getD d undef) vrep_undef
  rwa [show a.tmps.toList.set d (a.tmps.toList.getD d undef) = a.tmps.toList from by
    apply List.ext_getElem?
    intro i
    by_cases hi : d = i
    · subst hi
      by_cases hl : d < a.tmps.size
      · rw [List.getElem?_set_self (by simpa using hl)]
        simp [hl]
      · rw [List.getElem?_eq_none (by simpa using hl), List.getElem?_eq_none (by simpa using hl)]
    · rw [List.getElem?_set_ne hi]] at this

/-! ### Operands -/
theorem vrepL_map_val {E : Env} : ∀ (l : List Value), vrepL E (l.map .val) l
  | [] => by simp [vrepL]
  | v :: l => by simp only [List.map_cons, vrepL]; exact ⟨v, l, rfl, vrep_val, vrepL_map_val l⟩

theorem ofValue_rep {E : Env} (v : Value) : vrep E (ofValue v) v := by
  unfold ofValue
  split
  · simp only [vrep]; exact ⟨_, rfl, vrepL_map_val _⟩
  · rename_i f first caps
    split
    · rename_i h1 h2
      simp only [vrep]
      have e1 : first = #[] := by simpa using h1
      have e2 : caps = #[] := by simpa using h2
      subst e1; subst e2
      exact ⟨#[], rfl, by simp [vrepL]⟩
    · exact vrep_val
  · exact vrep_val

theorem vrep_of_nok {E : Env} {v : V} {c : Value} (h : vrep E.nok v c) : vrep E v c := by
  suffices H : (∀ (v : V) (c : Value), vrep E.nok v c → vrep E v c) from H v c h
  intro v c h
  exact go v c h
where
  go : ∀ (v : V) (c : Value), vrep E.nok v c → vrep E v c
  | .undef, c, h => by simp [vrep]
  | .val v, c, h => by simpa [vrep] using h
  | .sl e xs, c, h => by simp only [vrep] at h ⊢; exact h
  | .os id, c, h => by simp [vrep, Env.nok] at h
  | .vref id off, c, h => by simp [vrep, Env.nok] at h
  | .pc cs off, c, h => by simp only [vrep] at h ⊢; exact h
  | .pa e xs, c, h => by simp only [vrep] at h ⊢; exact h
  | .pe id i off, c, h => by simp [vrep, Env.nok] at h
  | .fn f caps, c, h => by
    simp only [vrep] at h ⊢
    obtain ⟨vs, hc, hr⟩ := h
    exact ⟨vs, hc, goL caps vs.toList hr⟩
  | .agg cs, c, h => by
    simp only [vrep] at h ⊢
    obtain ⟨vs, hc, hr⟩ := h
    exact ⟨vs, hc, goL cs vs.toList hr⟩
  | .tup cs, c, h => by
    simp only [vrep] at h ⊢
    obtain ⟨vs, hc, hr⟩ := h
    exact ⟨vs, hc, goL cs vs.toList hr⟩
  | .mb cs, c, h => by simp [vrep] at h
  goL : ∀ (l : List V) (vs : List Value), vrepL E.nok l vs → vrepL E l vs
  | [], vs, h => by simpa [vrepL] using h
  | v :: l, vs, h => by
    simp only [vrepL] at h ⊢
    obtain ⟨c, r, hc, h1, h2⟩ := h
    exact ⟨c, r, hc, go v c h1, goL l r h2⟩

theorem SimE.ev (h : SimE cx fr S κ st a w) (x : Operand) : vrep (fr.env S w κ) (ev cx st x) (a.eval x) := by
  cases x with
  | tmp t => exact vrepL_at h.tm t
  | const v => exact ofValue_rep v
  | global g =>
    simp only [Vm.ev]
    split
    · rename_i v hv
      exact vrep_of_nok (h.gl g v hv)
    · exact vrep_undef
  | func f =>
    simp only [Vm.ev, vrep]
    exact ⟨#[], rfl, by simp [vrepL]⟩

theorem allVal_rep {E : Env} : ∀ {l : List V} {vs cs : List Value}, allVal l = some vs → vrepL E l cs → cs = vs
  | [], vs, cs, h, hv => by simp only [allVal] at h; cases h; simpa [vrepL] using hv
  | v :: l, vs, cs, h, hv => by
    simp only [vrepL] at hv
    obtain ⟨c, r, rfl, h1, h2⟩ := hv
    cases v <;> simp only [allVal] at h <;> try (cases h; done)
    rename_i u
    split at h
    · rename_i us hus
      cases h
      simp only [vrep] at h1
      rw [h1, allVal_rep hus h2]
    · cases h

theorem toVal_rep {E : Env} {v : V} {u c : Value} (h : toVal v = some u) (hv : vrep E v c) : c = u := by
  unfold toVal at h
  split at h
  · cases h; simpa [vrep] using hv
  · split at h
    · rename_i vs hvs
      cases h
      simp only [vrep] at hv
      obtain ⟨cs, rfl, hr⟩ := hv
      have := allVal_rep hvs hr
      congr 1
      apply Array.ext'
      simpa using this
    · cases h
  · cases h

theorem allConv_mem {cx : Ctx} {st : St} : ∀ {l : List Operand}, allConv cx st l = true → ∀ x ∈ l, ∃ u, toVal (ev cx st x) = some u
  | [], _, x, hx => by simp at hx
  | y :: l, h, x, hx => by
    simp only [allConv] at h
    split at h
    · rename_i u hu
      rcases List.mem_cons.mp hx with rfl | hx
      · exact ⟨u, hu⟩
      · exact allConv_mem h x hx
    · cases h

theorem pureRun_run {P : Program} {α : Type} : ∀ {s : Sem α} {x : α}, pureRun P s = some x → ∀ w, s.run P w = .ok x w := by
  intro s
  induction s with
  | pure a => intro x h w; simp only [pureRun] at h; cases h; rfl
  | program k ih => intro x h w; simp only [pureRun] at h; exact ih _ h w
  | mark m k ih => intro x h w; simp only [pureRun] at h; exact ih h w
  | _ => intro x h; simp [pureRun] at h

/-! ### Operations that only set their slot -/
/-- the operation runs, and what it leaves in its slot is what the executor says -/
def FSound (cx : Ctx) (o : Oper) (st : St) (v : V) : Prop :=
  ∀ fr S κ a w, SimE cx fr S κ st a w → ∀ (K : Act → World → Prop) (Q : Exit → Act → World → Prop),
    (∀ c S' w', Quiet S S' w w' → vrep (fr.env S' w' κ) v c → K (a.put o.dst c) w') → o.wp cx.P a w K Q

theorem FSound.of_run {o : Oper} {v : V} (h : ∀ fr S κ a w, SimE cx fr S κ st a w → ∃ c, (execOp a.eval o).run cx.P w = .ok (.value c) w ∧ vrep (fr.env S w κ) v c) :
    FSound cx o st v := fun fr S κ a w hs K Q hK => by
  obtain ⟨c, hr, hv⟩ := h fr S κ a w hs
  unfold Oper.wp
  rw [hr]
  exact hK c S w (Quiet.refl _ _) hv

theorem opPure_sound {o : Oper} {v : V} (h : opPure cx o st = some v) : FSound cx o st v := by
  unfold opPure at h
  split at h
  · cases h
  rename_i hsel
  split at h
  · rename_i hall
    split at h
    · rename_i u hrun
      cases h
      refine FSound.of_run fun fr S κ a w hs => ⟨u, ?_, ofValue_rep u⟩
      rw [← pureRun_run hrun w]
      refine congrArg (fun s => Sem.run cx.P s w) (execOp_congr o (fun cs b he => by rw [he] at hsel; simp [isSelect] at hsel) fun x hx => ?_)
      obtain ⟨u, hu⟩ := allConv_mem hall x (by simpa using hx)
      rw [hu]
      exact toVal_rep hu (hs.ev x)
    · cases h
  · cases h

end Go.Proofs.Vm
