/- Objects: made, turned, forgotten (own work). -/
import Derived.Test.YtdnjeodgdppjdaaGreatDoorVmF
namespace Go.Proofs.Vm
open Go Go.RowKit
set_option linter.unusedVariables false
set_option linter.unusedSimpArgs false

variable {cx : Ctx} {fr : Fr} {S S' : CellSet} {κ κ' : Nat → Option CO} {st st' : St} {a a' : Act} {w w' : World} {R : Type}

/-! ### Lists of objects -/
theorem mem_setO {o : List (Nat × VObj)} {n : Nat} {y : VObj} (hd : (o.map (·.1)).Nodup) : ∀ {i : Nat} {x : VObj}, (i, x) ∈ setO o n y → (i = n ∧ x = y) ∨ (i ≠ n ∧ (i, x) ∈ o) := by
  induction o with
  | nil => intro i x h; simp [setO] at h
  | cons p o ih =>
    obtain ⟨j, z⟩ := p
    intro i x h
    simp only [List.map_cons, List.nodup_cons] at hd
    simp only [setO] at h
    split at h
    · rename_i hb
      have hb := beq_true hb
      rcases List.mem_cons.mp h with h | h
      · cases h; exact .inl ⟨hb, rfl⟩
      · refine .inr ⟨fun e => hd.1 ?_, List.mem_cons_of_mem _ h⟩
        rw [hb, ← e]
        exact List.mem_map.mpr ⟨(i, x), h, rfl⟩
    · rename_i hb
      rcases List.mem_cons.mp h with h | h
      · cases h
        refine .inr ⟨fun e => ?_, List.mem_cons_self⟩
        rw [e] at hb
        simp at hb
      · rcases ih hd.2 h with h | ⟨h1, h2⟩
        · exact .inl h
        · exact .inr ⟨h1, List.mem_cons_of_mem _ h2⟩

theorem keys_setO (o : List (Nat × VObj)) (n : Nat) (y : VObj) : (setO o n y).map (·.1) = o.map (·.1) := by
  induction o with
  | nil => rfl
  | cons p o ih =>
    obtain ⟨j, z⟩ := p
    simp only [setO]
    split <;> simp [ih]

theorem mem_dropO {o : List (Nat × VObj)} {n : Nat} : ∀ {i : Nat} {x : VObj}, (i, x) ∈ dropO o n → i ≠ n ∧ (i, x) ∈ o := by
  induction o with
  | nil => intro i x h; simp [dropO] at h
  | cons p o ih =>
    obtain ⟨j, z⟩ := p
    intro i x h
    simp only [dropO] at h
    split at h
    · obtain ⟨h1, h2⟩ := ih h
      exact ⟨h1, List.mem_cons_of_mem _ h2⟩
    · rename_i hb
      rcases List.mem_cons.mp h with h | h
      · cases h
        exact ⟨fun e => by rw [e] at hb; simp at hb, List.mem_cons_self⟩
      · obtain ⟨h1, h2⟩ := ih h
        exact ⟨h1, List.mem_cons_of_mem _ h2⟩

theorem nodup_dropO {o : List (Nat × VObj)} {n : Nat} (h : (o.map (·.1)).Nodup) : ((dropO o n).map (·.1)).Nodup := by
  induction o with
  | nil => simp [dropO]
  | cons p o ih =>
    obtain ⟨j, z⟩ := p
    simp only [List.map_cons, List.nodup_cons] at h
    simp only [dropO]
    split
    · exact ih h.2
    · simp only [List.map_cons, List.nodup_cons]
      refine ⟨fun hm => h.1 ?_, ih h.2⟩
      obtain ⟨q, hq, e⟩ := List.mem_map.mp hm
      obtain ⟨q1, q2⟩ := q
      have := (mem_dropO hq).2
      exact List.mem_map.mpr ⟨_, this, e⟩

/-- an object without references to another one -/
def killX (id : Nat) : VObj → VObj
  | .box cs => .box (killL id cs)
  | x => x

theorem mem_killO {id : Nat} {o : List (Nat × VObj)} : ∀ {i : Nat} {x : VObj}, (i, x) ∈ killO id o → ∃ y, (i, y) ∈ o ∧ x = killX id y := by
  induction o with
  | nil => intro i x h; simp [killO] at h
  | cons p o ih =>
    obtain ⟨j, z⟩ := p
    intro i x h
    cases z with
    | box cs =>
      simp only [killO] at h
      rcases List.mem_cons.mp h with h | h
      · cases h; exact ⟨.box cs, List.mem_cons_self, rfl⟩
      · obtain ⟨y, h1, h2⟩ := ih h
        exact ⟨y, List.mem_cons_of_mem _ h1, h2⟩
    | arr e xs wr =>
      simp only [killO] at h
      rcases List.mem_cons.mp h with h | h
      · cases h; exact ⟨.arr e xs wr, List.mem_cons_self, rfl⟩
      · obtain ⟨y, h1, h2⟩ := ih h
        exact ⟨y, List.mem_cons_of_mem _ h1, h2⟩

theorem keys_killO (id : Nat) (o : List (Nat × VObj)) : (killO id o).map (·.1) = o.map (·.1) := by
  induction o with
  | nil => rfl
  | cons p o ih =>
    obtain ⟨j, z⟩ := p
    cases z <;> simp [killO, ih]

/-! ### Objects that are not touched -/
theorem orep_blk {E : Env} {i : Nat} {x : VObj} (h : orep fr E i x) : ∃ c, E.κ i = some c ∧ ∀ b, blkOf c = some b → b < E.w.heap.size ∧ (fr.base ≤ b ∨ b ∈ fr.M) := by
  cases x with
  | box cs =>
    obtain ⟨b, el, vs, h1, h2, h3, h4, h5⟩ := h
    exact ⟨_, h1, fun b' hb' => by simp only [blkOf, Option.some.injEq] at hb'; subst hb'; exact ⟨heap_lt h2, h5⟩⟩
  | arr e xs wr =>
    obtain ⟨ad, cap, h1, h2, h3, h4⟩ := h
    refine ⟨_, h1, fun b hb => ?_⟩
    cases ad with
    | none => simp [blkOf] at hb
    | some ad =>
      simp only [blkOf, Option.some.injEq] at hb
      subst hb
      obtain ⟨el, vs, _, hh, _, hb, _⟩ := h4 ad rfl
      exact ⟨heap_lt hh, .inl hb⟩

theorem orep_keep {i : Nat} {x y : VObj} (h : orep fr (fr.env S w κ) i x) (hle : (fr.env S w κ).Le (fr.env S' w' κ')) (hk : κ' i = κ i)
    (hb : ∀ c b, κ i = some c → blkOf c = some b → w'.heap[b]? = w.heap[b]? ∧ ∀ o, S' b o → S b o)
    (hy : (x = y ∧ ∀ j, κ' j = κ j) ∨ ∃ id, y = killX id x ∧ ∀ j, j ≠ id → κ' j = κ j) : orep fr (fr.env S' w' κ') i y := by
  cases x with
  | box cs =>
    obtain ⟨b, el, vs, h1, h2, h3, h4, h5⟩ := h
    obtain ⟨e1, e2⟩ := hb _ b h1 rfl
    have hv : ∃ cs', y = .box cs' ∧ vrepL (fr.env S' w' κ') cs' vs.toList := by
      rcases hy with ⟨rfl, hk'⟩ | ⟨id, rfl, hk'⟩
      · exact ⟨cs, rfl, vrepL_mono hle hk' h3⟩
      · exact ⟨_, rfl, vrepL_kill hle hk' h3⟩
    obtain ⟨cs', rfl, hv⟩ := hv
    exact ⟨b, el, vs, hk.trans h1, e1.trans h2, hv, fun o ho => h4 o (e2 o ho), h5⟩
  | arr e xs wr =>
    have hy' : y = .arr e xs wr := by
      rcases hy with ⟨rfl, _⟩ | ⟨id, rfl, _⟩ <;> rfl
    subst hy'
    obtain ⟨ad, cap, h1, h2, h3, h4⟩ := h
    refine ⟨ad, cap, hk.trans h1, h2, h3, fun x hx => ?_⟩
    obtain ⟨el, vs, ha, hh, hs, hbs, hS1, hS2, he⟩ := h4 x hx
    obtain ⟨e1, e2⟩ := hb _ x.block h1 (by rw [hx]; rfl)
    exact ⟨el, vs, ha, e1.trans hh, hs, hbs, fun o ho => hS1 o (e2 o ho), fun hw o ho => hle.S _ _ (hS2 hw o ho), fun i y hy => rep_mono hle.S hle.cS (he i y hy)⟩

/-! ### One object is turned, or made anew -/
theorem SimE.renew (h : SimE cx fr S κ st a w) (id : Nat) (hle : (fr.env S w κ).Le (fr.env S' w' κ')) (hk : ∀ i, i ≠ id → κ' i = κ i)
    (hn : ∀ i x, (i, x) ∈ st'.o → (i = id ∧ orep fr (fr.env S' w' κ') id x) ∨ (i ≠ id ∧ ∃ y, (i, y) ∈ st.o ∧ ((x = y ∧ κ' id = κ id) ∨ x = killX id y)))
    (hoth : ∀ i x, (i, x) ∈ st.o → i ≠ id → ∀ c b, κ i = some c → blkOf c = some b → w'.heap[b]? = w.heap[b]? ∧ (∀ o, S' b o → S b o) ∧ ∀ c', κ' id = some c' → blkOf c' ≠ some b)
    (hsz : ∀ b o, S' b o → b < w'.heap.size) (hsn : ∀ b o, S' b o → S b o ∨ fr.base ≤ b) (kp : Kept fr w')
    (tm : vrepL (fr.env S' w' κ') st'.t a'.tmps.toList) (df : a'.defers = []) (nd : (st'.o.map (·.1)).Nodup)
    (hpk : ∀ c, fr.K0 id = some c → κ' id = some c) : SimE cx fr S' κ' st' a' w' where
  tm := tm
  ob := fun i x hx => by
    rcases hn i x hx with ⟨rfl, ho⟩ | ⟨hi, y, hy, hxy⟩
    · exact ho
    · refine orep_keep (h.ob i y hy) hle (hk i hi) (fun c b hc hb => ⟨(hoth i y hy hi c b hc hb).1, (hoth i y hy hi c b hc hb).2.1⟩) ?_
      rcases hxy with ⟨rfl, hid⟩ | rfl
      · exact .inl ⟨rfl, fun j => by by_cases hj : j = id; · rw [hj]; exact hid
                                     · exact hk j hj⟩
      · exact .inr ⟨id, rfl, hk⟩
  di := fun i x j y hx hy hij c d b hc hd hbc hbd => by
    by_cases hi : i = id
    · subst hi
      rcases hn j y hy with ⟨e, _⟩ | ⟨hj, y', hy', _⟩
      · exact hij e.symm
      · rw [hk j hj] at hd
        exact (hoth j y' hy' hj d b hd hbd).2.2 c hc hbc
    · rcases hn i x hx with ⟨e, _⟩ | ⟨_, x', hx', _⟩
      · exact hi e
      · rw [hk i hi] at hc
        by_cases hj : j = id
        · subst hj
          exact (hoth i x' hx' hi c b hc hbc).2.2 d hd hbd
        · rcases hn j y hy with ⟨e, _⟩ | ⟨_, y', hy', _⟩
          · exact hj e
          · rw [hk j hj] at hd
            exact h.di i x' j y' hx' hy' hij c d b hc hd hbc hbd
  sz := hsz
  s0 := fun b o x => hle.S _ _ (h.s0 _ _ x)
  sn := fun b o x => by
    rcases hsn b o x with h' | h'
    · exact h.sn _ _ h'
    · exact .inr h'
  sm := h.sm
  kp := kp
  df := df
  gl := fun g v hv => vrep_mono hle.nok (fun _ => rfl) (h.gl g v hv)
  nd := nd
  pk := fun i x hx c hc => by
    rcases hn i x hx with ⟨rfl, _⟩ | ⟨hi, y, hy, _⟩
    · exact hpk c hc
    · exact (hk i hi).trans (h.pk i y hy c hc)

theorem kept_alloc (h : Kept fr w) (o : Obj) : Kept fr (w.alloc o) :=
  ⟨h.os, h.tape, h.output, by have := h.size; simp; omega, fun b hb hm => (Below.heap_alloc _ _ _ (Nat.lt_of_lt_of_le hb h.size)).trans (h.block b hb hm)⟩

/-- a new object under a slot's number -/
theorem SimE.newObj (h : SimE cx fr S κ st a w) (d : Nat) {ob : VObj} {v : V} {c : Value} {co : CO} {w' : World} (hle : (fr.env S w κ).Le (fr.env S' w' fun i => if i = d then some co else κ i))
    (hq : ∀ b, b < w.heap.size → w'.heap[b]? = w.heap[b]?) (hS : ∀ b o, S' b o → S b o ∨ (w.heap.size ≤ b ∧ b < w'.heap.size)) (hsz : w.heap.size ≤ w'.heap.size)
    (hco : ∀ b, blkOf co = some b → w.heap.size ≤ b) (ho : orep fr (fr.env S' w' fun i => if i = d then some co else κ i) d ob)
    (hv : vrep (fr.env S' w' fun i => if i = d then some co else κ i) v c) (kp : Kept fr w') (s : Nat)
    (hd : ¬ (100000 ≤ d ∧ d < 200000)) : SimE cx fr S' (fun i => if i = d then some co else κ i) { t := setL (st.kill d).t s v, o := (d, ob) :: (st.kill d).o } (a.put (some s) c) w' := by
  refine h.renew d hle (fun i hi => by simp [hi]) (fun i x hx => ?_) (fun i x hx hi c' b hc hb => ?_) (fun b o hb => ?_) (fun b o hb => ?_) kp ?_ h.df ?_ (fun c hc => absurd (fr.hK0 d c hc).1 hd)
  · rcases List.mem_cons.mp hx with hx | hx
    · cases hx; exact .inl ⟨rfl, ho⟩
    · obtain ⟨y, hy, rfl⟩ := mem_killO hx
      obtain ⟨h1, h2⟩ := mem_dropO hy
      exact .inr ⟨h1, y, h2, .inr rfl⟩
  · obtain ⟨c'', h1, h2⟩ := orep_blk (h.ob i x hx)
    have e : c'' = c' := by
      have := h1.symm.trans hc
      simpa using this
    subst e
    have hlt := (h2 b hb).1
    refine ⟨hq b hlt, fun o ho => ?_, fun c1 hc1 hb1 => ?_⟩
    · rcases hS b o ho with h' | ⟨h', _⟩
      · exact h'
      · exact absurd hlt (Nat.not_lt.mpr h')
    · simp at hc1
      subst hc1
      exact absurd hlt (Nat.not_lt.mpr (hco b hb1))
  · rcases hS b o hb with h' | ⟨_, h'⟩
    · exact Nat.lt_of_lt_of_le (h.sz _ _ h') hsz
    · exact h'
  · rcases hS b o hb with h' | ⟨h', _⟩
    · exact .inl h'
    · exact .inr (Nat.le_trans h.kp.size h')
  · have := vrepL_set (vrepL_kill (id := d) hle (fun i hi => by simp [Fr.env, hi]) h.tm) s hv
    simpa [St.kill, setL_eq, Act.put] using this
  · simp only [St.kill, List.map_cons, List.nodup_cons]
    refine ⟨fun hm => ?_, by rw [keys_killO]; exact nodup_dropO h.nd⟩
    rw [keys_killO] at hm
    obtain ⟨q, hq, e⟩ := List.mem_map.mp hm
    obtain ⟨q1, q2⟩ := q
    exact (mem_dropO hq).1 e

theorem le_alloc (h : SimE cx fr S κ st a w) {n : Nat} {o : Obj} : (fr.env S w κ).Le (fr.env (fun b i => S b i ∨ (b = w.heap.size ∧ i < n)) (w.alloc o) κ') where
  S := fun b o x => .inl x
  B := fun b o x => x.imp .inl id
  cS := fun b o x => cell_of_block (Below.heap_alloc _ _ _ (h.sz _ _ x))
  cB := fun b o x => cell_of_block (Below.heap_alloc _ _ _ (h.b_lt x))

theorem le_alloc0 (h : SimE cx fr S κ st a w) {o : Obj} : (fr.env S w κ).Le (fr.env S (w.alloc o) κ') where
  S := fun b o x => x
  B := fun b o x => x
  cS := fun b o x => cell_of_block (Below.heap_alloc _ _ _ (h.sz _ _ x))
  cB := fun b o x => cell_of_block (Below.heap_alloc _ _ _ (h.b_lt x))

/-- a new box -/
theorem SimE.newBox (h : SimE cx fr S κ st a w) (d s : Nat) (hd : ¬ (100000 ≤ d ∧ d < 200000)) {cs : List V} {vs : Array Value} {e : TypeId} (hv : vrepL (fr.env S w κ) cs vs.toList) :
    ∃ κ', SimE cx fr S κ' { t := setL (st.kill d).t s (.vref d 0), o := (d, .box (killL d cs)) :: (st.kill d).o } (a.put (some s) (.pointer (some ⟨w.heap.size, 0, none⟩))) (w.alloc (.cells vs e)) := by
  refine ⟨_, h.newObj d (co := .box w.heap.size) (le_alloc0 h) (fun b hb => Below.heap_alloc _ _ _ hb) (fun b o x => .inl x) (by simp) (fun b hb => by simp [blkOf] at hb; omega) ?_ ?_ (kept_alloc h.kp _) s hd⟩
  · refine ⟨w.heap.size, e, vs, by simp [Fr.env], by simp [Fr.env, World.alloc, -World.alloc_eq], vrepL_kill (le_alloc0 h) (fun i hi => by simp [Fr.env, hi]) hv, fun o ho => ?_, .inl h.kp.size⟩
    exact absurd (h.sz _ _ ho) (Nat.lt_irrefl _)
  · simp [vrep, Fr.env]

end Go.Proofs.Vm
