/- Operations that turn objects (own work). -/
import Derived.Test.YtdnjeodgdppjdaaGreatDoorVmObj
import Derived.Laws.AppendOwn
namespace Go.Proofs.Vm
open Go Go.RowKit
set_option linter.unusedVariables false
set_option linter.unusedSimpArgs false

variable {cx : Ctx} {fr : Fr} {S S' : CellSet} {κ κ' : Nat → Option CO} {st st' : St} {a a' : Act} {w w' : World} {R : Type}

/-- the operation, in order, leads from what the state stands for to what the next state stands for -/
def OSound (cx : Ctx) (o : Oper) (st st' : St) : Prop :=
  ∀ fr S κ a w, SimE cx fr S κ st a w → ∀ (K : Act → World → Prop) (Q : Exit → Act → World → Prop),
    (∀ a' w' S' κ', SimE cx fr S' κ' st' a' w' → K a' w') → o.wp cx.P a w K Q

theorem FSound.osound {o : Oper} {v : V} (h : FSound cx o st v) : OSound cx o st (st.put o.dst v) := fun fr S κ a w hs K Q hK =>
  h fr S κ a w hs K Q fun c S' w' hq hv => hK _ _ _ _ ((hs.quiet hq).put o.dst hv)

theorem allOne_single {E : Env} : ∀ {l : List V} {vs : List Value}, allOne l = true → vrepL E l vs → ∀ v ∈ vs, single v
  | [], vs, _, hv => by simp only [vrepL] at hv; subst hv; simp
  | x :: l, vs, h, hv => by
    simp only [allOne] at h
    split at h
    · rename_i h1
      simp only [vrepL] at hv
      obtain ⟨c, r, rfl, h2, h3⟩ := hv
      intro v hm
      rcases List.mem_cons.mp hm with rfl | hm
      · exact one_single h1 h2
      · exact allOne_single h h3 v hm
    · cases h

theorem single_one {v : Value} (h : single v) : v.oneCell' = true := by cases v <;> simp [single] at h <;> rfl

theorem okc_of_allOne {v : V} (h : allOne v.cells = true) : v.okc = true := by
  cases v <;> simp only [V.cells] at h <;> try (simp only [allOne] at h; split at h <;> first | (rename_i h1; simpa [V.okc] using h1) | cases h)
  rename_i cs
  simp only [V.okc]
  have : ∀ l, allOne l = true → V.okc.go l = true := by
    intro l
    induction l with
    | nil => intro _; rfl
    | cons x l ih =>
      intro h
      simp only [allOne, V.okc.go] at h ⊢
      split at h
      · exact ih h
      · cases h
  exact this _ h

theorem box_osound {o : Oper} {e : TypeId} {x : Operand} {d : Nat} (hlt : ¬ (100000 ≤ d ∧ d < 200000)) (ho : o.op = .box e x) (hd : o.dst = some d) (h1 : allOne (ev cx st x).cells = true) :
    OSound cx o st (st.new d (.box (killL d (ev cx st x).cells)) (.vref d 0)) := by
  intro fr S κ a w hs K Q hK
  have hv := okc_cells (okc_of_allOne h1) (hs.ev x)
  obtain ⟨κ', hsim⟩ := hs.newBox d d hlt (e := e) (vs := (a.eval x).cells) hv
  have hrun : (execOp a.eval o).run cx.P w = .ok (.value (.pointer (some ⟨w.heap.size, 0, none⟩))) (w.alloc (.cells (a.eval x).cells e)) := by
    simp [execOp, ho, Instr.box, newVar, newRow]
  unfold Oper.wp
  rw [hrun, Oper.upon_value, hd]
  exact hK _ _ _ _ hsim

theorem alloc_osound {o : Oper} {e : TypeId} {d : Nat} {cs : List V} (hlt : ¬ (100000 ≤ d ∧ d < 200000)) (ho : o.op = .alloc e) (hd : o.dst = some d) (hz : zeroCellsV cx.P e = some cs) :
    OSound cx o st (st.new d (.box cs) (.vref d 0)) := by
  intro fr S κ a w hs K Q hK
  obtain ⟨z, hz1, _, rfl⟩ := zeroCells_run hz
  obtain ⟨κ', hsim⟩ := hs.newBox d d hlt (e := e) (vs := z.cells) (vrepL_map_val _)
  have hkill : killL d (z.cells.toList.map V.val) = z.cells.toList.map V.val := by
    generalize z.cells.toList = l
    induction l with
    | nil => rfl
    | cons x l ih => simp [killL, V.kill, ih]
  rw [hkill] at hsim
  have hrun : (execOp a.eval o).run cx.P w = .ok (.value (.pointer (some ⟨w.heap.size, 0, none⟩))) (w.alloc (.cells z.cells e)) := by
    simp [execOp, ho, Instr.alloc, hz1, newVar, newRow]
  unfold Oper.wp
  rw [hrun, Oper.upon_value, hd]
  exact hK _ _ _ _ hsim

/-! ### Stores -/
theorem kept_setRow (h : Kept fr w) {b : Nat} (hb : fr.base ≤ b ∨ b ∈ fr.M) (vs : Array Value) : Kept fr (w.setRow b vs) :=
  ⟨h.os, h.tape, h.output, by simpa using h.size, fun k hk hm => by
    have hne : k ≠ b := by
      intro e
      rw [e] at hk hm
      rcases hb with hb | hb
      · omega
      · exact hm hb
    exact (setRow_other w b k vs hne).trans (h.block k hk hm)⟩

theorem le_setRow (h : SimE cx fr S κ st a w) {b : Nat} {vs : Array Value} (hS : ∀ o, ¬ S b o) (hb : fr.base ≤ b ∨ b ∈ fr.M) : (fr.env S w κ).Le (fr.env S (w.setRow b vs) κ) where
  S := fun _ _ x => x
  B := fun _ _ x => x
  cS := fun k o x => cell_of_block (setRow_other w b k vs fun e => by subst e; exact hS o x)
  cB := fun k o x => cell_of_block (setRow_other w b k vs fun e => by
    subst e
    rcases x with x | ⟨x, y⟩
    · exact hS o x
    · rcases hb with hb | hb
      · omega
      · exact y hb)

theorem run_storeAt {P : Program} {w : World} {t : TypeId} {b off n : Nat} {v : Value} {cur : Array Value} {el : TypeId} (hs : sizeT P t = some n) (hv : v.cells.size = n)
    (hb : w.heap[b]? = some (.cells cur el (0, 0))) (hl : off + n ≤ cur.size) (h1 : ∀ u ∈ v.cells.toList, single u) :
    (Instr.storeAt t (.pointer (some ⟨b, off, none⟩)) v).run P w = .ok () (w.setRow b (cur.toList.take off ++ v.cells.toList ++ cur.toList.drop (off + n)).toArray) := by
  have := run_storeCells_at P b off el v.cells.toList 0 cur w hb (by simp [hv]; omega) (fun u hu => single_one (h1 u hu))
  simp only [Nat.add_zero, Array.length_toList, hv] at this
  simp [Instr.storeAt, Instr.sureAddr, storeVar, run_sizeOf hs, hv, this]

theorem put_none_undef {d : Option Nat} (h : SimE cx fr S κ st a w) : SimE cx fr S κ (st.put d .undef) (a.put d undef) w := h.put d vrep_undef

theorem storeBox_osound {o : Oper} {t : TypeId} {x y : Operand} {n id off : Nat} {cs cs' : List V} (ho : o.op = .store t x y) (hn : sizeT cx.P t = some n)
    (hx : ev cx st x = .vref id off) (hf : findO st.o id = some (.box cs)) (hl : (ev cx st y).cells.length = n) (h1 : allOne (ev cx st y).cells = true)
    (hov : over cs off (ev cx st y).cells = some cs') : OSound cx o st ({ st with o := setO st.o id (.box cs') }.put o.dst .undef) := by
  intro fr S κ a w hs K Q hK
  have hxv := hs.ev x
  rw [hx] at hxv
  simp only [vrep] at hxv
  obtain ⟨b, hb, hxc⟩ := hxv
  obtain ⟨b', el, vs, e1, e2, e3, e4, e5⟩ := hs.findBox hf
  rw [hb] at e1
  cases e1
  have hyv := okc_cells (okc_of_allOne h1) (hs.ev y)
  have hys := vrepL_len hyv
  have hysz : (a.eval y).cells.size = n := by rw [← hl, ← hys]; simp
  have hle2 := (over_spec hov).2
  have hcl := vrepL_len e3
  have hb2 : w.heap[b]? = some (.cells vs el (0, 0)) := e2
  have hrun := run_storeAt (P := cx.P) (w := w) (t := t) (b := b) (off := off) (v := a.eval y) hn hysz hb2 (by rw [← Array.length_toList, hcl, ← hl]; exact hle2)
    (allOne_single h1 hyv)
  have hrun' : (execOp a.eval o).run cx.P w = .ok .skip (w.setRow b (vs.toList.take off ++ (a.eval y).cells.toList ++ vs.toList.drop (off + n)).toArray) := by
    simp [execOp, ho, hxc, hrun]
  unfold Oper.wp
  rw [hrun', Oper.upon_skip]
  refine hK _ _ S κ (SimE.put (st := { st with o := setO st.o id (.box cs') }) ?_ o.dst vrep_undef)
  have hle := le_setRow hs (b := b) (vs := (vs.toList.take off ++ (a.eval y).cells.toList ++ vs.toList.drop (off + n)).toArray) e4 e5
  refine hs.renew id hle (fun i hi => rfl) (fun i z hz => ?_) (fun i z hz hi c k hc hk => ?_) (fun k o' h' => by simpa using hs.sz k o' h') (fun k o' h' => .inl h') (kept_setRow hs.kp e5 _)
    (vrepL_mono hle (fun _ => rfl) hs.tm) hs.df (by rw [keys_setO]; exact hs.nd) (fun c hc => hs.pk id _ (findO_mem hf) c hc)
  · rcases mem_setO hs.nd hz with ⟨rfl, rfl⟩ | ⟨hi, hm⟩
    · refine .inl ⟨rfl, b, el, _, hb, setRow_heap w b vs _ el (0, 0) hb2, ?_, e4, e5⟩
      have := vrepL_over hov (vrepL_mono hle (fun _ => rfl) e3) (vrepL_mono hle (fun _ => rfl) hyv)
      rw [hys, hl] at this
      simpa using this
    · exact .inr ⟨hi, z, hm, .inl ⟨rfl, rfl⟩⟩
  · have hne : k ≠ b := by
      have := hs.di i z id (.box cs) hz (findO_mem hf) hi c (.box b) k hc hb hk
      simpa [blkOf, eq_comm] using this
    refine ⟨setRow_other w b k _ hne, fun o' h' => h', fun c' hc' hk' => ?_⟩
    have : c' = .box b := by
      have := hc'.symm.trans hb
      simpa using this
    subst this
    simp only [blkOf, Option.some.injEq] at hk'
    exact hne hk'.symm

/-! ### Stores into owned arrays -/
theorem laid_get {α : Type} (vs ys : List α) (n k : Nat) (h : n + ys.length ≤ vs.length) :
    (vs.take n ++ ys ++ vs.drop (n + ys.length))[k]? = if k < n then vs[k]? else if k < n + ys.length then ys[k - n]? else vs[k]? := by
  have hn : (vs.take n).length = n := by simp; omega
  by_cases h1 : k < n
  · rw [if_pos h1, List.append_assoc, List.getElem?_append_left (by omega), List.getElem?_take_of_lt h1]
  · rw [if_neg h1]
    by_cases h2 : k < n + ys.length
    · rw [if_pos h2, List.append_assoc, List.getElem?_append_right (by omega), hn, List.getElem?_append_left (by omega)]
    · rw [if_neg h2, List.getElem?_append_right (by simp; omega), List.getElem?_drop]
      congr 1
      simp
      omega

theorem seg_other {α : Type} (vs ys : List α) (n B wd : Nat) (h : n + ys.length ≤ vs.length) (hB : B + wd ≤ n ∨ n + ys.length ≤ B) :
    (((vs.take n ++ ys ++ vs.drop (n + ys.length)).drop B).take wd) = (vs.drop B).take wd := by
  apply List.ext_getElem?
  intro k
  by_cases hk : k < wd
  · rw [List.getElem?_take_of_lt hk, List.getElem?_take_of_lt hk, List.getElem?_drop, List.getElem?_drop, laid_get _ _ _ _ h]
    split
    · rfl
    · rw [if_neg (by omega)]
  · rw [List.getElem?_take, List.getElem?_take, if_neg hk, if_neg hk]

theorem seg_same {α : Type} (vs ys : List α) (A off wd : Nat) (h : off + ys.length ≤ wd) (hA : A + wd ≤ vs.length) :
    (((vs.take (A + off) ++ ys ++ vs.drop (A + off + ys.length)).drop A).take wd) =
      ((vs.drop A).take wd).take off ++ ys ++ ((vs.drop A).take wd).drop (off + ys.length) := by
  apply List.ext_getElem?
  intro k
  rw [laid_get ((vs.drop A).take wd) ys off k (by simp; omega)]
  by_cases hk : k < wd
  · rw [List.getElem?_take_of_lt hk, List.getElem?_drop, laid_get _ _ _ _ (by omega), List.getElem?_take_of_lt hk, List.getElem?_drop]
    by_cases h1 : k < off
    · rw [if_pos (by omega), if_pos h1]
    · rw [if_neg (by omega), if_neg h1]
      by_cases h2 : k < off + ys.length
      · rw [if_pos (by omega), if_pos h2]
        congr 1
        omega
      · rw [if_neg (by omega), if_neg h2]
  · rw [List.getElem?_take, if_neg hk, if_neg (by omega), if_neg (by omega), List.getElem?_take, if_neg hk]

theorem rep_single {S : CellSet} {w : World} : ∀ {t : Ty} {x : t.den} {cs : List Value}, rep S w t x cs → ∀ v ∈ cs, single v
  | .int k, x, cs, h => by simp only [rep] at h; subst h; simp [single]
  | .bool, x, cs, h => by simp only [rep] at h; subst h; simp [single]
  | .str, x, cs, h => by simp only [rep] at h; subst h; simp [single]
  | .unit, x, cs, h => by simp only [rep] at h; subst h; simp
  | .pair a b, x, cs, h => by
    obtain ⟨c1, c2, rfl, h1, h2⟩ := h
    intro v hv
    rcases List.mem_append.mp hv with hv | hv
    · exact rep_single h1 v hv
    · exact rep_single h2 v hv
  | .sl e, x, cs, h => by obtain ⟨ad, cap, rfl, _⟩ := h; simp [single]

theorem storePe_osound {o : Oper} {t : TypeId} {x y : Operand} {n id i off : Nat} {e : Ty} {xs : List e.den} {cs' : List V} {x' : e.den} (ho : o.op = .store t x y) (hn : sizeT cx.P t = some n)
    (hx : ev cx st x = .pe id i off) (hf : findO st.o id = some (.arr e xs true)) (hl : (ev cx st y).cells.length = n) (h1 : allOne (ev cx st y).cells = true)
    (hov : over (flat e (xs.getD i e.dflt)) off (thawL st (ev cx st y).cells) = some cs') (hu : unflatAll e cs' = some x') :
    OSound cx o st ({ st with o := setO st.o id (.arr e (xs.set i x') true) }.put o.dst .undef) := by
  intro fr S κ a w hs K Q hK
  have hxv := hs.ev x
  rw [hx] at hxv
  simp only [vrep] at hxv
  obtain ⟨ad, n', cap', wd, hk, hi, hxc⟩ := hxv
  obtain ⟨ad0, cap, e1, e2, e3, e4⟩ := hs.findArr hf
  rw [hk] at e1
  simp only [Option.some.injEq, CO.arr.injEq] at e1
  obtain ⟨rfl, rfl, rfl, rfl⟩ := e1
  obtain ⟨el, vs, ha, hh, hsz, hbase, hS1, hS2, hel⟩ := e4 ad rfl
  have hnS : ∀ o, ¬ S ad.block o := fun o h => by have := (hS1 o h).1; cases this
  have hyv := okc_cells (okc_of_allOne h1) (hs.ev y)
  have hys := vrepL_len hyv
  have hysz : (a.eval y).cells.size = n := by rw [← hl, ← hys]; simp
  have hyl : (a.eval y).cells.toList.length = n := by simpa using hysz
  have hxi := getD_some (d := e.dflt) hi
  have hreps := hel i _ hxi
  have hlen := rep_len hreps
  have hov2 := over_spec hov
  have hfl : (flat e (xs.getD i e.dflt)).length = e.width := by
    have := vrepL_len (flat_rep (E := fr.env S w κ) hreps)
    rw [← this, hlen]
  have hthl : (thawL st (ev cx st y).cells).length = n := by
    have := vrepL_len (thawL_rep hs hyv)
    rw [← this, hyl]
  have hofw : off + n ≤ e.width := by have := hov2.2; rw [hfl, hthl] at this; exact this
  have hb2 : w.heap[ad.block]? = some (.cells vs el (0, 0)) := hh
  have hiw : i * e.width + e.width ≤ vs.size := by
    rw [hsz]
    have : (i + 1) * e.width ≤ cap' * e.width := Nat.mul_le_mul_right _ (Nat.lt_of_lt_of_le hi e2)
    rwa [Nat.succ_mul] at this
  have hrun := run_storeAt (P := cx.P) (w := w) (t := t) (b := ad.block) (off := i * e.width + off) (v := a.eval y) hn hysz hb2 (by omega) (allOne_single h1 hyv)
  have hrun' : (execOp a.eval o).run cx.P w = .ok .skip (w.setRow ad.block (vs.toList.take (i * e.width + off) ++ (a.eval y).cells.toList ++ vs.toList.drop (i * e.width + off + n)).toArray) := by
    simp [execOp, ho, hxc, hrun]
  unfold Oper.wp
  rw [hrun', Oper.upon_skip]
  refine hK _ _ S κ (SimE.put (st := { st with o := setO st.o id (.arr e (xs.set i x') true) }) ?_ o.dst vrep_undef)
  have hle := le_setRow hs (b := ad.block) (vs := (vs.toList.take (i * e.width + off) ++ (a.eval y).cells.toList ++ vs.toList.drop (i * e.width + off + n)).toArray) hnS (.inl hbase)
  refine hs.renew id hle (fun i hi => rfl) (fun j z hz => ?_) (fun j z hz hj c k hc hk' => ?_) (fun k o' h' => by simpa using hs.sz k o' h') (fun k o' h' => .inl h') (kept_setRow hs.kp (.inl hbase) _)
    (vrepL_mono hle (fun _ => rfl) hs.tm) hs.df (by rw [keys_setO]; exact hs.nd) (fun c hc => hs.pk id _ (findO_mem hf) c hc)
  · rcases mem_setO hs.nd hz with ⟨rfl, rfl⟩ | ⟨hj, hm⟩
    · refine .inl ⟨rfl, some ad, cap', ?_, ?_, fun h => (by cases h), fun b hb => ?_⟩
      · show κ j = _
        rw [List.length_set]; exact hk
      · rw [List.length_set]; exact e2
      · cases hb
        refine ⟨el, _, ha, setRow_heap w ad.block vs _ el (0, 0) hb2, ?_, hbase, fun o h => absurd h (hnS o), fun h => (by cases h), fun k z hz => ?_⟩
        · simp [hyl, hsz]
          have : i * e.width + e.width ≤ cap' * e.width := by rw [← hsz]; exact hiw
          omega
        · have hz' : (xs.set i x')[k]? = some z := hz
          have hmain : rep S w e z ((((vs.toList.take (i * e.width + off) ++ (a.eval y).cells.toList ++ vs.toList.drop (i * e.width + off + n))).drop (k * e.width)).take e.width) := by
            by_cases hki : k = i
            · subst hki
              rw [List.getElem?_set_self hi] at hz'
              cases hz'
              have hseg := seg_same vs.toList (a.eval y).cells.toList (k * e.width) off e.width (by rw [hyl]; exact hofw) (by simpa using hiw)
              rw [hyl] at hseg
              rw [hseg]
              have := vrepL_over hov (flat_rep (E := fr.env S w κ) hreps) (thawL_rep hs hyv)
              rw [hyl] at this
              exact unflatAll_rep hu this
            · rw [List.getElem?_set_ne (fun h => hki h.symm)] at hz'
              have hseg := seg_other vs.toList (a.eval y).cells.toList (i * e.width + off) (k * e.width) e.width (by rw [hyl]; simp; omega) (by
                rcases Nat.lt_or_gt_of_ne hki with h' | h'
                · left
                  have : (k + 1) * e.width ≤ i * e.width := Nat.mul_le_mul_right _ h'
                  rw [Nat.succ_mul] at this; omega
                · right
                  have : (i + 1) * e.width ≤ k * e.width := Nat.mul_le_mul_right _ h'
                  rw [Nat.succ_mul] at this; rw [hyl]; omega)
              rw [hyl] at hseg
              rw [hseg]
              exact hel k z hz'
          have h2 : rep (fr.env S w κ).S (fr.env S w κ).w e z _ := hmain
          exact rep_mono hle.S hle.cS (by simpa using h2)
    · exact .inr ⟨hj, z, hm, .inl ⟨rfl, rfl⟩⟩
  · have hne : k ≠ ad.block := by
      have := hs.di j z id (.arr e xs true) hz (findO_mem hf) hj c _ k hc hk hk'
      simpa [blkOf, eq_comm] using this
    refine ⟨setRow_other w ad.block k _ hne, fun o' h' => h', fun c' hc' hk2 => ?_⟩
    have := hc'.symm.trans hk
    simp only [Option.some.injEq] at this
    subst this
    simp only [blkOf, Option.some.injEq] at hk2
    exact hne hk2.symm

/-! ### make -/
theorem sameOperand_eval {x y : Operand} (h : sameOperand x y = true) (a : Act) : a.eval y = a.eval x := by
  unfold sameOperand at h
  split at h
  · rw [beq_true h]
  · simp only [Bool.and_eq_true] at h
    have h1 := kindEq_eq h.1
    have h2 := eq_of_beq h.2
    rw [h1, h2]
  · cases h

/-- a row of equal elements -/
theorem range_map_get (z : Array Value) (n j : Nat) (h : j < n) : ((Array.range n).map fun i => z[i % z.size]!).toList[j]? = some (z[j % z.size]!) := by
  simp [h]

theorem rows_piece (z : Array Value) (wd m i : Nat) (hz : z.size = wd) (hi : i < m) : ((((Array.range (m * wd)).map fun i => z[i % z.size]!).toList.drop (i * wd)).take wd) = z.toList := by
  have hle : i * wd + wd ≤ m * wd := by
    have : (i + 1) * wd ≤ m * wd := Nat.mul_le_mul_right _ hi
    rwa [Nat.succ_mul] at this
  apply List.ext_getElem?
  intro k
  by_cases hk : k < wd
  · rw [List.getElem?_take_of_lt hk, List.getElem?_drop, range_map_get _ _ _ (by omega), hz]
    have : (i * wd + k) % wd = k := by rw [Nat.add_comm, Nat.add_mul_mod_self_right, Nat.mod_eq_of_lt hk]
    rw [this]
    have hk' : k < z.size := by omega
    simp [hk']
  · rw [List.getElem?_take, if_neg hk, List.getElem?_eq_none (by simp; omega)]

theorem rep_zero {E : Env} {t : Ty} {x : t.den} {z : Value} (h : unflatAll t (z.cells.toList.map .val) = some x) : rep E.S E.w t x z.cells.toList :=
  unflatAll_rep h (vrepL_map_val _)

theorem makeSlice_osound {o : Oper} {t e : TypeId} {l c : Operand} {d : Nat} {ty : Ty} {inf : TypeInfo} {ik : IntKind} {n : Int} {z : List V} {x0 : ty.den} (hlt : ¬ (100000 ≤ d ∧ d < 200000)) (ho : o.op = .makeSlice t l c) (hd : o.dst = some d)
    (hlc : sameOperand l c = true) (hu : cx.P.underlying t = some (.slice e)) (hi : cx.P.info? e = some inf) (hl : ev cx st l = .val (.int ik n)) (hz : zeroCellsV cx.P e = some z)
    (hw : inf.size = ty.width) (hx : unflatAll ty z = some x0) (h0 : 0 ≤ n) (h1 : n * (inf.bytes + 1) ≤ (roomB : Int)) :
    OSound cx o st (st.new d (.arr ty (List.replicate n.toNat x0) true) (.os d)) := by
  intro fr S κ a w hs K Q hK
  have hlv := hs.ev l
  rw [hl] at hlv
  simp only [vrep] at hlv
  obtain ⟨zv, hz1, ⟨i', hi', hiz⟩, rfl⟩ := zeroCells_run hz
  rw [hi] at hi'; cases hi'
  have hzl : zv.cells.size = ty.width := by
    have := unflatAll_len hx
    simpa using this
  have hb : n ≤ (roomB : Int) ∧ (inf.bytes : Int) * n ≤ (roomB : Int) := by
    have e1 : n * ((inf.bytes : Int) + 1) = (inf.bytes : Int) * n + n := by rw [Int.mul_add, Int.mul_one, Int.mul_comm]
    have e2 : 0 ≤ (inf.bytes : Int) * n := Int.mul_nonneg (by omega) h0
    omega
  have hrm : (roomB : Int) = 70368744177664 := by unfold roomB; rfl
  have hwrap : IntKind.i64.wrap n = n := by
    unfold IntKind.wrap
    simp [IntKind.bits, IntKind.signed]
    omega
  have hn : ((n.toNat : Nat) : Int) = n := Int.toNat_of_nonneg h0
  have htl : ¬ (281474976710656 < (inf.bytes : Int) * n) := by omega
  let zs : Array Value := if n.toNat * inf.size = 0 then #[] else zv.cells
  have hrun : (execOp a.eval o).run cx.P w = .ok (.value (.slice (some ⟨w.heap.size, 0, none⟩) n.toNat n.toNat))
      (w.alloc (.cells ((Array.range (n.toNat * inf.size)).map fun i => zs[i % zs.size]!) e)) := by
    simp only [execOp, ho, Instr.makeSlice, hlv, sameOperand_eval hlc a]
    by_cases hz0 : n.toNat * inf.size = 0
    · simp [run_underlying hu, asInt, asIntOf, typeInfo, hi, hwrap, sizeOf, newRow, zs, hz0]
      have : ¬ n < 0 := by omega
      simp [this, htl]
    · simp [run_underlying hu, asInt, asIntOf, typeInfo, hi, hwrap, sizeOf, newRow, zs, hz0, hz1]
      have : ¬ n < 0 := by omega
      simp [this, htl]
  unfold Oper.wp
  rw [hrun, Oper.upon_value, hd]
  refine hK _ _ S (fun i => if i = d then some (CO.arr (some ⟨w.heap.size, 0, none⟩) n.toNat n.toNat ty.width) else κ i) ?_
  refine hs.newObj d (co := .arr (some ⟨w.heap.size, 0, none⟩) n.toNat n.toNat ty.width) (le_alloc0 hs) (fun b hb => Below.heap_alloc _ _ _ hb) (fun b o x => .inl x) (by simp)
    (fun b hb => by simp [blkOf] at hb; omega) ?_ ?_ (kept_alloc hs.kp _) d hlt
  · have hlen : (List.replicate n.toNat x0).length = n.toNat := by simp
    refine ⟨some ⟨w.heap.size, 0, none⟩, n.toNat, by simp [Fr.env], by simp, fun h => (by cases h), fun b hb => ?_⟩
    cases hb
    refine ⟨e, _, rfl, by simp [Fr.env, World.alloc, -World.alloc_eq]; rfl, by simp [hw], hs.kp.size, fun o ho' => absurd (hs.sz _ _ ho') (Nat.lt_irrefl _), fun h => (by cases h), fun i x hx' => ?_⟩
    have hx'' : (List.replicate n.toNat x0)[i]? = some x := hx'
    have hil : i < n.toNat := by
      rcases Nat.lt_or_ge i n.toNat with h' | h'
      · exact h'
      · rw [List.getElem?_eq_none (by simpa using h')] at hx''; cases hx''
    rw [List.getElem?_replicate_of_lt hil] at hx''
    cases hx''
    rw [hw]
    by_cases hw0 : ty.width = 0
    · have e0 : ∀ l : List Value, l.take ty.width = [] := fun l => by rw [hw0]; rfl
      rw [e0]
      have e1 : zv.cells.toList = [] := List.length_eq_zero_iff.mp (by rw [Array.length_toList, hzl, hw0])
      rw [← e1]
      exact rep_zero hx
    · have hzs : zs = zv.cells := by
        have : ¬ (n.toNat * inf.size = 0) := by
          rw [hw]
          intro h
          rcases Nat.mul_eq_zero.mp h with h | h <;> omega
        simp [zs, this]
      rw [hzs, rows_piece zv.cells ty.width n.toNat i hzl hil]
      exact rep_zero hx
  · simp [vrep, Fr.env]

/-- a literal without parts is an owned array -/
theorem build0_osound {o : Oper} {t e : TypeId} {parts : Array (Nat × Operand)} {d n : Nat} {ty : Ty} (hlt : ¬ (100000 ≤ d ∧ d < 200000)) (ho : o.op = .buildSlice t 0 parts) (hd : o.dst = some d)
    (hp : parts.toList = []) (hu : cx.P.underlying t = some (.slice e)) (hn : sizeT cx.P e = some n) (hw : n = ty.width) :
    OSound cx o st (st.new d (.arr ty [] false) (.os d)) := by
  intro fr S κ a w hs K Q hK
  have hp' : parts = #[] := by
    apply Array.ext'
    simpa using hp
  have hrun : (execOp a.eval o).run cx.P w = .ok (.value (.slice (some ⟨w.heap.size, 0, none⟩) 0 0)) (w.alloc (.cells #[] e)) := by
    simp only [execOp, ho, Instr.buildSlice, hp']
    have e0 : Array.map (fun _ => (default : Value)) (Array.range 0) = #[] := by simp
    simp [run_underlying hu, run_sizeOf hn, newRow, Instr.fill, e0]
  unfold Oper.wp
  rw [hrun, Oper.upon_value, hd]
  refine hK _ _ S (fun i => if i = d then some (CO.arr (some ⟨w.heap.size, 0, none⟩) 0 0 ty.width) else κ i) ?_
  refine hs.newObj d (co := .arr (some ⟨w.heap.size, 0, none⟩) 0 0 ty.width) (le_alloc0 hs) (fun b hb => Below.heap_alloc _ _ _ hb) (fun b o x => .inl x) (by simp)
    (fun b hb => by simp [blkOf] at hb; omega) ?_ ?_ (kept_alloc hs.kp _) d hlt
  · refine ⟨some ⟨w.heap.size, 0, none⟩, 0, by simp [Fr.env], by simp, fun h => (by cases h), fun b hb => ?_⟩
    cases hb
    refine ⟨e, _, rfl, by simp [Fr.env, World.alloc, -World.alloc_eq]; rfl, by simp, hs.kp.size, fun o ho' => absurd (hs.sz _ _ ho') (Nat.lt_irrefl _), fun _ o ho' => ?_, fun i x hx' => ?_⟩
    · simp at ho'
    · have : ([] : List ty.den)[i]? = some x := hx'
      simp at this
  · simp [vrep, Fr.env]

end Go.Proofs.Vm
