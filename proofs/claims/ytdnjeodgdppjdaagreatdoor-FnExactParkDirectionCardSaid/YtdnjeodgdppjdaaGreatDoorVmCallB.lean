/- Calls in order: owned arrays become data, boxes may be handed over (own work). -/
import Derived.Test.YtdnjeodgdppjdaaGreatDoorVmApp
namespace Go.Proofs.Vm
open Go Go.RowKit
set_option linter.unusedVariables false
set_option linter.unusedSimpArgs false

variable {cx : Ctx} {fr : Fr} {S S' : CellSet} {κ κ' : Nat → Option CO} {st st' : St} {a a' : Act} {w w' : World} {R : Type}

/-! ### Owned arrays that may not be written any more -/
theorem SimE.freeze (h : SimE cx fr S κ st a w) {id : Nat} {e : Ty} {xs : List e.den} (hf : findO st.o id = some (.arr e xs true)) :
    ∃ S', (∀ b o, S b o → S' b o) ∧ SimE cx fr S' κ { st with o := setO st.o id (.arr e xs false) } a w := by
  obtain ⟨ad, cap, e1, e2, e3, e4⟩ := h.findArr hf
  let S' : CellSet := grownS S false ad (List.length xs * e.width)
  have hle : (fr.env S w κ).Le (fr.env S' w κ) := ⟨fun b o x => .inl x, fun b o x => x.imp .inl (fun x => x), fun _ _ _ => rfl, fun _ _ _ => rfl⟩
  refine ⟨S', fun b o x => .inl x, h.renew id hle (fun i hi => rfl) (fun i z hz => ?_) (fun i z hz hi c b hc hb => ⟨rfl, fun o ho => ?_, fun c' hc' hb' => ?_⟩) (fun b o hb => ?_) (fun b o hb => ?_) h.kp
    (vrepL_mono hle (fun _ => rfl) h.tm) h.df (by rw [keys_setO]; exact h.nd) (fun c hc => h.pk id _ (findO_mem hf) c hc)⟩
  · rcases mem_setO h.nd hz with ⟨rfl, rfl⟩ | ⟨hi, hm⟩
    · refine .inl ⟨rfl, ad, cap, e1, e2, e3, fun q hq => ?_⟩
      obtain ⟨el, vs, ha, hh, hsz, hbase, hS1, hS2, hel⟩ := e4 q hq
      refine ⟨el, vs, ha, hh, hsz, hbase, fun o ho => ?_, fun _ o ho => .inr ⟨rfl, q, hq, rfl, ho⟩, fun i x hx => rep_mono hle.S hle.cS (hel i x hx)⟩
      rcases ho with ho | ⟨_, q', hq', _, ho⟩
      · have := (hS1 o ho).1; cases this
      · exact ⟨rfl, ho⟩
    · exact .inr ⟨hi, z, hm, .inl ⟨rfl, rfl⟩⟩
  · rcases ho with ho | ⟨_, q, hq, rfl, _⟩
    · exact ho
    · have := h.di i z id _ hz (findO_mem hf) hi c _ q.block hc e1 hb
      rw [hq] at this
      exact absurd rfl this
  · exact h.di i z id _ hz (findO_mem hf) hi c c' b hc hc' hb hb'
  · rcases hb with hb | ⟨_, q, hq, rfl, _⟩
    · exact h.sz _ _ hb
    · obtain ⟨el, vs, ha, hh, _⟩ := e4 q hq
      exact heap_lt hh
  · rcases hb with hb | ⟨_, q, hq, rfl, _⟩
    · exact .inl hb
    · obtain ⟨el, vs, ha, hh, hsz, hbase, _⟩ := e4 q hq
      exact .inr hbase

theorem demoteC_sim : ∀ {vs : List V} {o : List (Nat × VObj)} {S : CellSet}, SimE cx fr S κ { st with o := o } a w → ∃ S', (∀ b o, S b o → S' b o) ∧ SimE cx fr S' κ { st with o := demote.demoteC vs o } a w
  | [], o, S, h => ⟨S, fun _ _ h => h, h⟩
  | v :: vs, o, S, h => by
    cases v with
    | os id =>
      simp only [demote.demoteC]
      split
      · rename_i e xs hf
        obtain ⟨S1, h1, h2⟩ := SimE.freeze (st := { st with o := o }) h hf
        obtain ⟨S2, h3, h4⟩ := demoteC_sim (vs := vs) h2
        exact ⟨S2, fun b o x => h3 _ _ (h1 _ _ x), h4⟩
      · exact demoteC_sim h
    | _ => simp only [demote.demoteC]; exact demoteC_sim h

theorem demote_sim : ∀ {vs : List V} {o : List (Nat × VObj)} {S : CellSet}, SimE cx fr S κ { st with o := o } a w → ∃ S', (∀ b o, S b o → S' b o) ∧ SimE cx fr S' κ { st with o := Vm.demote vs o } a w
  | [], o, S, h => ⟨S, fun _ _ h => h, h⟩
  | v :: vs, o, S, h => by
    cases v with
    | os id =>
      simp only [Vm.demote]
      split
      · rename_i e xs hf
        obtain ⟨S1, h1, h2⟩ := SimE.freeze (st := { st with o := o }) h hf
        obtain ⟨S2, h3, h4⟩ := demote_sim (vs := vs) h2
        exact ⟨S2, fun b o x => h3 _ _ (h1 _ _ x), h4⟩
      · exact demote_sim h
    | agg cs =>
      simp only [Vm.demote]
      obtain ⟨S1, h1, h2⟩ := demoteC_sim (vs := cs) h
      obtain ⟨S2, h3, h4⟩ := demote_sim (vs := vs) h2
      exact ⟨S2, fun b o x => h3 _ _ (h1 _ _ x), h4⟩
    | _ => simp only [Vm.demote]; exact demote_sim h

theorem SimE.demote (h : SimE cx fr S κ st a w) (vs : List V) : ∃ S', (∀ b o, S b o → S' b o) ∧ SimE cx fr S' κ (st.demote vs) a w :=
  demote_sim (st := st) (o := st.o) h

/-! ### Boxes that are handed over -/
def blkId (κ : Nat → Option CO) (id : Nat) : Nat := match κ id with | some (.box b) => b | _ => 0

theorem hasN_mem {n : Nat} : ∀ {l : List Nat}, hasN n l = false → n ∉ l
  | [], _ => by simp
  | m :: l, h => by
    simp only [hasN] at h
    split at h
    · cases h
    · rename_i hb
      intro hm
      rcases List.mem_cons.mp hm with rfl | hm
      · simp at hb
      · exact hasN_mem h hm

theorem mutV_some {v : V} {id : Nat} {cs : List V} (h : mutV st v = some (id, cs)) : v = .vref id 0 ∧ findO st.o id = some (.box cs) ∧ V.noref.go cs = true := by
  unfold mutV at h
  split at h
  · split at h
    · rename_i hf
      split at h
      · rename_i hn
        cases h
        exact ⟨rfl, hf, hn⟩
      · cases h
    · cases h
  · cases h

theorem mutIds_spec {mus : List Nat} : ∀ {i : Nat} {vs : List V} {ids : List Nat}, mutIds st mus i vs = some ids → ids.Nodup ∧ ∀ id ∈ ids, ∃ cs, findO st.o id = some (.box cs)
  | i, [], ids, h => by simp only [mutIds] at h; cases h; simp
  | i, v :: vs, ids, h => by
    simp only [mutIds] at h
    split at h
    · split at h
      · rename_i id cs r h1 h2
        split at h
        · cases h
        · rename_i hn
          cases h
          obtain ⟨h3, h4⟩ := mutIds_spec h2
          refine ⟨List.nodup_cons.mpr ⟨hasN_mem hn, h3⟩, fun j hj => ?_⟩
          rcases List.mem_cons.mp hj with rfl | hj
          · exact ⟨_, (mutV_some h1).2.1⟩
          · exact h4 j hj
      · cases h
    · exact mutIds_spec h

theorem SimE.blk (h : SimE cx fr S κ st a w) {id : Nat} {cs : List V} (hf : findO st.o id = some (.box cs)) : κ id = some (.box (blkId κ id)) := by
  obtain ⟨b, el, vs, h1, _⟩ := h.findBox hf
  have h1 : κ id = some (.box b) := h1
  simp [blkId, h1]

theorem findO_dropAll : ∀ {ids : List Nat} {o : List (Nat × VObj)} {i : Nat} {x : VObj}, (i, x) ∈ dropAll ids o → i ∉ ids ∧ (i, x) ∈ o
  | [], o, i, x, h => ⟨by simp, h⟩
  | id :: ids, o, i, x, h => by
    simp only [dropAll] at h
    obtain ⟨h1, h2⟩ := findO_dropAll h
    obtain ⟨h3, h4⟩ := mem_dropO h2
    refine ⟨fun hm => ?_, h4⟩
    rcases List.mem_cons.mp hm with rfl | hm
    · exact h3 rfl
    · exact h1 hm

theorem nodup_dropAll : ∀ {ids : List Nat} {o : List (Nat × VObj)}, (o.map (·.1)).Nodup → ((dropAll ids o).map (·.1)).Nodup
  | [], o, h => h
  | id :: ids, o, h => by simp only [dropAll]; exact nodup_dropAll (nodup_dropO h)

/-- with some objects forgotten -/
theorem SimE.fewer (h : SimE cx fr S κ st a w) {o' : List (Nat × VObj)} (hm : ∀ i x, (i, x) ∈ o' → (i, x) ∈ st.o) (hn : (o'.map (·.1)).Nodup) : SimE cx fr S κ { st with o := o' } a w where
  tm := h.tm
  ob := fun i x hx => h.ob i x (hm i x hx)
  di := fun i x j y hx hy => h.di i x j y (hm _ _ hx) (hm _ _ hy)
  sz := h.sz
  s0 := h.s0
  sn := h.sn
  sm := h.sm
  kp := h.kp
  df := h.df
  gl := h.gl
  nd := hn
  pk := fun i x hx => h.pk i x (hm i x hx)

/-- the blocks of the boxes that are handed over -/
theorem SimE.mblocks (h : SimE cx fr S κ st a w) {ids : List Nat} (hnd : ids.Nodup) (hb : ∀ id ∈ ids, ∃ cs, findO st.o id = some (.box cs)) :
    (ids.map (blkId κ)).Nodup ∧ ∀ b ∈ ids.map (blkId κ), (∀ o, ¬ S b o) ∧ (fr.base ≤ b ∨ b ∈ fr.M) := by
  refine ⟨?_, fun b hm => ?_⟩
  · rw [List.nodup_iff_pairwise_ne, List.pairwise_map]
    refine (List.nodup_iff_pairwise_ne.mp hnd).imp_of_mem fun {i j} hi hj hne => ?_
    obtain ⟨ci, hci⟩ := hb i hi
    obtain ⟨cj, hcj⟩ := hb j hj
    have := h.di i _ j _ (findO_mem hci) (findO_mem hcj) hne _ _ (blkId κ i) (h.blk hci) (h.blk hcj) rfl
    simpa [blkOf, eq_comm] using this
  · obtain ⟨id, hid, rfl⟩ := List.mem_map.mp hm
    obtain ⟨cs, hcs⟩ := hb id hid
    obtain ⟨b, el, vs, h1, h2, h3, h4, h5⟩ := h.findBox hcs
    have h1 : κ id = some (.box b) := h1
    have : blkId κ id = b := by simp [blkId, h1]
    rw [this]
    exact ⟨h4, h5⟩

/-! ### Arguments beside boxes that are handed over -/
theorem box_pcM (h : SimE cx fr S κ st a w) {M : List Nat} (hM : ∀ b, b ∈ M → (∀ o, ¬ S b o) ∧ (fr.base ≤ b ∨ b ∈ fr.M)) (hnb : ∀ id cs, findO st.o id = some (.box cs) → blkId κ id ∉ M)
    {id off : Nat} {cs : List V} {c : Value} (hf : findO st.o id = some (.box cs)) (hv : vrep (fr.env S w κ) (.vref id off) c) : vrep (callEnv S w M) (.pc (clrL st cs) off) c :=
  box_pc h hM hf (fun b hb => by have := hnb id cs hf; simpa [blkId, hb] using this) hv

theorem capV_repM (h : SimE cx fr S κ st a w) {M : List Nat} (hM : ∀ b, b ∈ M → (∀ o, ¬ S b o) ∧ (fr.base ≤ b ∨ b ∈ fr.M)) (hnb : ∀ id cs, findO st.o id = some (.box cs) → blkId κ id ∉ M)
    {v : V} {c : Value} (hv : vrep (fr.env S w κ) v c) : vrep (callEnv S w M) (capV st v) c := by
  unfold capV
  split
  · split
    · rename_i cs hf
      exact box_pcM h hM hnb hf hv
    · exact vrep_undef
  · exact clr_rep h (h.callLe hM) hv

theorem capVs_repM (h : SimE cx fr S κ st a w) {M : List Nat} (hM : ∀ b, b ∈ M → (∀ o, ¬ S b o) ∧ (fr.base ≤ b ∨ b ∈ fr.M)) (hnb : ∀ id cs, findO st.o id = some (.box cs) → blkId κ id ∉ M) :
    ∀ {l : List V} {vs : List Value}, vrepL (fr.env S w κ) l vs → vrepL (callEnv S w M) (capVs st l) vs
  | [], vs, hv => by simpa [vrepL, capVs] using hv
  | v :: l, vs, hv => by
    simp only [vrepL, capVs] at *
    obtain ⟨c, r, hc, h1, h2⟩ := hv
    exact ⟨c, r, hc, capV_repM h hM hnb h1, capVs_repM h hM hnb h2⟩

theorem argV_repM (h : SimE cx fr S κ st a w) {M : List Nat} (hM : ∀ b, b ∈ M → (∀ o, ¬ S b o) ∧ (fr.base ≤ b ∨ b ∈ fr.M)) (hnb : ∀ id cs, findO st.o id = some (.box cs) → blkId κ id ∉ M)
    {v v' : V} {c : Value} (ha : argV st v = some v') (hv : vrep (fr.env S w κ) v c) : vrep (callEnv S w M) v' c := by
  unfold argV at ha
  split at ha
  · split at ha
    · rename_i cs hf
      cases ha
      exact box_pcM h hM hnb hf hv
    · cases ha
  · split at ha
    · rename_i e xs hf
      cases ha
      simp only [vrep]
      exact arr_data h hf hv
    · cases ha
  · split at ha
    · cases ha
      simp only [vrep] at hv ⊢
      obtain ⟨vs, hc, hr⟩ := hv
      exact ⟨vs, hc, clrL_rep h (h.callLe hM) hr⟩
    · cases ha
  · split at ha
    · cases ha
      simp only [vrep] at hv ⊢
      obtain ⟨vs, hc, hr⟩ := hv
      exact ⟨vs, hc, capVs_repM h hM hnb hr⟩
    · cases ha
  · split at ha
    · rename_i hn
      cases ha
      exact vrep_noref (h.callLe hM) hn hv
    · cases ha

theorem argVs_repM {st2 : St} (h : SimE cx fr S κ st a w) (h2 : SimE cx fr S κ st2 a w) {M : List Nat} (hM : ∀ b, b ∈ M → (∀ o, ¬ S b o) ∧ (fr.base ≤ b ∨ b ∈ fr.M))
    (hnb : ∀ id cs, findO st2.o id = some (.box cs) → blkId κ id ∉ M) {mus : List Nat} :
    ∀ {i : Nat} {l l' : List V} {vs : List Value} {ids : List Nat}, argVs st st2 mus i l = some l' → mutIds st mus i l = some ids → vrepL (fr.env S w κ) l vs → Args (callEnv S w M) l' vs (ids.map (blkId κ))
  | i, [], l', vs, ids, ha, hi, hv => by
    simp only [argVs] at ha
    simp only [mutIds] at hi
    cases ha; cases hi
    simp only [vrepL] at hv
    subst hv
    exact .nil
  | i, v :: l, l', vs, ids, ha, hi, hv => by
    simp only [argVs] at ha
    simp only [mutIds] at hi
    simp only [vrepL] at hv
    obtain ⟨c, r', rfl, h3, h4⟩ := hv
    split at ha
    · rename_i hmu
      rw [hmu] at hi
      simp only at hi
      split at ha
      · rename_i id cs r h5 h6
        cases ha
        rw [h5] at hi
        split at hi
        · rename_i id' cs' r2 h7 h8
          split at hi
          · cases hi
          · cases hi
            cases h7
            obtain ⟨rfl, hf, hn⟩ := mutV_some h5
            obtain ⟨b, el, us, e1, e2, e3, e4, e5⟩ := h.findBox hf
            simp only [vrep] at h3
            obtain ⟨b', hb', rfl⟩ := h3
            rw [hb'] at e1; cases e1
            have hbid : blkId κ id = b := by have : κ id = some (.box b) := hb'; simp [blkId, this]
            rw [List.map_cons, hbid]
            exact .box (E := callEnv S w M) (show w.heap[b]? = _ from e2) (vrepL_noref (h.callLe hM) hn e3) e4 (argVs_repM h h2 hM hnb h6 h8 h4)
        · cases hi
      · cases ha
    · rename_i hmu
      rw [hmu] at hi
      simp only at hi
      split at ha
      · rename_i x r h5 h6
        cases ha
        exact .plain (argV_repM h2 hM hnb h5 h3) (argVs_repM h h2 hM hnb h6 hi h4)
      · cases ha

theorem giveBack_mem : ∀ {ids : List Nat} {o o' : List (Nat × VObj)} {ms : List (List V)}, giveBack o ids ms = some o' → (o.map (·.1)).Nodup → ids.Nodup →
    (o'.map (·.1) = o.map (·.1)) ∧ ids.length = ms.length ∧ ∀ i x, (i, x) ∈ o' → (∃ (k : Nat) (m : List V), ids[k]? = some i ∧ ms[k]? = some m ∧ x = .box m) ∨ (i ∉ ids ∧ (i, x) ∈ o)
  | [], o, o', ms, h, hn, hd => by
    cases ms with
    | nil => simp only [giveBack] at h; cases h; exact ⟨rfl, rfl, fun i x hx => .inr ⟨by simp, hx⟩⟩
    | cons m ms => simp [giveBack] at h
  | id :: ids, o, o', ms, h, hn, hd => by
    cases ms with
    | nil => simp [giveBack] at h
    | cons m ms =>
      simp only [giveBack] at h
      have hd' := List.nodup_cons.mp hd
      obtain ⟨e1, e2, e3⟩ := giveBack_mem h (by rw [keys_setO]; exact hn) hd'.2
      refine ⟨by rw [e1, keys_setO], by simp [e2], fun i x hx => ?_⟩
      rcases e3 i x hx with ⟨k, m', h1, h2, h3⟩ | ⟨h1, h2⟩
      · exact .inl ⟨k + 1, m', by simpa using h1, by simpa using h2, h3⟩
      · rcases mem_setO hn h2 with ⟨rfl, rfl⟩ | ⟨h3, h4⟩
        · exact .inl ⟨0, m, rfl, rfl, rfl⟩
        · exact .inr ⟨fun hm => by
            rcases List.mem_cons.mp hm with rfl | hm
            · exact h3 rfl
            · exact h1 hm, h4⟩

theorem backs_get {E : Env} : ∀ {M : List Nat} {ms : List (List V)}, Backs E M ms → ∀ {k : Nat} {b : Nat} {m : List V}, M[k]? = some b → ms[k]? = some m →
    ∃ el xs, E.w.heap[b]? = some (.cells xs el (0, 0)) ∧ vrepL E m xs.toList
  | _, _, .nil, k, b, m, h, _ => by simp at h
  | _, _, .cons hb hu t, k, b, m, h1, h2 => by
    cases k with
    | zero => simp at h1 h2; subst h1; subst h2; exact ⟨_, _, hb, hu⟩
    | succ k => simp at h1 h2; exact backs_get t h1 h2

theorem vrepL_of_data {B : CellSet} {κ : Nat → Option CO} {w : World} : ∀ {l : List V} {vs : List Value}, vrepL (dataEnv S w) l vs → vrepL ⟨S, B, w, κ⟩ l vs
  | [], vs, h => by simpa [vrepL] using h
  | v :: l, vs, h => by
    simp only [vrepL] at *
    obtain ⟨c, r, hc, h1, h2⟩ := h
    exact ⟨c, r, hc, vrep_of_data h1, vrepL_of_data h2⟩

/-- behind a call that was handed some boxes -/
theorem SimE.called (h : SimE cx fr S κ st a w) {ids : List Nat} {ms : List (List V)} {ob : List (Nat × VObj)} (hnd : ids.Nodup) (hb : ∀ id ∈ ids, ∃ cs, findO st.o id = some (.box cs))
    (hout : Out S S' (ids.map (blkId κ)) w w') (hbk : Backs (dataEnv S' w') (ids.map (blkId κ)) ms) (hg : giveBack st.o ids ms = some ob) : SimE cx fr S' κ { st with o := ob } a w' := by
  obtain ⟨hMn, hM⟩ := h.mblocks hnd hb
  have hcS : ∀ b o, S b o → w'.heap[b]? = w.heap[b]? := fun b o hs => hout.block b (h.sz _ _ hs) fun hm => (hM b hm).1 o hs
  have hcB : ∀ b o, fr.B S b o → w'.heap[b]? = w.heap[b]? := fun b o hs => by
    rcases hs with hs | ⟨h1, h2⟩
    · exact hcS b o hs
    · refine hout.block b (Nat.lt_of_lt_of_le h1 h.kp.size) fun hm => ?_
      rcases (hM b hm).2 with h3 | h3
      · omega
      · exact h2 h3
  have hle : (fr.env S w κ).Le (fr.env S' w' κ) := ⟨hout.gain, fun b o x => x.imp (hout.gain _ _) (fun x => x), fun b o x => cell_of_block (hcS b o x), fun b o x => cell_of_block (hcB b o x)⟩
  obtain ⟨hkeys, hlen, hmem⟩ := giveBack_mem hg h.nd hnd
  have hmem' : ∀ i x, (i, x) ∈ ob → ∃ y, (i, y) ∈ st.o := fun i x hx => by
    have : i ∈ ob.map (·.1) := List.mem_map.mpr ⟨_, hx, rfl⟩
    rw [hkeys] at this
    obtain ⟨q, hq, e⟩ := List.mem_map.mp this
    obtain ⟨q1, q2⟩ := q
    exact ⟨q2, by rw [← e]; exact hq⟩
  have hS'b : ∀ b, b < w.heap.size → ∀ o, S' b o → S b o := fun b hlt o ho => by
    rcases hout.new b o ho with h' | ⟨h', _⟩
    · exact h'
    · omega
  exact {
    tm := vrepL_mono hle (fun _ => rfl) h.tm
    ob := fun i x hx => by
      rcases hmem i x hx with ⟨k, m, h1, h2, rfl⟩ | ⟨h1, h2⟩
      · obtain ⟨cs, hcs⟩ := hb i (List.mem_of_getElem? h1)
        obtain ⟨b, el, vs, e1, e2, e3, e4, e5⟩ := h.findBox hcs
        have hbid : blkId κ i = b := by have : κ i = some (.box b) := e1; simp [blkId, this]
        obtain ⟨el', us, h3, h4⟩ := backs_get hbk (k := k) (b := b) (m := m) (by rw [List.getElem?_map, h1, Option.map_some, hbid]) h2
        exact ⟨b, el', us, e1, h3, vrepL_of_data h4, fun o ho => e4 o (hS'b b (heap_lt (show w.heap[b]? = _ from e2)) o ho), e5⟩
      · refine orep_keep (h.ob i x h2) hle rfl (fun c b hc hbc => ?_) (.inl ⟨rfl, fun _ => rfl⟩)
        obtain ⟨c', h3, h4⟩ := orep_blk (h.ob i x h2)
        have : c' = c := by have := h3.symm.trans hc; simpa using this
        subst this
        have hlt : b < w.heap.size := (h4 b hbc).1
        refine ⟨hout.block b hlt fun hm => ?_, hS'b b hlt⟩
        obtain ⟨id, hid, rfl⟩ := List.mem_map.mp hm
        obtain ⟨cs, hcs⟩ := hb id hid
        exact h.di i x id _ h2 (findO_mem hcs) (fun e => h1 (e ▸ hid)) c' _ _ hc (h.blk hcs) hbc rfl
    di := fun i x j y hx hy hij => by
      obtain ⟨x', hx'⟩ := hmem' i x hx
      obtain ⟨y', hy'⟩ := hmem' j y hy
      exact h.di i x' j y' hx' hy' hij
    sz := fun b o ho => by
      rcases hout.new b o ho with h' | ⟨_, h'⟩
      · exact Nat.lt_of_lt_of_le (h.sz _ _ h') hout.size
      · exact h'
    s0 := fun b o x => hout.gain _ _ (h.s0 _ _ x)
    sn := fun b o x => by
      rcases hout.new b o x with h' | ⟨h', _⟩
      · exact h.sn _ _ h'
      · exact .inr (Nat.le_trans h.kp.size h')
    sm := h.sm
    kp := ⟨hout.os.trans h.kp.os, hout.tape.trans h.kp.tape, hout.output.trans h.kp.output, Nat.le_trans h.kp.size hout.size, fun b h1 h2 => (hcB b 0 (.inr ⟨h1, h2⟩)).trans (h.kp.block b h1 h2)⟩
    df := h.df
    gl := fun g v hv => vrep_mono hle.nok (fun _ => rfl) (h.gl g v hv)
    nd := by rw [hkeys]; exact h.nd
    pk := fun i x hx c hc => by
      obtain ⟨y, hy⟩ := hmem' i x hx
      exact h.pk i y hy c hc }

theorem vrep_noSlices {E E' : Env} {v : V} {c : Value} (h : v.scalar = true) (hv : vrep E v c) : vrep E' v c := by
  cases v <;> simp only [V.scalar] at h <;> try (cases h; done)
  · simp only [vrep] at *; exact hv
  · rename_i vs
    simp only [vrep] at *
    obtain ⟨us, hc, hr⟩ := hv
    refine ⟨us, hc, ?_⟩
    have : ∀ (l : List V) (us : List Value), V.scalar.go l = true → vrepL E l us → vrepL E' l us := by
      intro l
      induction l with
      | nil => intro us _ h; simpa [vrepL] using h
      | cons x l ih =>
        intro us hg hl
        cases x <;> simp only [V.scalar.go] at hg <;> try (cases hg; done)
        simp only [vrepL, vrep] at *
        obtain ⟨c, r, hc, h1, h2⟩ := hl
        exact ⟨c, r, hc, h1, ih r hg h2⟩
    exact this vs _ h hr

theorem callB_osound (hG : GoodG cx) {o : Oper} {c : Call} {fo : Operand} {f : FuncId} {caps args : List V} {d : Nat} {ids : List Nat} {k : St → Option R} {r : R} (ho : o.op = .call c) (hd : o.dst = some d)
    (hc : c.callee = .value fo) (hf : ev cx st fo = .fn f caps)
    (hi : mutIds (st.demote (evL cx st c.args.toList ++ caps)) (cx.muts f) 0 (evL cx st c.args.toList ++ caps) = some ids)
    (ha : argVs (st.demote (evL cx st c.args.toList ++ caps)) { st.demote (evL cx st c.args.toList ++ caps) with o := dropAll ids (st.demote (evL cx st c.args.toList ++ caps)).o } (cx.muts f) 0 (evL cx st c.args.toList ++ caps) = some args)
    (h : cx.G f args (fun v ms => match ms, v.scalar with
            | [], true => k (st.put (some d) v)
            | _, _ => match giveBack (st.demote (evL cx st c.args.toList ++ caps)).o ids ms with
              | some ob => k ({ st with o := ob }.put (some d) v)
              | none => none) = some r) : ∃ st', k st' = some r ∧ OSound cx o st st' := by
  obtain ⟨v, ms, h1, hok⟩ := hG _ _ _ _ _ h
  have key : ∀ (st' : St), (∀ fr S κ a w, SimE cx fr S κ st a w → ∀ S1, (∀ b o, S b o → S1 b o) → SimE cx fr S1 κ (st.demote (evL cx st c.args.toList ++ caps)) a w →
      ∀ cv S' w', Out S1 S' (ids.map (blkId κ)) w w' → vrep (dataEnv S' w') v cv → Backs (dataEnv S' w') (ids.map (blkId κ)) ms → ∃ S'' κ', SimE cx fr S'' κ' st' (a.put o.dst cv) w') → OSound cx o st st' := by
    intro st' hst' fr S κ a w hs K Q hK
    have hfv := hs.ev fo
    rw [hf] at hfv
    simp only [vrep] at hfv
    obtain ⟨cvs, hfe, hcaps⟩ := hfv
    obtain ⟨fn, e1, e2, e3⟩ := hok.enter
    unfold Oper.wp
    rw [call_enters ho hc hfe e1 e2 e3, Oper.upon_enter]
    have hvs := vrepL_append (evL_rep hs c.args.toList) hcaps
    obtain ⟨S1, hS1, hs1⟩ := hs.demote (evL cx st c.args.toList ++ caps)
    have hle1 : (fr.env S w κ).Le (fr.env S1 w κ) := ⟨hS1, fun b o x => x.imp (hS1 _ _) (fun x => x), fun _ _ _ => rfl, fun _ _ _ => rfl⟩
    have hvs1 := vrepL_mono hle1 (fun _ => rfl) hvs
    obtain ⟨hnd, hbx⟩ := mutIds_spec hi
    obtain ⟨hMn, hM⟩ := hs1.mblocks hnd hbx
    have hs2 : SimE cx fr S1 κ { st.demote (evL cx st c.args.toList ++ caps) with o := dropAll ids (st.demote (evL cx st c.args.toList ++ caps)).o } a w :=
      hs1.fewer (fun i x hx => (findO_dropAll hx).2) (nodup_dropAll hs1.nd)
    have hargs := argVs_repM hs1 hs2 hM (fun id cs hf hm => by
      obtain ⟨h1, h2⟩ := findO_dropAll (findO_mem hf)
      obtain ⟨id', hid', e⟩ := List.mem_map.mp hm
      obtain ⟨cs', hcs'⟩ := hbx id' hid'
      exact hs1.di id _ id' _ h2 (findO_mem hcs') (fun e => h1 (e ▸ hid')) _ _ (blkId κ id) (hs2.blk hf) (hs1.blk hcs') rfl (by rw [← e]; rfl)) ha hi hvs1
    have := hok.calls S1 w (ids.map (blkId κ)) _ (fun b o h => ⟨hs1.sz _ _ h, fun hm => (hM b hm).1 o h⟩) hMn
      (fun g v hg => vrep_mono (E := (fr.env S1 w κ).nok) (E' := callEnv S1 w (ids.map (blkId κ))) (hs1.callLe hM).nok (fun _ => rfl) (hs1.gl g v hg)) hargs
    have he : (List.map a.eval c.args.toList ++ cvs.toList).toArray = c.args.map a.eval ++ cvs := by
      apply Array.ext'; simp
    rw [he] at this
    refine this.mono fun e w' h => ?_
    obtain ⟨cv, S', rfl, hout, hv, hbk⟩ := h
    obtain ⟨S'', κ', hfin⟩ := hst' fr S κ a w hs S1 hS1 hs1 cv S' w' hout hv hbk
    exact hK _ _ _ _ hfin
  have full : ∀ ob, giveBack (st.demote (evL cx st c.args.toList ++ caps)).o ids ms = some ob → OSound cx o st ({ st with o := ob }.put (some d) v) := fun ob hob =>
    key _ fun fr S κ a w hs S1 hS1 hs1 cv S' w' hout hv hbk => by
      obtain ⟨hnd, hbx⟩ := mutIds_spec hi
      have := hs1.called hnd hbx hout hbk hob
      refine ⟨S', κ, ?_⟩
      rw [hd]
      exact SimE.put (st := { st with o := ob }) this (some d) (vrep_of_data hv)
  split at h1
  · rename_i hsc
    refine ⟨_, h1, key _ fun fr S κ a w hs S1 hS1 hs1 cv S' w' hout hv hbk => ⟨S, κ, ?_⟩⟩
    have hids : ids = [] := by
      cases hid : ids with
      | nil => rfl
      | cons x xs => rw [hid] at hbk; cases hbk
    subst hids
    have hq : Quiet S S w w' := ⟨fun _ _ h => h, fun _ _ h => .inl h, hout.os, hout.tape, hout.output, hout.size, fun b hb => hout.block b hb (by simp)⟩
    rw [hd]
    exact (hs.quiet hq).put (some d) (vrep_noSlices hsc hv)
  · split at h1
    · rename_i ob hob
      exact ⟨_, h1, full ob hob⟩
    · cases h1

end Go.Proofs.Vm
