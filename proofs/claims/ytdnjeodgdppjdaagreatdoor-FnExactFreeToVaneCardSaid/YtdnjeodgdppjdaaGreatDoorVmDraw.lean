/- Regions whose order is drawn (own work). -/
import Derived.Test.YtdnjeodgdppjdaaGreatDoorVmRun
namespace Go.Proofs.Vm
open Go Go.RowKit
set_option linter.unusedVariables false
set_option linter.unusedSimpArgs false

variable {cx : Ctx} {fr : Fr} {S S' : CellSet} {κ κ' : Nat → Option CO} {st st' : St} {a a' : Act} {w w' : World} {R : Type}

/-! ### Slots -/
theorem getL_setL : ∀ (l : List V) (d t : Nat) (v : V), getL (setL l d v) t = if t = d ∧ d < l.length then v else getL l t
  | [], d, t, v => by simp [setL, getL]
  | x :: l, 0, 0, v => by simp [setL, getL]
  | x :: l, 0, t + 1, v => by simp [setL, getL]
  | x :: l, d + 1, 0, v => by simp [setL, getL]
  | x :: l, d + 1, t + 1, v => by
    simp only [setL, getL, getL_setL l d t v, List.length_cons]
    by_cases h : t = d ∧ d < l.length
    · rw [if_pos h, if_pos ⟨by omega, by omega⟩]
    · rw [if_neg h, if_neg (by omega)]

theorem length_setL (l : List V) (d : Nat) (v : V) : (setL l d v).length = l.length := by rw [setL_eq]; simp

theorem ext_getL : ∀ {l m : List V}, l.length = m.length → (∀ t, getL l t = getL m t) → l = m
  | [], [], _, _ => rfl
  | [], y :: m, h, _ => by simp at h
  | x :: l, [], h, _ => by simp at h
  | x :: l, y :: m, h, hg => by
    have h0 := hg 0
    simp only [getL] at h0
    have h1 := ext_getL (l := l) (m := m) (by simpa using h) fun t => by have := hg (t + 1); simpa [getL] using this
    rw [h0, h1]

theorem len_put (st : St) (d : Option Nat) (v : V) : (st.put d v).t.length = st.t.length := by
  cases d <;> simp [St.put, St.setT, length_setL]
theorem obj_put (st : St) (d : Option Nat) (v : V) : (st.put d v).o = st.o := by cases d <;> rfl
theorem getL_put (st : St) (d : Option Nat) (v : V) (t : Nat) : getL (st.put d v).t t = if d = some t ∧ t < st.t.length then v else getL st.t t := by
  cases d with
  | none => simp [St.put]
  | some d =>
    simp only [St.put, St.setT, getL_setL]
    by_cases h : t = d ∧ d < st.t.length
    · rw [if_pos h, if_pos ⟨by rw [h.1], by omega⟩]
    · rw [if_neg h, if_neg (by intro ⟨h1, h2⟩; cases h1; exact h ⟨rfl, h2⟩)]

theorem getL_onlyL (ns : List Nat) : ∀ (l : List V) (i t : Nat), getL (onlyL ns i l) t = match hasN (i + t) ns with | true => getL l t | false => .undef
  | [], i, t => by simp only [onlyL, getL]; split <;> rfl
  | x :: l, i, 0 => by simp only [onlyL, getL, Nat.add_zero]; cases hasN i ns <;> rfl
  | x :: l, i, t + 1 => by
    simp only [onlyL, getL, getL_onlyL ns l (i + 1) t]
    rw [show i + 1 + t = i + (t + 1) by omega]

theorem length_onlyL (ns : List Nat) : ∀ (l : List V) (i : Nat), (onlyL ns i l).length = l.length
  | [], i => rfl
  | x :: l, i => by simp [onlyL, length_onlyL ns l (i + 1)]

theorem only_eq {ns : List Nat} (hl : st.t.length = st'.t.length) (ho : st.o = st'.o) (h : ∀ t, hasN t ns = true → getL st.t t = getL st'.t t) : st.only ns = st'.only ns := by
  unfold St.only
  rw [ho]
  congr 1
  refine ext_getL (by rw [length_onlyL, length_onlyL, hl]) fun t => ?_
  rw [getL_onlyL, getL_onlyL, Nat.zero_add]
  split
  · rename_i hn; exact h t hn
  · rfl

theorem SimE.only (h : SimE cx fr S κ st a w) (ns : List Nat) : SimE cx fr S κ (st.only ns) a w := by
  refine { h with tm := ?_, ob := h.ob, di := h.di, nd := h.nd, pk := h.pk }
  refine vrepL_of (by rw [vrepL_len h.tm]; exact (length_onlyL ns _ _).symm) fun i v c hv hc => ?_
  have h1 := getL_onlyL ns st.t 0 i
  rw [getL_eq, show (onlyL ns 0 st.t)[i]? = some v from hv, Option.getD_some, Nat.zero_add] at h1
  split at h1
  · rw [getL_eq] at h1
    cases hx : st.t[i]? with
    | none => rw [hx] at h1; simp at h1; rw [h1]; exact vrep_undef
    | some u =>
      rw [hx, Option.getD_some] at h1
      subst h1
      obtain ⟨c', hc', hr⟩ := vrepL_get h.tm hx
      rw [hc] at hc'; cases hc'
      exact hr
  · rw [h1]; exact vrep_undef

/-! ### What comes before what -/
theorem clos_prefix : ∀ (r : List Oper) (acc : List Nat), ∃ m, clos r acc = acc ++ m ∧ m.length = r.length
  | [], acc => ⟨[], by simp [clos]⟩
  | o :: r, acc => by
    obtain ⟨m, h1, h2⟩ := clos_prefix r (acc ++ [maskOf o acc])
    exact ⟨maskOf o acc :: m, by simp [clos, h1], by simp [h2]⟩

theorem clos_get : ∀ (r : List Oper) (acc : List Nat) (i : Nat) (o : Oper), r[i]? = some o → (clos r acc)[acc.length + i]? = some (maskOf o ((clos r acc).take (acc.length + i)))
  | [], acc, i, o, h => by simp at h
  | q :: r, acc, 0, o, h => by
    simp at h; subst h
    obtain ⟨m, h1, _⟩ := clos_prefix r (acc ++ [maskOf q acc])
    simp only [clos, h1, Nat.add_zero, List.append_assoc]
    rw [List.getElem?_append_right (by omega)]
    simp
  | q :: r, acc, i + 1, o, h => by
    have := clos_get r (acc ++ [maskOf q acc]) i o (by simpa using h)
    simp only [clos]
    rw [List.length_append, List.length_singleton] at this
    rwa [show acc.length + 1 + i = acc.length + (i + 1) by omega] at this

theorem foldl_bits (acc : List Nat) (j : Nat) : ∀ (l : List Nat) (s : Nat), (l.foldl (fun s e => s ||| 2 ^ e ||| acc.getD e 0) s).testBit j = true → s.testBit j = true ∨ ∃ e ∈ l, e = j ∨ (acc.getD e 0).testBit j = true
  | [], s, h => .inl h
  | e :: l, s, h => by
    simp only [List.foldl_cons] at h
    rcases foldl_bits acc j l _ h with h | ⟨e', he', h⟩
    · rw [Nat.testBit_or, Nat.testBit_or] at h
      simp only [Bool.or_eq_true] at h
      rcases h with (h | h) | h
      · exact .inl h
      · refine .inr ⟨e, List.mem_cons_self, .inl ?_⟩
        simpa [Nat.testBit_two_pow] using h
      · exact .inr ⟨e, List.mem_cons_self, .inr h⟩
    · exact .inr ⟨e', List.mem_cons_of_mem _ he', h⟩

/-- what is listed holds with each operation all that comes before it -/
theorem anc_listed {all : List Oper} {L : Nat → Bool} (hL : ∀ (i : Nat) (o : Oper), all[i]? = some o → L i = true → ∀ e ∈ edges o, L e = true) :
    ∀ (i : Nat) (o : Oper), all[i]? = some o → (∀ e ∈ edges o, L e = true) → ∀ j, ((clos all []).getD i 0).testBit j = true → L j = true := by
  intro i
  induction i using Nat.strongRecOn with
  | _ i ih =>
    intro o ho he j hj
    have hg := clos_get all [] i o ho
    simp only [List.length_nil, Nat.zero_add] at hg
    rw [List.getD_eq_getElem?_getD, hg, Option.getD_some] at hj
    rcases foldl_bits _ j _ _ hj with h | ⟨e, hem, h⟩
    · simp at h
    · have hLe := he e hem
      rcases h with rfl | h
      · exact hLe
      · have hlt : e < i := by
          rcases Nat.lt_or_ge e i with h' | h'
          · exact h'
          · rw [List.getD_eq_getElem?_getD, List.getElem?_take, if_neg (by omega)] at h
            simp at h
        rw [List.getD_eq_getElem?_getD, List.getElem?_take_of_lt hlt, ← List.getD_eq_getElem?_getD] at h
        have hlen : e < all.length := by
          have : i < all.length := by
            rcases Nat.lt_or_ge i all.length with h' | h'
            · exact h'
            · rw [List.getElem?_eq_none h'] at ho; cases ho
          omega
        exact ih e hlt (all[e]'hlen) (List.getElem?_eq_getElem hlen) (hL e _ (List.getElem?_eq_getElem hlen) hLe) j h

/-! ### The checks -/
theorem hasN_iff {n : Nat} : ∀ {l : List Nat}, hasN n l = true ↔ n ∈ l
  | [] => by simp [hasN]
  | m :: l => by
    simp only [hasN]
    split
    · rename_i hb; rw [beq_true hb]; simp
    · rename_i hb
      rw [hasN_iff]
      constructor
      · exact fun h => List.mem_cons_of_mem _ h
      · intro h
        rcases List.mem_cons.mp h with rfl | h
        · simp at hb
        · exact h

theorem anyIn_of {x : Nat} : ∀ {xs ys : List Nat}, x ∈ xs → x ∈ ys → anyIn xs ys = true
  | [], ys, h, _ => by simp at h
  | z :: xs, ys, h, hy => by
    simp only [anyIn]
    split
    · rfl
    · rename_i hn
      rcases List.mem_cons.mp h with rfl | h
      · rw [hasN_iff.mpr hy] at hn; cases hn
      · exact anyIn_of h hy

theorem backward_get : ∀ {l : List Oper} {s : Nat}, backward l s = true → ∀ (i : Nat) (o : Oper), l[i]? = some o → ∀ e ∈ edges o, e < s + i
  | [], s, h, i, o, ho => by simp at ho
  | q :: l, s, h, i, o, ho => by
    simp only [backward, Bool.and_eq_true, List.all_eq_true] at h
    cases i with
    | zero => simp at ho; subst ho; exact fun e he => by have := h.1 e he; simpa using this
    | succ i =>
      intro e he
      have := backward_get h.2 i o (by simpa using ho) e he
      omega

theorem pairs_go {all : List Oper} {bs : List Nat} {o : Oper} {j : Nat} : ∀ {l : List Oper} {s : Nat}, pairsOk.go all bs o j l s = true → ∀ (i : Nat) (q : Oper), l[i]? = some q → s + i < j →
    (anyIn (dstL q) (names all o) || anyIn (dstL o) (names all q)) = true → (bs.getD j 0).testBit (s + i) = true
  | [], s, h, i, q, hq, _, _ => by simp at hq
  | x :: l, s, h, i, q, hq, hlt, hc => by
    simp only [pairsOk.go] at h
    have hsj : Nat.blt s j = true := by simp; omega
    rw [hsj] at h
    simp only [Bool.and_eq_true] at h
    cases i with
    | zero =>
      simp at hq; subst hq
      rw [hc] at h
      simpa using h.1
    | succ i =>
      have := pairs_go h.2 i q (by simpa using hq) (by omega) hc
      rwa [show s + 1 + i = s + (i + 1) by omega] at this

theorem pairs_get {all : List Oper} {bs : List Nat} : ∀ {l : List Oper} {s : Nat}, pairsOk all bs l s = true → ∀ (j : Nat) (o : Oper), l[j]? = some o → ∀ (i : Nat) (q : Oper), all[i]? = some q → i < s + j →
    (anyIn (dstL q) (names all o) || anyIn (dstL o) (names all q)) = true → (bs.getD (s + j) 0).testBit i = true
  | [], s, h, j, o, ho, _, _, _, _, _ => by simp at ho
  | x :: l, s, h, j, o, ho, i, q, hq, hlt, hc => by
    simp only [pairsOk, Bool.and_eq_true] at h
    cases j with
    | zero =>
      simp at ho; subst ho
      have := pairs_go h.1 i q hq (by omega) hc
      simpa using this
    | succ j =>
      have := pairs_get h.2 j o (by simpa using ho) i q hq (by omega) hc
      rwa [show s + 1 + j = s + (j + 1) by omega] at this

theorem tail_get {bs : List Nat} {p : Nat} : ∀ {l : List Oper} {s : Nat}, tailOk bs p l s = true → ∀ (i : Nat) (o : Oper), l[i]? = some o → p ≤ s + i → ∀ j, j < s + i → (bs.getD (s + i) 0).testBit j = true
  | [], s, h, i, o, ho, _, _, _ => by simp at ho
  | x :: l, s, h, i, o, ho, hp, j, hj => by
    simp only [tailOk, Bool.and_eq_true] at h
    cases i with
    | zero =>
      have hps : Nat.ble p s = true := by simpa using hp
      rw [hps] at h
      have h1 := beq_true h.1
      have h2 : (bs.getD s 0 % 2 ^ s).testBit j = true := by
        rw [h1, Nat.testBit_two_pow_sub_one]; simpa using hj
      rw [Nat.testBit_mod_two_pow] at h2
      simp only [Bool.and_eq_true] at h2
      simpa using h2.2
    | succ i =>
      have := tail_get h.2 i o (by simpa using ho) (by omega) j (by omega)
      rwa [show s + 1 + i = s + (i + 1) by omega] at this

/-! ### The run in the order of the text -/
def mix : List Oper → List V → (Nat → Bool) → Nat → St → St
  | o :: l, W :: Ws, L, i, st => mix l Ws L (i + 1) (if L i then st.put o.dst W else st)
  | _, _, _, _, st => st

theorem mix_len : ∀ (l : List Oper) (Ws : List V) (L : Nat → Bool) (i : Nat) (st : St), (mix l Ws L i st).t.length = st.t.length ∧ (mix l Ws L i st).o = st.o
  | [], _, L, i, st => by simp [mix]
  | o :: l, [], L, i, st => by simp [mix]
  | o :: l, W :: Ws, L, i, st => by
    obtain ⟨h1, h2⟩ := mix_len l Ws L (i + 1) (if L i then st.put o.dst W else st)
    simp only [mix]
    rw [h1, h2]
    split <;> simp [len_put, obj_put]

theorem mix_agree {t : Nat} : ∀ (l : List Oper) (Ws : List V) (L L' : Nat → Bool) (i : Nat) (st st' : St), st.t.length = st'.t.length → getL st.t t = getL st'.t t →
    (∀ (m : Nat) (o : Oper), l[m]? = some o → o.dst = some t → L (i + m) = L' (i + m)) → getL (mix l Ws L i st).t t = getL (mix l Ws L' i st').t t
  | [], _, L, L', i, st, st', _, h, _ => by simpa [mix] using h
  | o :: l, [], L, L', i, st, st', _, h, _ => by simpa [mix] using h
  | o :: l, W :: Ws, L, L', i, st, st', hl, h, hL => by
    simp only [mix]
    refine mix_agree l Ws L L' (i + 1) _ _ ?_ ?_ fun m q hq hd => ?_
    · split <;> split <;> simp [len_put, hl]
    · by_cases hd : o.dst = some t
      · have := hL 0 o rfl hd
        rw [Nat.add_zero] at this
        rw [this]
        split
        · rw [getL_put, getL_put, hl]
          split
          · rfl
          · exact h
        · exact h
      · have e : ∀ (b : Bool) (s : St), getL (if b then s.put o.dst W else s).t t = getL s.t t := fun b s => by
          cases b
          · rfl
          · simp only [if_true]; rw [getL_put, if_neg (fun h => hd h.1)]
        rw [e, e, h]
    · have := hL (m + 1) q (by simpa using hq) hd
      rwa [show i + (m + 1) = i + 1 + m by omega] at this

theorem mix_false : ∀ (l : List Oper) (Ws : List V) (L : Nat → Bool) (i : Nat) (st : St), (∀ m, m < l.length → L (i + m) = false) → mix l Ws L i st = st
  | [], _, L, i, st, _ => by simp [mix]
  | o :: l, [], L, i, st, _ => by simp [mix]
  | o :: l, W :: Ws, L, i, st, h => by
    simp only [mix]
    have h0 := h 0 (by simp)
    rw [Nat.add_zero] at h0
    rw [h0]
    exact mix_false l Ws L (i + 1) st fun m hm => by have := h (m + 1) (by simp; omega); rwa [show i + (m + 1) = i + 1 + m by omega] at this

theorem mix_take : ∀ (l : List Oper) (Ws : List V) (i s : Nat) (st : St), mix l Ws (fun j => decide (j < s + i)) s st = mix (l.take i) (Ws.take i) (fun _ => true) s st
  | [], Ws, i, s, st => by simp [mix]
  | o :: l, [], i, s, st => by cases i <;> simp [mix]
  | o :: l, W :: Ws, 0, s, st => by
    rw [mix_false _ _ _ _ _ fun m hm => by simp]
    simp [mix]
  | o :: l, W :: Ws, i + 1, s, st => by
    simp only [List.take_succ_cons, mix, if_true]
    rw [if_pos (by simp)]
    have := mix_take l Ws i (s + 1) (st.put o.dst W)
    rw [show s + 1 + i = s + (i + 1) by omega] at this
    exact this

theorem mix_snoc : ∀ (l : List Oper) (Ws : List V) (o : Oper) (W : V) (s : Nat) (st : St), l.length = Ws.length → mix (l ++ [o]) (Ws ++ [W]) (fun _ => true) s st = (mix l Ws (fun _ => true) s st).put o.dst W
  | [], [], o, W, s, st, _ => by simp [mix]
  | [], _ :: _, o, W, s, st, h => by simp at h
  | _ :: _, [], o, W, s, st, h => by simp at h
  | q :: l, U :: Ws, o, W, s, st, h => by
    simp only [List.cons_append, mix, if_true]
    exact mix_snoc l Ws o W (s + 1) _ (by simpa using h)

theorem getL_ge : ∀ {l : List V} {t : Nat}, l.length ≤ t → getL l t = .undef
  | [], t, _ => by simp [getL]
  | x :: l, 0, h => by simp at h
  | x :: l, t + 1, h => by simp only [getL]; exact getL_ge (by simpa using h)

/-- what one operation of the prefix does at a state of the run in the order of the text -/
def GS (cx : Ctx) (all : List Oper) (o : Oper) (st : St) (W : V) : Prop :=
  (o.guard = none ∧ FSound cx o (st.only (names all o)) W) ∨
  ∃ j want s u, o.guard = some (j, want) ∧ guardSlot all j = some s ∧ getL st.t s = .val u ∧ ((u = .bool want ∧ FSound cx o (st.only (names all o)) W) ∨ ((u = .bool (!want) ∨ ∃ q, u = .tuple q) ∧ W = .val undef))

theorem opO1_sound (hG : GoodG cx) {o : Oper} {k : V → Option R} {r : R} (h : opO1 cx o st k = some r) : ∃ v, k v = some r ∧ FSound cx o st v := by
  unfold opO1 at h
  split at h
  · rename_i c x y ho
    split at h
    · rename_i t hc
      have hp := pick_sound ho hc
      cases t with
      | true => rw [cond_true] at h; exact ⟨_, h, hp⟩
      | false => rw [cond_false] at h; exact ⟨_, h, hp⟩
    · cases h
  · split at h
    · exact opF_sound hG h
    · cases h

theorem opsF_run (hG : GoodG cx) {all : List Oper} : ∀ {l : List Oper} {st : St} {k : St → Option R} {r : R}, opsF cx all l st k = some r →
    ∃ Ws, Ws.length = l.length ∧ (∀ (i : Nat) (o : Oper) (W : V), l[i]? = some o → Ws[i]? = some W → GS cx all o (mix (l.take i) (Ws.take i) (fun _ => true) 0 st) W) ∧ k (mix l Ws (fun _ => true) 0 st) = some r
  | [], st, k, r, h => ⟨[], rfl, fun i o W ho => by simp at ho, by simpa [opsF, mix] using h⟩
  | o :: l, st, k, r, h => by
    have shift : ∀ (l : List Oper) (Ws : List V) (i j : Nat) (st : St), mix l Ws (fun _ => true) i st = mix l Ws (fun _ => true) j st := by
      intro l
      induction l with
      | nil => intro Ws i j st; simp [mix]
      | cons o l ih =>
        intro Ws i j st
        cases Ws with
        | nil => simp [mix]
        | cons W Ws => simp only [mix]; exact ih Ws _ _ _
    have one : ∀ W, GS cx all o st W → opsF cx all l (st.put o.dst W) k = some r → ∃ Ws, Ws.length = (o :: l).length ∧ (∀ (i : Nat) (q : Oper) (W : V), (o :: l)[i]? = some q → Ws[i]? = some W →
        GS cx all q (mix ((o :: l).take i) (Ws.take i) (fun _ => true) 0 st) W) ∧ k (mix (o :: l) Ws (fun _ => true) 0 st) = some r := by
      intro W hW h
      obtain ⟨Ws, h1, h2, h3⟩ := opsF_run hG h
      refine ⟨W :: Ws, by simp [h1], fun i q U hq hU => ?_, by simp only [mix, if_true]; rw [shift l Ws 1 0]; exact h3⟩
      cases i with
      | zero =>
        simp at hq hU; subst hq; subst hU
        simpa [mix] using hW
      | succ i =>
        have := h2 i q U (by simpa using hq) (by simpa using hU)
        simp only [List.take_succ_cons, mix, if_true]
        rw [shift _ _ 1 0]
        exact this
    simp only [opsF] at h
    split at h
    · rename_i hg
      obtain ⟨v, h1, h2⟩ := opO1_sound hG h
      exact one v (.inl ⟨hg, h2⟩) h1
    · rename_i j want hg
      split at h
      · cases h
      · rename_i s hs
        split at h
        · rename_i b hb
          have fin1 : opO cx all o st (fun v => opsF cx all l (st.put o.dst v) k) = some r → b = want → _ := fun h hbw => (by
            obtain ⟨v, h1, h2⟩ := opO1_sound hG h
            exact one v (.inr ⟨j, want, s, _, hg, hs, hb, .inl ⟨by rw [hbw], h2⟩⟩) h1 : ∃ Ws, Ws.length = (o :: l).length ∧ (∀ (i : Nat) (q : Oper) (W : V), (o :: l)[i]? = some q → Ws[i]? = some W →
              GS cx all q (mix ((o :: l).take i) (Ws.take i) (fun _ => true) 0 st) W) ∧ k (mix (o :: l) Ws (fun _ => true) 0 st) = some r)
          have fin2 : opsF cx all l (st.put o.dst (.val undef)) k = some r → b ≠ want → _ := fun h hbw => (by
            exact one (.val undef) (.inr ⟨j, want, s, _, hg, hs, hb, .inr ⟨.inl (by cases b <;> cases want <;> simp_all), rfl⟩⟩) h : ∃ Ws, Ws.length = (o :: l).length ∧ (∀ (i : Nat) (q : Oper) (W : V), (o :: l)[i]? = some q → Ws[i]? = some W →
              GS cx all q (mix ((o :: l).take i) (Ws.take i) (fun _ => true) 0 st) W) ∧ k (mix (o :: l) Ws (fun _ => true) 0 st) = some r)
          cases b <;> cases want
          · rw [cond_false, know_slot hb] at h; exact fin1 h rfl
          · rw [cond_false, know_slot hb] at h; exact fin2 h (by simp)
          · rw [cond_true, know_slot hb] at h; exact fin2 h (by simp)
          · rw [cond_true, know_slot hb] at h; exact fin1 h rfl
        · rename_i u hb
          exact one (.val undef) (.inr ⟨j, want, s, _, hg, hs, hb, .inr ⟨.inr ⟨u, rfl⟩, rfl⟩⟩) h
        · cases h

theorem Quiet.drew (S : CellSet) (w : World) : Quiet S S w w.drew := ⟨fun _ _ h => h, fun _ _ h => .inl h, rfl, rfl, rfl, Nat.le_refl _, fun _ _ => rfl⟩

/-- one operation of the prefix, wherever it comes up -/
theorem GS.run {arr : Array Oper} {o : Oper} {W : V} (h : GS cx arr.toList o st' W) (hl : st.t.length = st'.t.length) (ho : st.o = st'.o) (hag : ∀ t, hasN t (names arr.toList o) = true → getL st.t t = getL st'.t t)
    (hs : SimE cx fr S κ st a w) (K : Act → World → Prop) (Q : Exit → Act → World → Prop) (hK : ∀ c S' w', SimE cx fr S' κ (st.put o.dst W) (a.put o.dst c) w' → K (a.put o.dst c) w') :
    (if Region.wanted o (yielded arr a.tmps) then o.wp cx.P a w K Q else K (a.put o.dst undef) w) := by
  have he := only_eq hl ho hag
  have exec : FSound cx o (st'.only (names arr.toList o)) W → o.wp cx.P a w K Q := fun hf => by
    rw [← he] at hf
    refine hf fr S κ a w (hs.only _) K Q fun c S' w' hq hv => hK c S' w' ((hs.quiet hq).put o.dst hv)
  rcases h with ⟨hg, hf⟩ | ⟨j, want, s, u, hg, hsl, hb, h⟩
  · rw [if_pos (wanted_none hg)]; exact exec hf
  · have hsn : hasN s (names arr.toList o) = true := by
      rw [hasN_iff]
      simp [names, hg, hsl]
    have hb' : getL st.t s = .val u := (hag s hsn).trans hb
    rcases h with ⟨rfl, hf⟩ | ⟨hbw, rfl⟩
    · rw [if_pos (by rw [wanted_some hg (yielded_slot hs hsl hb')]; simp)]
      exact exec hf
    · rw [if_neg]
      · exact hK undef S w (hs.put o.dst vrep_val)
      · rcases hbw with rfl | ⟨q, rfl⟩
        · rw [wanted_some hg (yielded_slot hs hsl hb')]; cases want <;> simp
        · rw [wanted_skip hg (yielded_undef hs hsl hb')]; simp

theorem mem_ready' {md : Region.Mode} {arr : Array Oper} {listed : Array Bool} {i : Nat} :
    i ∈ Region.ready md arr listed ↔ i < arr.size ∧ listed.getD i true = false ∧ ∃ o, arr[i]? = some o ∧ ∀ e ∈ o.after, Region.binds md e = true → listed.getD e.on false = true := by
  unfold Region.ready
  simp only [List.mem_filter, List.mem_range, Bool.and_eq_true, Bool.not_eq_true']
  constructor
  · rintro ⟨h1, h2, h3⟩
    cases ho : arr[i]? with
    | none => rw [ho] at h3; simp at h3
    | some o =>
      rw [ho] at h3
      refine ⟨h1, h2, o, rfl, fun e he hb => ?_⟩
      simp only [Option.map_some, Option.getD_some, Array.all_eq_true'] at h3
      have := h3 e he
      simp only [Bool.or_eq_true, Bool.not_eq_true'] at this
      rcases this with h | h
      · rw [hb] at h; cases h
      · exact h
  · rintro ⟨h1, h2, o, ho, h3⟩
    refine ⟨h1, h2, ?_⟩
    rw [ho]
    simp only [Option.map_some, Option.getD_some, Array.all_eq_true']
    intro e he
    simp only [Bool.or_eq_true, Bool.not_eq_true']
    cases hb : Region.binds md e
    · exact .inl rfl
    · exact .inr (h3 e he hb)

theorem mem_edges {o : Oper} {e : Nat} : e ∈ edges o ↔ ∃ x ∈ o.after, Region.binds .any x = true ∧ x.on = e := by
  unfold edges
  simp only [List.mem_map, List.mem_filter, Array.mem_toList_iff]
  constructor
  · rintro ⟨x, ⟨h1, h2⟩, h3⟩; exact ⟨x, h1, h2, h3⟩
  · rintro ⟨x, h1, h2, h3⟩; exact ⟨x, ⟨h1, h2⟩, h3⟩

theorem getD_setB (listed : Array Bool) (i j : Nat) (hi : i < listed.size) (d : Bool) : (listed.setIfInBounds i true).getD j d = if j = i then true else listed.getD j d := by
  by_cases h : j = i
  · subst h; simp [hi]
  · simp [h, Array.getElem?_setIfInBounds_ne (Ne.symm h)]

theorem getD_in {listed : Array Bool} {i : Nat} (h : i < listed.size) (d d' : Bool) : listed.getD i d = listed.getD i d' := by simp [h]

theorem wpOp_of {arr : Array Oper} {i : Nat} {o : Oper} {K : Act → World → Prop} {Q : Exit → Act → World → Prop} {P : Program} (ho : arr[i]? = some o)
    (h : if Region.wanted o (yielded arr a.tmps) then o.wp P a w K Q else K (a.put o.dst undef) w) : wpOp P arr Q i K a w := by
  unfold wpOp
  rw [ho]
  dsimp only
  split
  · rename_i hw; rw [if_pos hw] at h; exact .inl h
  · rename_i hw; rw [if_neg hw] at h; exact h

/-- the last operations, one after the other -/
theorem tail_sound (hG : GoodG cx) {arr : Array Oper} {p : Nat} (hbk : backward arr.toList 0 = true) (htail : tailOk (clos arr.toList []) p arr.toList 0 = true) :
    ∀ (n q : Nat) {st : St} {k : St → Option R} {r : R}, arr.size - q = n → q ≤ arr.size → p ≤ q →
    ops cx arr.toList (arr.toList.drop q) st k = some r → ∃ st', k st' = some r ∧ ∀ fr S κ a w (Q : Exit → Act → World → Prop) (listed : Array Bool), listed.size = arr.size →
      (∀ i, i < arr.size → listed.getD i true = decide (i < q)) → SimE cx fr S κ st a w → (∀ a' w', After cx fr st' a' w' → Q .normal a' w') → ∀ m, n ≤ m → wpAny cx.P .any arr Q m listed a w
  | 0, q, st, k, r, hn, hq, hp, h => by
    have : q = arr.size := by omega
    subst this
    rw [List.drop_of_length_le (by simp)] at h
    refine ⟨st, h, fun fr S κ a w Q listed hsz hl hs hQ m hm => ?_⟩
    have hr : Region.ready .any arr listed = [] := by
      apply List.eq_nil_iff_forall_not_mem.mpr
      intro i hi
      obtain ⟨h1, h2, _⟩ := mem_ready'.mp hi
      rw [hl i h1] at h2
      simp [h1] at h2
    cases m with
    | zero => exact ⟨hr, hQ a w ⟨S, κ, hs⟩⟩
    | succ m => exact ⟨fun _ => hQ a w ⟨S, κ, hs⟩, fun i hi => by rw [hr] at hi; cases hi⟩
  | n + 1, q, st, k, r, hn, hq, hp, h => by
    have hqlt : q < arr.size := by omega
    have hqo : arr.toList[q]? = some arr.toList[q] := List.getElem?_eq_getElem (by simpa using hqlt)
    rw [List.drop_eq_getElem_cons (by simpa using hqlt)] at h
    obtain ⟨st1, h1, h2⟩ := ops_step hG h
    obtain ⟨st', h3, h4⟩ := tail_sound hG hbk htail n (q + 1) (by omega) (by omega) (by omega) h1
    refine ⟨st', h3, fun fr S κ a w Q listed hsz hl hs hQ m hm => ?_⟩
    obtain ⟨m, rfl⟩ : ∃ m', m = m' + 1 := ⟨m - 1, by omega⟩
    refine ⟨fun hr => ?_, fun i hi => ?_⟩
    · -- q itself may come up
      exfalso
      have : q ∈ Region.ready .any arr listed := by
        refine mem_ready'.mpr ⟨hqlt, by rw [hl q hqlt]; simp, arr.toList[q], by simp [hqlt], fun e he hb => ?_⟩
        have hlt := backward_get hbk q _ hqo e.on (mem_edges.mpr ⟨e, he, hb, rfl⟩)
        rw [Nat.zero_add] at hlt
        rw [getD_in (by omega) false true, hl e.on (by omega)]
        simpa using hlt
      rw [hr] at this
      simp at this
    · obtain ⟨hi1, hi2, o, ho, he⟩ := mem_ready'.mp hi
      rw [hl i hi1] at hi2
      have hge : q ≤ i := by simpa using hi2
      have hol : arr.toList[i]? = some o := by simpa using ho
      have hiq : i = q := by
        rcases Nat.lt_or_ge q i with hlt | hle
        · exfalso
          have hbit := tail_get htail i o hol (by omega) q (by omega)
          rw [Nat.zero_add] at hbit
          have := anc_listed (all := arr.toList) (L := fun i => decide (i < q)) (fun j oj hj hLj e hej => by
            have := backward_get hbk j oj hj e hej
            simp at hLj ⊢
            omega) i o hol (fun e hee => by
              obtain ⟨x, hx1, hx2, rfl⟩ := mem_edges.mp hee
              have h5 := he x hx1 hx2
              have hlt' := backward_get hbk i o hol x.on hee
              rw [getD_in (by omega) false true, hl x.on (by omega)] at h5
              exact h5) q hbit
          simp at this
        · omega
      subst hiq
      have hoq : o = arr.toList[i] := by
        have := hol.symm.trans hqo
        simpa using this
      subst hoq
      refine wpOp_of ho (h2 fr S κ a w _ Q hs fun a' w' ⟨S', κ', hs'⟩ => ?_)
      refine h4 fr S' κ' a' w' Q _ (by simpa using hsz) (fun j hj => ?_) hs' hQ m (by omega)
      rw [getD_setB listed i j (by omega)]
      by_cases hji : j = i
      · rw [if_pos hji]; simp; omega
      · rw [if_neg hji, hl j hj]
        congr 1
        simp only [eq_iff_iff]
        omega

/-- a region whose order is drawn -/
theorem draw_sound (hG : GoodG cx) {arr : Array Oper} {id p : Nat} {st0 : St} {k : St → Option R} {r : R} (hok : drawOk arr.toList p = true) (hfol : cx.P.follows .mixedOrders = true)
    (h : opsF cx arr.toList (arr.toList.take p) st0 (fun st' => ops cx arr.toList (arr.toList.drop p) st' k) = some r) :
    ∃ st', k st' = some r ∧ ∀ fr S κ a w (Q : Exit → Act → World → Prop), SimE cx fr S κ st0 a w → (∀ a' w', After cx fr st' a' w' → Q .normal a' w') → (Code.region id arr true).wp cx.P Q a w := by
  simp only [drawOk, Bool.and_eq_true] at hok
  obtain ⟨⟨hbk, hpairs⟩, htail⟩ := hok
  obtain ⟨Ws, hW1, hW2, hW3⟩ := opsF_run hG h
  -- the number of operations of the prefix
  obtain ⟨p', hp', hp1⟩ : ∃ p', p' = min p arr.size ∧ p' ≤ arr.size := ⟨_, rfl, Nat.min_le_right _ _⟩
  have htake : arr.toList.take p = arr.toList.take p' := by rw [hp']; rw [← Array.length_toList, List.take_eq_take_min]
  have hdrop : arr.toList.drop p = arr.toList.drop p' := by
    rcases Nat.le_total p arr.size with h' | h'
    · rw [hp', Nat.min_eq_left h']
    · rw [hp', Nat.min_eq_right h', List.drop_of_length_le (by simpa using h'), List.drop_of_length_le (by simp)]
  have htail' : tailOk (clos arr.toList []) p arr.toList 0 = true := htail
  rw [htake] at hW1 hW2 hW3
  rw [hdrop] at hW3
  have hlen : (arr.toList.take p').length = p' := by simp; omega
  rw [hlen] at hW1
  have hget : ∀ i o, arr.toList[i]? = some o → i < p' → (arr.toList.take p')[i]? = some o := fun i o ho hi => by rw [List.getElem?_take_of_lt hi]; exact ho
  -- the last part
  have hlast : ∃ st', k st' = some r ∧ ∀ fr S κ a w (Q : Exit → Act → World → Prop) (listed : Array Bool), listed.size = arr.size →
      (∀ i, i < arr.size → listed.getD i true = decide (i < p')) → SimE cx fr S κ (mix (arr.toList.take p') Ws (fun _ => true) 0 st0) a w → (∀ a' w', After cx fr st' a' w' → Q .normal a' w') →
        ∀ m, arr.size - p' ≤ m → wpAny cx.P .any arr Q m listed a w := by
    by_cases hpp : p ≤ arr.size
    · exact tail_sound hG hbk htail' (arr.size - p') p' rfl hp1 (by omega) hW3
    · exact tail_sound (p := p') hG hbk (by
        have e : p' = arr.size := by omega
        rw [e]
        have : ∀ (l : List Oper) (s : Nat), s + l.length ≤ arr.size → tailOk (clos arr.toList []) arr.size l s = true := by
          intro l
          induction l with
          | nil => intro s _; rfl
          | cons x l ih =>
            intro s hs
            simp only [List.length_cons] at hs
            simp only [tailOk, Bool.and_eq_true]
            have : Nat.ble arr.size s = false := by
              cases hb : Nat.ble arr.size s with
              | false => rfl
              | true => have := Nat.le_of_ble_eq_true hb; omega
            rw [this]
            exact ⟨rfl, ih (s + 1) (by omega)⟩
        exact this _ 0 (by simp)) (arr.size - p') p' rfl hp1 (Nat.le_refl _) hW3
  obtain ⟨st', hk, hlast⟩ := hlast
  refine ⟨st', hk, fun fr S κ a w Q hs hQ => wp_region_any hfol ?_⟩
  have hs0 : SimE cx fr S κ st0 a w.drew := hs.quiet (Quiet.drew S w)
  -- any state on the way
  suffices H : ∀ (fuel : Nat) (listed : Array Bool) (S : CellSet) (a : Act) (w : World), listed.size = arr.size → (∀ i, i < arr.size → listed.getD i true = true → i < p') →
      ((List.range p').filter fun i => !listed.getD i true).length + (arr.size - p') ≤ fuel →
      (∀ (i : Nat) (o : Oper), arr.toList[i]? = some o → listed.getD i false = true → ∀ e ∈ edges o, listed.getD e false = true) →
      SimE cx fr S κ (mix (arr.toList.take p') Ws (fun i => listed.getD i false) 0 st0) a w → wpAny cx.P .any arr Q fuel listed a w by
    have hrep : ∀ i, (Array.replicate arr.size false).getD i false = false := fun i => by
      by_cases hi : i < arr.size <;> simp [hi]
    refine H arr.size (Array.replicate arr.size false) S a w.drew (by simp) (fun i hi h => by simp [hi] at h) ?_ (fun i o ho h => by rw [hrep] at h; cases h) ?_
    · have := List.length_filter_le (fun i => !(Array.replicate arr.size false).getD i true) (List.range p')
      rw [List.length_range] at this
      omega
    · rw [mix_false _ _ _ _ _ fun m hm => by rw [Nat.zero_add]; exact hrep m]
      exact hs0
  intro fuel
  induction fuel with
  | zero =>
    intro listed S a w hsz hpre hfu hcl hs
    have hall : ∀ i, i < arr.size → listed.getD i true = true := fun i hi => by
      by_cases hip : i < p'
      · cases hb : listed.getD i true with
        | true => rfl
        | false =>
          have : i ∈ (List.range p').filter fun i => !listed.getD i true := by
            rw [List.mem_filter]; exact ⟨List.mem_range.mpr hip, by rw [hb]; rfl⟩
          have := List.length_pos_of_mem this
          omega
      · omega
    have hmix : mix (arr.toList.take p') Ws (fun i => listed.getD i false) 0 st0 = mix (arr.toList.take p') Ws (fun _ => true) 0 st0 := by
      obtain ⟨l1, l2⟩ := mix_len (arr.toList.take p') Ws (fun i => listed.getD i false) 0 st0
      obtain ⟨l3, l4⟩ := mix_len (arr.toList.take p') Ws (fun _ => true) 0 st0
      have e1 : (mix (arr.toList.take p') Ws (fun i => listed.getD i false) 0 st0).t = (mix (arr.toList.take p') Ws (fun _ => true) 0 st0).t :=
        ext_getL (by rw [l1, l3]) fun t => mix_agree _ _ _ _ 0 _ _ rfl rfl fun m o hm hd => by
          have hm' : m < p' := by
            rcases Nat.lt_or_ge m p' with h' | h'
            · exact h'
            · rw [List.getElem?_eq_none (by omega)] at hm; cases hm
          rw [Nat.zero_add, getD_in (by omega) false true]
          exact hall m (by omega)
      cases hA : mix (arr.toList.take p') Ws (fun i => listed.getD i false) 0 st0
      cases hB : mix (arr.toList.take p') Ws (fun _ => true) 0 st0
      rw [hA, hB] at e1
      rw [hA] at l2
      rw [hB] at l4
      simp only at e1 l2 l4
      rw [e1, l2, l4]
    rw [hmix] at hs
    refine hlast fr S κ a w Q listed hsz (fun i hi => ?_) hs hQ 0 (by omega)
    rw [hall i hi]
    have := hpre i hi (hall i hi)
    simp [this]
  | succ fuel ih =>
    intro listed S a w hsz hpre hfu hcl hs
    by_cases hall : ∀ i, i < p' → listed.getD i true = true
    · have hmix : mix (arr.toList.take p') Ws (fun i => listed.getD i false) 0 st0 = mix (arr.toList.take p') Ws (fun _ => true) 0 st0 := by
        obtain ⟨l1, l2⟩ := mix_len (arr.toList.take p') Ws (fun i => listed.getD i false) 0 st0
        obtain ⟨l3, l4⟩ := mix_len (arr.toList.take p') Ws (fun _ => true) 0 st0
        have e1 : (mix (arr.toList.take p') Ws (fun i => listed.getD i false) 0 st0).t = (mix (arr.toList.take p') Ws (fun _ => true) 0 st0).t :=
          ext_getL (by rw [l1, l3]) fun t => mix_agree _ _ _ _ 0 _ _ rfl rfl fun m o hm hd => by
            have hm' : m < p' := by
              rcases Nat.lt_or_ge m p' with h' | h'
              · exact h'
              · rw [List.getElem?_eq_none (by omega)] at hm; cases hm
            rw [Nat.zero_add, getD_in (by omega) false true]
            exact hall m hm'
        cases hA : mix (arr.toList.take p') Ws (fun i => listed.getD i false) 0 st0
        cases hB : mix (arr.toList.take p') Ws (fun _ => true) 0 st0
        rw [hA, hB] at e1
        rw [hA] at l2
        rw [hB] at l4
        simp only at e1 l2 l4
        rw [e1, l2, l4]
      rw [hmix] at hs
      refine hlast fr S κ a w Q listed hsz (fun i hi => ?_) hs hQ (fuel + 1) (by omega)
      by_cases hip : i < p'
      · rw [hall i hip]; simp [hip]
      · cases hb : listed.getD i true with
        | false => simp [hip]
        | true => exact absurd (hpre i hi hb) hip
    · -- some operation of the prefix has not come up
      have hex : ∃ i, i < p' ∧ listed.getD i true = false ∧ ∀ j, j < i → listed.getD j true = true := by
        have hne : ∃ i, i < p' ∧ listed.getD i true = false := by
          refine Classical.byContradiction fun hn => hall fun i hi => ?_
          cases hb : listed.getD i true with
          | true => rfl
          | false => exact absurd ⟨i, hi, hb⟩ hn
        obtain ⟨i, hi, hb⟩ := hne
        induction i using Nat.strongRecOn with
        | _ i ihi =>
          by_cases hj : ∃ j, j < i ∧ listed.getD j true = false
          · obtain ⟨j, hji, hjb⟩ := hj
            exact ihi j hji (by omega) hjb
          · refine ⟨i, hi, hb, fun j hji => ?_⟩
            cases hjb : listed.getD j true with
            | true => rfl
            | false => exact absurd ⟨j, hji, hjb⟩ hj
      refine ⟨fun hr => ?_, fun i hi => ?_⟩
      · exfalso
        obtain ⟨i, hi, hb, hmin⟩ := hex
        have hio' : arr[i]? = some (arr[i]'(by omega)) := Array.getElem?_eq_getElem (by omega)
        have hio : arr.toList[i]? = some (arr[i]'(by omega)) := by rw [Array.getElem?_toList]; exact hio'
        have : i ∈ Region.ready .any arr listed := by
          refine mem_ready'.mpr ⟨by omega, hb, _, hio', fun e he hbe => ?_⟩
          have hlt := backward_get hbk i _ hio e.on (mem_edges.mpr ⟨e, he, hbe, rfl⟩)
          rw [Nat.zero_add] at hlt
          rw [getD_in (by omega) false true]
          exact hmin e.on hlt
        rw [hr] at this
        simp at this
      · obtain ⟨hi1, hi2, o, ho, he⟩ := mem_ready'.mp hi
        have hol : arr.toList[i]? = some o := by simpa using ho
        have hedge : ∀ e ∈ edges o, listed.getD e false = true := fun e hee => by
          obtain ⟨x, hx1, hx2, rfl⟩ := mem_edges.mp hee
          exact he x hx1 hx2
        have hanc := anc_listed (all := arr.toList) (L := fun i => listed.getD i false) hcl i o hol hedge
        -- it belongs to the prefix
        have hip : i < p' := by
          rcases Nat.lt_or_ge i p' with h' | h'
          · exact h'
          · exfalso
            obtain ⟨j, hj, hjb, _⟩ := hex
            have hpi : p ≤ i := by omega
            have hbit := tail_get htail i o hol (by omega) j (by omega)
            rw [Nat.zero_add] at hbit
            have := hanc j hbit
            rw [getD_in (by omega) false true, hjb] at this
            cases this
        have hoi := hget i o hol hip
        have hWi : Ws[i]? = some (Ws[i]'(by omega)) := List.getElem?_eq_getElem (by omega)
        have hGS := hW2 i o _ hoi hWi
        rw [List.take_take, Nat.min_eq_left (Nat.le_of_lt hip)] at hGS
        obtain ⟨l1, l2⟩ := mix_len (arr.toList.take p') Ws (fun i => listed.getD i false) 0 st0
        obtain ⟨l3, l4⟩ := mix_len (arr.toList.take i) (Ws.take i) (fun _ => true) 0 st0
        have hi2' : listed.getD i false = false := by rw [getD_in (by omega) false true]; exact hi2
        -- operations that share a slot are ordered
        have hconf : ∀ (m : Nat) (q : Oper), arr.toList[m]? = some q → m < p' → m ≠ i → anyIn (dstL q) (names arr.toList o) = true → listed.getD m false = decide (m < i) := fun m q hq hm hne hc => by
          rcases Nat.lt_or_gt_of_ne hne with h' | h'
          · have hbit := pairs_get hpairs i o hol m q hq (by omega) (by rw [hc]; rfl)
            rw [Nat.zero_add] at hbit
            rw [hanc m hbit]; simp [h']
          · have hbit := pairs_get hpairs m q hq i o hol (by omega) (by rw [hc]; simp)
            rw [Nat.zero_add] at hbit
            cases hb : listed.getD m false with
            | false => simp; omega
            | true =>
              have := anc_listed (all := arr.toList) (L := fun i => listed.getD i false) hcl m q hq (hcl m q hq hb) i hbit
              rw [hi2'] at this
              cases this
        have hag : ∀ t, hasN t (names arr.toList o) = true → getL (mix (arr.toList.take p') Ws (fun i => listed.getD i false) 0 st0).t t = getL (mix (arr.toList.take i) (Ws.take i) (fun _ => true) 0 st0).t t := fun t ht => by
          have hsplit : mix (arr.toList.take i) (Ws.take i) (fun _ => true) 0 st0 = mix (arr.toList.take p') Ws (fun j => decide (j < i)) 0 st0 := by
            have := mix_take (arr.toList.take p') Ws i 0 st0
            simp only [Nat.zero_add] at this
            rw [this, List.take_take, Nat.min_eq_left (Nat.le_of_lt hip)]
          rw [hsplit]
          refine mix_agree _ _ _ _ 0 _ _ rfl rfl fun m q hq hd => ?_
          rw [Nat.zero_add]
          have hm : m < p' := by
            rcases Nat.lt_or_ge m p' with h' | h'
            · exact h'
            · rw [List.getElem?_eq_none (by omega)] at hq; cases hq
          rw [List.getElem?_take_of_lt hm] at hq
          by_cases hmi : m = i
          · subst hmi; rw [hi2']; simp
          · exact hconf m q hq hm hmi (anyIn_of (x := t) (by simp [dstL, hd]) (hasN_iff.mp ht))
        refine wpOp_of ho (hGS.run (by rw [l1, l3]) (by rw [l2, l4]) hag hs _ Q fun c S' w' hs' => ?_)
        refine ih _ S' _ w' (by simpa using hsz) (fun j hj hb => ?_) ?_ (fun j q hq hb e hee => ?_) ?_
        · rw [getD_setB listed i j (by omega)] at hb
          by_cases hji : j = i
          · omega
          · rw [if_neg hji] at hb; exact hpre j hj hb
        · have hlt : ((List.range p').filter fun j => !(listed.setIfInBounds i true).getD j true).length < ((List.range p').filter fun j => !listed.getD j true).length := by
            have e : ((List.range p').filter fun j => !(listed.setIfInBounds i true).getD j true) = ((List.range p').filter fun j => !listed.getD j true).filter (fun j => !decide (j = i)) := by
              rw [List.filter_filter]
              congr 1
              funext j
              rw [getD_setB listed i j (by omega)]
              by_cases hji : j = i <;> simp [hji]
            rw [e]
            refine List.length_filter_lt_length_iff_exists.mpr ⟨i, ?_, by simp⟩
            rw [List.mem_filter]
            exact ⟨List.mem_range.mpr hip, by rw [hi2]; rfl⟩
          omega
        · rw [getD_setB listed i _ (by omega)]
          rw [getD_setB listed i _ (by omega)] at hb
          split
          · rfl
          · by_cases hji : j = i
            · subst hji
              have : q = o := by have := hq.symm.trans hol; simpa using this
              subst this
              exact hedge e hee
            · rw [if_neg hji] at hb
              exact hcl j q hq hb e hee
        · have hst : mix (arr.toList.take p') Ws (fun j => (listed.setIfInBounds i true).getD j false) 0 st0 = (mix (arr.toList.take p') Ws (fun i => listed.getD i false) 0 st0).put o.dst (Ws[i]'(by omega)) := by
            obtain ⟨l5, l6⟩ := mix_len (arr.toList.take p') Ws (fun j => (listed.setIfInBounds i true).getD j false) 0 st0
            have e1 : (mix (arr.toList.take p') Ws (fun j => (listed.setIfInBounds i true).getD j false) 0 st0).t = ((mix (arr.toList.take p') Ws (fun i => listed.getD i false) 0 st0).put o.dst (Ws[i]'(by omega))).t := by
              refine ext_getL (by rw [l5, len_put, l1]) fun t => ?_
              rw [getL_put, l1]
              by_cases ht : o.dst = some t ∧ t < st0.t.length
              · rw [if_pos ht]
                have h1 := mix_agree (t := t) (arr.toList.take p') Ws (fun j => (listed.setIfInBounds i true).getD j false) (fun j => decide (j < i + 1)) 0 st0 st0 rfl rfl fun m q hq hd => by
                  rw [Nat.zero_add, getD_setB listed i m (by omega)]
                  have hm : m < p' := by
                    rcases Nat.lt_or_ge m p' with h' | h'
                    · exact h'
                    · rw [List.getElem?_eq_none (by omega)] at hq; cases hq
                  rw [List.getElem?_take_of_lt hm] at hq
                  by_cases hmi : m = i
                  · subst hmi; simp
                  · rw [if_neg hmi, hconf m q hq hm hmi (anyIn_of (x := t) (by simp [dstL, hd]) (by unfold names; rw [ht.1]; simp; split <;> (try split) <;> simp))]
                    congr 1
                    simp only [eq_iff_iff]
                    omega
                rw [h1]
                have h2 := mix_take (arr.toList.take p') Ws (i + 1) 0 st0
                simp only [Nat.zero_add] at h2
                rw [h2, List.take_take, Nat.min_eq_left (by omega), List.take_succ_eq_append_getElem (by simp; omega), List.take_succ_eq_append_getElem (by omega), mix_snoc _ _ _ _ _ _ (by simp; omega)]
                have ho2 : arr.toList[i]'(by simp; omega) = o := by
                  have := (List.getElem?_eq_getElem (l := arr.toList) (i := i) (by simp; omega)).symm.trans hol
                  simpa using this
                rw [ho2, getL_put, if_pos ⟨ht.1, by rw [(mix_len _ _ _ _ _).1]; exact ht.2⟩]
              · rw [if_neg ht]
                by_cases htl : t < st0.t.length
                · have hd0 : o.dst ≠ some t := fun h => ht ⟨h, htl⟩
                  refine mix_agree _ _ _ _ 0 _ _ rfl rfl fun m q hq hd => ?_
                  rw [Nat.zero_add, getD_setB listed i m (by omega)]
                  have hm : m < p' := by
                    rcases Nat.lt_or_ge m p' with h' | h'
                    · exact h'
                    · rw [List.getElem?_eq_none (by omega)] at hq; cases hq
                  rw [List.getElem?_take_of_lt hm] at hq
                  by_cases hmi : m = i
                  · subst hmi
                    have := hq.symm.trans hol
                    simp only [Option.some.injEq] at this
                    subst this
                    exact absurd hd hd0
                  · rw [if_neg hmi]
                · rw [getL_ge (by rw [l5]; omega), getL_ge (by rw [l1]; omega)]
            have e2 : (mix (arr.toList.take p') Ws (fun j => (listed.setIfInBounds i true).getD j false) 0 st0).o = ((mix (arr.toList.take p') Ws (fun i => listed.getD i false) 0 st0).put o.dst (Ws[i]'(by omega))).o := by
              rw [l6, obj_put, l2]
            cases hA : mix (arr.toList.take p') Ws (fun j => (listed.setIfInBounds i true).getD j false) 0 st0
            cases hB : (mix (arr.toList.take p') Ws (fun i => listed.getD i false) 0 st0).put o.dst (Ws[i]'(by omega))
            rw [hA, hB] at e1 e2
            simp only at e1 e2
            rw [e1, e2]
          rw [hst]
          exact hs'

end Go.Proofs.Vm
