/- append on owned arrays (own work). -/
import Derived.Test.YtdnjeodgdppjdaaGreatDoorVmB
namespace Go.Proofs.Vm
open Go Go.RowKit
set_option linter.unusedVariables false
set_option linter.unusedSimpArgs false

variable {cx : Ctx} {fr : Fr} {S S' : CellSet} {κ κ' : Nat → Option CO} {st st' : St} {a a' : Act} {w w' : World} {R : Type}

/-- the cells of a data slice, one after the other -/
theorem data_cells {S : CellSet} {w : World} {e : Ty} {xs : List e.den} {c : Value} (h : rep S w (.sl e) xs [c]) :
    ∃ ad cap, c = .slice ad xs.length cap ∧ ∃ news : List Value, news.length = xs.length * e.width ∧ (∀ a, ad = some a → ∀ j v, news[j]? = some v → w.cell? (a.add j) = some v) ∧
      (ad = none → xs = []) ∧ (∀ v ∈ news, single v) ∧ ∀ (i : Nat) (x : e.den), xs[i]? = some x → rep S w e x ((news.drop (i * e.width)).take e.width) := by
  obtain ⟨ad, cap, hc, hl, he⟩ := h
  simp at hc
  refine ⟨ad, cap, hc, ?_⟩
  have he' : ∀ (i : Nat) (x : e.den), xs[i]? = some x → ∃ b o c, ad = some ⟨b, o, none⟩ ∧ rep S w e x c ∧
        ∀ (j : Nat) (v : Value), c[j]? = some v → S b (o + i * e.width + j) ∧ w.cell? ⟨b, o + i * e.width + j, none⟩ = some v := he
  clear he hl hc
  have key : ∀ (l : List e.den) (s : Nat), (∀ (i : Nat) (x : e.den), l[i]? = some x → ∃ b o c, ad = some ⟨b, o, none⟩ ∧ rep S w e x c ∧
        ∀ (j : Nat) (v : Value), c[j]? = some v → w.cell? ⟨b, o + (s + i) * e.width + j, none⟩ = some v) →
      ∃ news : List Value, news.length = l.length * e.width ∧ (∀ b o, ad = some ⟨b, o, none⟩ → ∀ j v, news[j]? = some v → w.cell? ⟨b, o + s * e.width + j, none⟩ = some v) ∧ (∀ v ∈ news, single v) ∧
        ∀ (i : Nat) (x : e.den), l[i]? = some x → rep S w e x ((news.drop (i * e.width)).take e.width) := by
    intro l
    induction l with
    | nil => intro s _; exact ⟨[], by simp, fun _ _ _ j v hv => by simp at hv, by simp, fun i x hx => by simp at hx⟩
    | cons x l ih =>
      intro s hl
      obtain ⟨b, o, c, ha, hr, hc⟩ := hl 0 x rfl
      obtain ⟨news, n1, n2, n3, n4⟩ := ih (s + 1) (fun i y hy => by
        obtain ⟨b', o', c', h1, h2, h3⟩ := hl (i + 1) y (by simpa using hy)
        exact ⟨b', o', c', h1, h2, fun j v hv => by have := h3 j v hv; rwa [show s + (i + 1) = s + 1 + i by omega] at this⟩)
      have hcl := rep_len hr
      refine ⟨c ++ news, by rw [List.length_append, hcl, n1, List.length_cons, Nat.succ_mul, Nat.add_comm], fun b' o' hb j v hv => ?_, fun v hv => ?_, fun i y hy => ?_⟩
      · rw [ha] at hb
        simp only [Option.some.injEq, Addr.mk.injEq] at hb
        obtain ⟨rfl, rfl, _⟩ := hb
        by_cases hj : j < c.length
        · rw [List.getElem?_append_left hj] at hv
          have := hc j v hv
          rwa [Nat.add_zero] at this
        · rw [List.getElem?_append_right (by omega)] at hv
          have := n2 b o ha (j - c.length) v hv
          rwa [show o + (s + 1) * e.width + (j - c.length) = o + s * e.width + j by rw [Nat.succ_mul]; omega] at this
      · rcases List.mem_append.mp hv with hv | hv
        · exact rep_single hr v hv
        · exact n3 v hv
      · cases i with
        | zero =>
          simp at hy; subst hy
          simp only [Nat.zero_mul, List.drop_zero]
          rw [List.take_append_of_le_length (by omega), List.take_of_length_le (by omega)]
          exact hr
        | succ i =>
          simp at hy
          have := n4 i y hy
          rw [Nat.succ_mul, Nat.add_comm, ← List.drop_drop, List.drop_left' hcl]
          exact this
  obtain ⟨news, n1, n2, n3, n4⟩ := key xs 0 (fun i x hx => by
    obtain ⟨b, o, c, h1, h2, h3⟩ := he' i x hx
    exact ⟨b, o, c, h1, h2, fun j v hv => by rw [Nat.zero_add]; exact (h3 j v hv).2⟩)
  refine ⟨news, n1, fun ad' ha j v hv => ?_, fun ha => ?_, n3, n4⟩
  · cases xs with
    | nil => simp at n1; subst n1; simp at hv
    | cons x l =>
      obtain ⟨b, o, c, h1, _, _⟩ := he' 0 x rfl
      rw [h1] at ha
      cases ha
      have := n2 b o h1 j v hv
      rw [add_none]
      simpa using this
  · cases xs with
    | nil => rfl
    | cons x l =>
      obtain ⟨b, o, c, h1, _, _⟩ := he' 0 x rfl
      rw [h1] at ha; cases ha

theorem run_append_empty {P : Program} {w : World} {t ty e : TypeId} {i : TypeInfo} (ht : P.underlying t = some (.slice e)) (hi : P.info? e = some i) (b : Option Addr) (n cap : Nat) (hn : n ≤ cap) (ad : Option Addr) (c : Nat) :
    (Builtin.append_ #[t, t] ty #[.slice b n cap, .slice ad 0 c]).run P w = .ok (.slice b n cap) w := by
  cases ad <;> cases b <;> simp [Builtin.append_, run_underlying ht, sizeOf, typeInfo, hi, Builtin.lenOf, hn, Builtin.firstCells, loadCells, loadCellsFrom, storeCells]

theorem run_append_in {P : Program} {w : World} {t ty e el : TypeId} {i : TypeInfo} (ht : P.underlying t = some (.slice e)) (hi : P.info? e = some i)
    {g sLen sCap : Nat} {cur : Array Value} (hg : w.heap[g]? = some (.cells cur el (0, 0)))
    {a : Addr} {m c : Nat} {news : List Value} (hl : news.length = m * i.size) (hnews : ∀ j u, news[j]? = some u → w.cell? (a.add j) = some u) (h1 : ∀ u ∈ news, u.oneCell' = true)
    (hroom : sLen + m ≤ sCap) (hfit : sLen * i.size + news.length ≤ cur.size) :
    (Builtin.append_ #[t, t] ty #[.slice (some ⟨g, 0, none⟩) sLen sCap, .slice (some a) m c]).run P w =
      .ok (.slice (some ⟨g, 0, none⟩) (sLen + m) sCap) (w.setRow g (cur.toList.take (sLen * i.size) ++ news ++ cur.toList.drop (sLen * i.size + news.length)).toArray) := by
  have hf := run_firstCells_some (P := P) w i.size m a m c news hl hnews
  have hst := run_storeCells_at P g (sLen * i.size) el news 0 cur w hg (by simpa using hfit) h1
  simp only [Nat.add_zero] at hst
  simp [Builtin.append_, run_underlying ht, sizeOf, typeInfo, hi, Builtin.lenOf, hroom, hf, Addr.add_lit, hst]

/-- what an append leaves: a row that begins with the old and the new cells -/
structure Appended (w w' : World) (base : Nat) (old : Option Addr) (ad : Option Addr) (n cap wd : Nat) (cells : List Value) : Prop where
  os : w'.os = w.os
  tape : w'.tape = w.tape
  output : w'.output = w.output
  size : w.heap.size ≤ w'.heap.size
  le : n ≤ cap
  nil : ad = none → n = 0 ∧ cap = 0
  row : ∀ x, ad = some x → ∃ el vs, x = ⟨x.block, 0, none⟩ ∧ w'.heap[x.block]? = some (.cells vs el (0, 0)) ∧ vs.size = cap * wd ∧ vs.toList.take (n * wd) = cells ∧
    (old = some x ∨ (w.heap.size ≤ x.block ∧ x.block < w'.heap.size))
  block : ∀ k, k < w.heap.size → (∀ x, old = some x → ad = some x → k ≠ x.block) → w'.heap[k]? = w.heap[k]?

theorem heap_at_drew_alloc (w : World) (o : Obj) : (w.drew.alloc o).heap[w.heap.size]? = some o := by
  show (w.heap.push o)[w.heap.size]? = some o
  simp

theorem zc_size (z : Array Value) (n : Nat) : (Builtin.zeroCells z n).toList.length = n * z.size := by simp [Builtin.zeroCells]

theorem run_append {P : Program} {w : World} {t ty e : TypeId} {i : TypeInfo} {z : Value} {wd base : Nat} (ht : P.underlying t = some (.slice e)) (hi : P.info? e = some i) (hz : i.zero = some z)
    (hw : i.size = wd) (hzs : z.cells.size = wd) (hby : i.bytes ≤ 65536)
    {ad : Option Addr} {n cap : Nat} {olds : List Value} (hle : n ≤ cap) (hnil : ad = none → n = 0 ∧ cap = 0) (hol : olds.length = n * wd)
    (hrow : ∀ x, ad = some x → ∃ el vs, x = ⟨x.block, 0, none⟩ ∧ w.heap[x.block]? = some (.cells vs el (0, 0)) ∧ vs.size = cap * wd ∧ vs.toList.take (n * wd) = olds)
    {ad2 : Option Addr} {m cap2 : Nat} {news : List Value} (hnl : news.length = m * wd) (hn2 : ∀ a, ad2 = some a → ∀ j v, news[j]? = some v → w.cell? (a.add j) = some v)
    (hnil2 : ad2 = none → m = 0) (h1 : ∀ u ∈ news, single u) (hroom : (n + m) * (i.bytes + 1) ≤ roomB) :
    ∃ ad' cap' w', (Builtin.append_ #[t, t] ty #[.slice ad n cap, .slice ad2 m cap2]).run P w = .ok (.slice ad' (n + m) cap') w' ∧ Appended w w' base ad ad' (n + m) cap' wd (olds ++ news) := by
  have hr1 : n + m ≤ roomB ∧ (n + m) * i.bytes ≤ roomB := by
    have : (n + m) * (i.bytes + 1) = (n + m) * i.bytes + (n + m) := Nat.mul_succ _ _
    omega
  have hrm : roomB = 70368744177664 := rfl
  by_cases hm : m = 0
  · subst hm
    have hnews : news = [] := List.length_eq_zero_iff.mp (by simpa using hnl)
    subst hnews
    refine ⟨ad, cap, w, run_append_empty ht hi ad n cap hle ad2 cap2, rfl, rfl, rfl, Nat.le_refl _, hle, fun h => ⟨by have := hnil h; omega, (hnil h).2⟩, fun x hx => ?_, fun _ _ _ => rfl⟩
    obtain ⟨el, vs, h1, h2, h3, h4⟩ := hrow x hx
    exact ⟨el, vs, h1, h2, h3, by simpa using h4, .inl hx⟩
  · cases ad2 with
    | none => exact absurd (hnil2 rfl) hm
    | some a2 =>
      cases ad with
      | none =>
        obtain ⟨rfl, rfl⟩ := hnil rfl
        simp only [Nat.zero_add] at hr1 ⊢
        have holds : olds = [] := List.length_eq_zero_iff.mp (by simpa using hol)
        subst holds
        have hrun := run_append_nil (P := P) w t ty e i z ht hi hz a2 m cap2 news (by rw [hw]; exact hnl) (hn2 a2 rfl) (by omega) (by omega) (by omega)
        have hge := grownCap_ge w m 0 e
        refine ⟨_, _, _, hrun, rfl, rfl, rfl, by simp, by omega, (fun h => by cases h), fun x hx => ?_, fun k hk _ => ?_⟩
        · cases hx
          refine ⟨e, _, rfl, heap_at_drew_alloc w _, ?_, ?_, .inr ⟨Nat.le_refl _, by simp⟩⟩
          · simp [Builtin.zeroCells, hnl, hzs]
            rw [← Nat.add_mul]; congr 1; omega
          · simp [← hnl]
        · exact (Below.heap_alloc w.drew _ k hk).trans rfl
      | some x =>
        obtain ⟨el, vs, hx0, hx1, hx2, hx3⟩ := hrow x rfl
        by_cases hin : n + m ≤ cap
        · have hfit : n * i.size + news.length ≤ vs.size := by
            rw [hw, hnl, hx2, ← Nat.add_mul]
            exact Nat.mul_le_mul_right _ hin
          have hrun := run_append_in (P := P) (w := w) (ty := ty) ht hi (g := x.block) (sLen := n) (sCap := cap) hx1 (a := a2) (m := m) (c := cap2) (by rw [hw]; exact hnl) (hn2 a2 rfl) (fun u hu => single_one (h1 u hu)) hin hfit
          rw [← hx0] at hrun
          refine ⟨_, _, _, hrun, rfl, rfl, rfl, by simp, hin, (fun h => by cases h), fun y hy => ?_, fun k hk hne => ?_⟩
          · cases hy
            refine ⟨el, _, hx0, setRow_heap w x.block vs _ el (0, 0) hx1, ?_, ?_, .inl rfl⟩
            · simp only [List.size_toArray, List.length_append, List.length_take, List.length_drop, Array.length_toList]
              omega
            · rw [hw, hx3, List.append_assoc]
              have : (olds ++ news).length = (n + m) * wd := by rw [List.length_append, hol, hnl, Nat.add_mul]
              rw [← this, ← List.append_assoc, List.take_left]
          · exact setRow_other w x.block k _ (hne x rfl rfl)
        · have hnx : ∀ j v, olds[j]? = some v → w.cell? (x.add j) = some v := fun j v hj => by
            rw [hx0, add_none, Nat.zero_add, cell_at hx1]
            rw [← hx3] at hj
            rw [List.getElem?_take] at hj
            split at hj
            · simpa using hj
            · cases hj
          have hcl : Builtin.nextslicecap (n + m) cap * i.bytes ≤ 281474976710656 := by
            have h2 := nextslicecap_le (need := n + m) (old := cap) (by omega)
            have h3 : Builtin.nextslicecap (n + m) cap * i.bytes ≤ 2 * (n + m) * i.bytes := Nat.mul_le_mul_right _ h2
            rw [Nat.mul_assoc] at h3
            omega
          have hrun := run_append_grow (P := P) w t ty e i z ht hi hz x n cap olds (by rw [hw]; exact hol) hnx a2 m cap2 news (by rw [hw]; exact hnl) (hn2 a2 rfl) (by omega) (by omega) hcl
          have hge := grownCap_ge w (n + m) cap e
          refine ⟨_, _, _, hrun, rfl, rfl, rfl, by simp, hge, (fun h => by cases h), fun y hy => ?_, fun k hk _ => (Below.heap_alloc w.drew _ k hk).trans rfl⟩
          cases hy
          refine ⟨e, _, rfl, heap_at_drew_alloc w _, ?_, ?_, .inr ⟨Nat.le_refl _, by simp⟩⟩
          · simp [Builtin.zeroCells, hnl, hol, hzs]
            rw [← Nat.add_mul, ← Nat.add_mul]; congr 1; omega
          · have : (olds ++ news).length = (n + m) * wd := by rw [List.length_append, hol, hnl, Nat.add_mul]
            rw [← this]
            simp only [Array.toList_append, List.toList_toArray]
            rw [List.take_left]

theorem seg_of_take {α : Type} {vs p : List α} {N A wd : Nat} (h : vs.take N = p) (hA : A + wd ≤ N) : (vs.drop A).take wd = (p.drop A).take wd := by
  subst h
  apply List.ext_getElem?
  intro k
  by_cases hk : k < wd
  · rw [List.getElem?_take_of_lt hk, List.getElem?_take_of_lt hk, List.getElem?_drop, List.getElem?_drop, List.getElem?_take_of_lt (by omega)]
  · rw [List.getElem?_take, List.getElem?_take, if_neg hk, if_neg hk]

/-- the stable cells behind an append -/
def grownS (S : CellSet) (wr : Bool) (ad : Option Addr) (N : Nat) : CellSet := fun b i => S b i ∨ (wr = false ∧ ∃ x, ad = some x ∧ b = x.block ∧ i < N)

/-- the elements of the old and of the new part -/
theorem elems_app {S : CellSet} {w : World} {e : Ty} {xs ys : List e.den} {olds news vs : List Value} (h1 : olds.length = xs.length * e.width) (h2 : news.length = ys.length * e.width)
    (hx : ∀ (i : Nat) (x : e.den), xs[i]? = some x → rep S w e x ((olds.drop (i * e.width)).take e.width))
    (hy : ∀ (i : Nat) (x : e.den), ys[i]? = some x → rep S w e x ((news.drop (i * e.width)).take e.width))
    (hv : vs.take ((xs.length + ys.length) * e.width) = olds ++ news) : elems S w e (xs ++ ys) vs := by
  intro i x hi
  have hil : i < (xs ++ ys).length := by
    rcases Nat.lt_or_ge i (xs ++ ys).length with h' | h'
    · exact h'
    · rw [List.getElem?_eq_none h'] at hi; cases hi
  have hle : i * e.width + e.width ≤ (xs.length + ys.length) * e.width := by
    have : (i + 1) * e.width ≤ (xs.length + ys.length) * e.width := Nat.mul_le_mul_right _ (by rw [List.length_append] at hil; omega)
    rwa [Nat.succ_mul] at this
  rw [seg_of_take hv hle]
  by_cases hin : i < xs.length
  · rw [List.getElem?_append_left hin] at hi
    have hle2 : i * e.width + e.width ≤ olds.length := by
      rw [h1]
      have : (i + 1) * e.width ≤ xs.length * e.width := Nat.mul_le_mul_right _ hin
      rwa [Nat.succ_mul] at this
    rw [List.drop_append_of_le_length (by omega), List.take_append_of_le_length (by simp; omega)]
    exact hx i x hi
  · rw [List.getElem?_append_right (by omega)] at hi
    have := hy _ x hi
    have hd : (olds ++ news).drop (i * e.width) = news.drop ((i - xs.length) * e.width) := by
      rw [List.drop_append]
      rw [List.drop_of_length_le (by rw [h1]; exact Nat.mul_le_mul_right _ (by omega)), List.nil_append, h1, Nat.sub_mul]
    rw [hd]
    exact this

theorem append_os_osound {o : Oper} {c : Call} {x y : Operand} {tx e : TypeId} {d id : Nat} {ty : Ty} {inf : TypeInfo} {z : List V} {xs ys : List ty.den} {wr : Bool}
    (ho : o.op = .call c) (hd : o.dst = some d) (hc : c.callee = .builtin .append) (ha : c.args.toList = [x, y]) (ht : c.argTypes.toList = [tx, tx])
    (hu : cx.P.underlying tx = some (.slice e)) (hi : cx.P.info? e = some inf) (hz : zeroCellsV cx.P e = some z) (hw : inf.size = ty.width) (hzl : z.length = ty.width) (hby : inf.bytes ≤ 65536)
    (hy : cellSl ty (st.thaw (ev cx st y)) = some ys) (hx : ev cx st x = .os id) (hf : findO st.o id = some (.arr ty xs wr)) (hroom : (xs.length + ys.length) * (inf.bytes + 1) ≤ roomB) :
    OSound cx o st { t := setL (killL id st.t) d (.os id), o := setO (killO id st.o) id (.arr ty (xs ++ ys) wr) } := by
  intro fr S κ a w hs K Q hK
  have ea : c.args = #[x, y] := Array.ext' ha
  have et : c.argTypes = #[tx, tx] := Array.ext' ht
  have hxv := hs.ev x
  rw [hx] at hxv
  simp only [vrep] at hxv
  obtain ⟨ad, n, cap, wd, hk, hxc⟩ := hxv
  obtain ⟨ad0, cap0, e1, e2, e3, e4⟩ := hs.findArr hf
  rw [hk] at e1
  simp only [Option.some.injEq, CO.arr.injEq] at e1
  obtain ⟨rfl, rfl, rfl, rfl⟩ := e1
  have hyr := cellSl_rep hy (thaw_rep hs (hs.ev y))
  obtain ⟨ad2, cap2, hyc, news, n1, n2, n3, n4, n5⟩ := data_cells hyr
  obtain ⟨zv, hz1, ⟨i', hi', hiz⟩, rfl⟩ := zeroCells_run hz
  rw [hi] at hi'; cases hi'
  have hzl' : zv.cells.size = ty.width := by simpa using hzl
  -- the old cells
  obtain ⟨olds, o1, o2, o3⟩ : ∃ olds : List Value, olds.length = xs.length * ty.width ∧ (∀ q, ad = some q → ∃ el vs, q = ⟨q.block, 0, none⟩ ∧ w.heap[q.block]? = some (.cells vs el (0, 0)) ∧ vs.size = cap * ty.width ∧ vs.toList.take (xs.length * ty.width) = olds) ∧
      (∀ (i : Nat) (x : ty.den), xs[i]? = some x → rep S w ty x ((olds.drop (i * ty.width)).take ty.width)) := by
    cases ad with
    | none =>
      have := (e3 rfl).1
      subst this
      exact ⟨[], by simp, ⟨fun q hq => (by cases hq), fun i x hx => (by simp at hx)⟩⟩
    | some q =>
      obtain ⟨el, vs, ha', hh, hsz, hbase, hS1, hS2, hel⟩ := e4 q rfl
      refine ⟨vs.toList.take (xs.length * ty.width), ?_, fun q' hq' => (by cases hq'; exact ⟨el, vs, ha', hh, hsz, rfl⟩), fun i x hx => ?_⟩
      · rw [List.length_take, show vs.toList.length = cap * ty.width by simpa using hsz]
        exact Nat.min_eq_left (Nat.mul_le_mul_right _ e2)
      · have hil : i < xs.length := by
          rcases Nat.lt_or_ge i xs.length with h' | h'
          · exact h'
          · rw [List.getElem?_eq_none h'] at hx; cases hx
        have hle : i * ty.width + ty.width ≤ xs.length * ty.width := by
          have : (i + 1) * ty.width ≤ xs.length * ty.width := Nat.mul_le_mul_right _ hil
          rwa [Nat.succ_mul] at this
        rw [← seg_of_take rfl hle]
        exact hel i x hx
  have hnil : ad = none → xs.length = 0 ∧ cap = 0 := fun h => ⟨by rw [(e3 h).1]; rfl, (e3 h).2⟩
  obtain ⟨ad', cap', w', hrun, happ⟩ := run_append (P := cx.P) (w := w) (t := tx) (ty := o.type) (base := 0) (cap2 := cap2) hu hi hiz hw hzl' hby e2 hnil o1 o2 n1 n2 (fun h => by rw [n3 h]; rfl) n4 hroom
  have hrun' : (execOp a.eval o).run cx.P w = .ok (.value (.slice ad' (xs.length + ys.length) cap')) w' := by
    simp [execOp, ho, resolve, hc, ea, et, invoke, builtin, hxc, hyc, hrun]
  unfold Oper.wp
  rw [hrun', Oper.upon_value, hd]
  -- what is known of the old block
  have hold : ∀ q, ad = some q → q.block < w.heap.size ∧ fr.base ≤ q.block ∧ (∀ o, S q.block o → wr = false ∧ o < xs.length * ty.width) ∧ (wr = false → ∀ o, o < xs.length * ty.width → S q.block o) := fun q hq => by
    obtain ⟨el, vs, _, hh, _, hbase, hS1, hS2, _⟩ := e4 q hq
    exact ⟨heap_lt hh, hbase, hS1, hS2⟩
  have hcell : ∀ b o', S b o' → w'.cell? ⟨b, o', none⟩ = w.cell? ⟨b, o', none⟩ := fun b o' hb => by
    by_cases hq : ∃ q, ad = some q ∧ ad' = some q ∧ b = q.block
    · obtain ⟨q, hq1, hq2, rfl⟩ := hq
      obtain ⟨el, vs, _, hh, hsz, ht1⟩ := o2 q hq1
      obtain ⟨el', vs', _, hh', hsz', ht', _⟩ := happ.row q hq2
      have hlt := ((hold q hq1).2.2.1 o' hb).2
      rw [cell_at hh, cell_at hh']
      have h1 : vs'.toList[o']? = (olds ++ news)[o']? := by
        rw [← ht', List.getElem?_take_of_lt]
        have : xs.length * ty.width ≤ (xs.length + ys.length) * ty.width := Nat.mul_le_mul_right _ (by omega)
        omega
      have h2 : vs.toList[o']? = olds[o']? := by rw [← ht1, List.getElem?_take_of_lt hlt]
      rw [List.getElem?_append_left (by omega), ← h2] at h1
      simpa using h1
    · exact cell_of_block (happ.block b (hs.sz _ _ hb) fun q h1 h2 h3 => hq ⟨q, h1, h2, h3⟩)
  have hcellB : ∀ b o', fr.B S b o' → w'.cell? ⟨b, o', none⟩ = w.cell? ⟨b, o', none⟩ := fun b o' hb => by
    rcases hb with hb | ⟨hb, hm⟩
    · exact hcell b o' hb
    · refine cell_of_block (happ.block b (Nat.lt_of_lt_of_le hb hs.kp.size) fun q h1 h2 h3 => ?_)
      have := (hold q h1).2.1
      omega
  have hle : (fr.env S w κ).Le (fr.env (grownS S wr ad' ((xs.length + ys.length) * ty.width)) w' fun i => if i = id then some (.arr ad' (xs.length + ys.length) cap' ty.width) else κ i) :=
    ⟨fun b o h => .inl h, fun b o h => h.imp .inl (fun h => h), hcell, hcellB⟩
  have hnew : ∀ q, ad' = some q → fr.base ≤ q.block ∧ q.block < w'.heap.size ∧ (∀ o, S q.block o → wr = false ∧ o < (xs.length + ys.length) * ty.width) := fun q hq => by
    obtain ⟨_, _, _, _, _, _, hor⟩ := happ.row q hq
    have hmul : xs.length * ty.width ≤ (xs.length + ys.length) * ty.width := Nat.mul_le_mul_right _ (by omega)
    rcases hor with hor | ⟨h1, h2⟩
    · obtain ⟨h3, h4, h5, _⟩ := hold q hor
      exact ⟨h4, Nat.lt_of_lt_of_le h3 happ.size, fun o ho => ⟨(h5 o ho).1, by have := (h5 o ho).2; omega⟩⟩
    · exact ⟨Nat.le_trans hs.kp.size h1, h2, fun o ho => absurd (hs.sz _ _ ho) (Nat.not_lt.mpr h1)⟩
  refine hK _ _ (grownS S wr ad' ((xs.length + ys.length) * ty.width)) (fun i => if i = id then some (.arr ad' (xs.length + ys.length) cap' ty.width) else κ i) ?_
  refine hs.renew id hle (fun i hi => by simp [hi]) (fun i q hq => ?_) (fun i q hq hi' c' b hc' hb => ?_) (fun b o' h' => ?_) (fun b o' h' => ?_) ?_ ?_ hs.df ?_ (fun c hc => by
    have h1 := hs.pk id _ (findO_mem hf) c hc
    obtain ⟨b, rfl⟩ := (fr.hK0 id c hc).2
    rw [show κ id = _ from hk] at h1
    simp at h1)
  · rcases mem_setO (by rw [keys_killO]; exact hs.nd) hq with ⟨rfl, rfl⟩ | ⟨hi', hm⟩
    · refine .inl ⟨rfl, ad', cap', by simp [Fr.env], by simpa using happ.le, fun h => ?_, fun q hq => ?_⟩
      · obtain ⟨h0, h1⟩ := happ.nil h
        have hx0 : xs = [] := List.length_eq_zero_iff.mp (by omega)
        have hy0 : ys = [] := List.length_eq_zero_iff.mp (by omega)
        exact ⟨by rw [hx0, hy0]; rfl, h1⟩
      · obtain ⟨el', vs', ha', hh', hsz', ht', _⟩ := happ.row q hq
        refine ⟨el', vs', ha', hh', hsz', (hnew q hq).1, fun o' h' => ?_, fun h' o' ho' => ?_, ?_⟩
        · rw [List.length_append]
          rcases h' with h' | ⟨h', q', hq', _, h2⟩
          · exact (hnew q hq).2.2 o' h'
          · exact ⟨h', h2⟩
        · rw [List.length_append] at ho'
          exact .inr ⟨h', q, hq, rfl, ho'⟩
        · refine elems_app o1 n1 (fun i x hx => rep_mono hle.S hle.cS (o3 i x hx)) (fun i x hx => rep_mono hle.S hle.cS (n5 i x hx)) ht'
    · obtain ⟨y', hy', rfl⟩ := mem_killO hm
      exact .inr ⟨hi', y', hy', .inr rfl⟩
  · obtain ⟨c'', h1, h2⟩ := orep_blk (hs.ob i q hq)
    have : c'' = c' := by have := h1.symm.trans hc'; simpa using this
    subst this
    have hlt := (h2 b hb).1
    have hne : ∀ q', ad = some q' → b ≠ q'.block := fun q' hq' => by
      have := hs.di i q id _ hq (findO_mem hf) hi' c'' _ b hc' hk hb
      rw [hq'] at this
      simpa [blkOf, eq_comm] using this
    have hne' : ∀ q', ad' = some q' → b ≠ q'.block := fun q' hq' => by
      obtain ⟨_, _, _, _, _, _, hor⟩ := happ.row q' hq'
      rcases hor with hor | ⟨h1, h2⟩
      · exact hne q' hor
      · intro e; have := show b < w.heap.size from hlt; omega
    refine ⟨happ.block b hlt fun q' h1 h2 => hne q' h1, fun o' h' => ?_, fun c1 hc1 hb1 => ?_⟩
    · rcases h' with h' | ⟨_, q', hq', h', _⟩
      · exact h'
      · exact absurd h' (hne' q' hq')
    · simp at hc1
      subst hc1
      cases hadc : ad' with
      | none => rw [hadc] at hb1; simp [blkOf] at hb1
      | some q' =>
        rw [hadc] at hb1
        simp only [blkOf, Option.some.injEq] at hb1
        exact hne' q' hadc hb1.symm
  · rcases h' with h' | ⟨_, q', hq', rfl, _⟩
    · exact Nat.lt_of_lt_of_le (hs.sz _ _ h') happ.size
    · exact (hnew q' hq').2.1
  · rcases h' with h' | ⟨_, q', hq', rfl, _⟩
    · exact .inl h'
    · exact .inr (hnew q' hq').1
  · refine ⟨happ.os.trans hs.kp.os, happ.tape.trans hs.kp.tape, happ.output.trans hs.kp.output, Nat.le_trans hs.kp.size happ.size, fun b hb hm => ?_⟩
    refine (happ.block b (Nat.lt_of_lt_of_le hb hs.kp.size) fun q h1 h2 h3 => ?_).trans (hs.kp.block b hb hm)
    have := (hold q h1).2.1
    omega
  · have := vrepL_set (vrepL_kill (id := id) hle (fun i hi => by simp [Fr.env, hi]) hs.tm) d (v := .os id) (c := .slice ad' (xs.length + ys.length) cap') (by
      simp only [vrep]; exact ⟨ad', _, cap', ty.width, by simp [Fr.env], rfl⟩)
    simpa [setL_eq, Act.put] using this
  · rw [keys_setO, keys_killO]; exact hs.nd

theorem append_nil_osound {d : Nat} (hlt : ¬ (100000 ≤ d ∧ d < 200000)) {o : Oper} {c : Call} {x y : Operand} {tx e : TypeId} {ty : Ty} {inf : TypeInfo} {z : List V} {ys : List ty.den}
    (ho : o.op = .call c) (hd : o.dst = some d) (hc : c.callee = .builtin .append) (ha : c.args.toList = [x, y]) (ht : c.argTypes.toList = [tx, tx])
    (hu : cx.P.underlying tx = some (.slice e)) (hi : cx.P.info? e = some inf) (hz : zeroCellsV cx.P e = some z) (hw : inf.size = ty.width) (hzl : z.length = ty.width) (hby : inf.bytes ≤ 65536)
    (hy : cellSl ty (st.thaw (ev cx st y)) = some ys) (hx : ev cx st x = .val (.slice none 0 0)) (hroom : ys.length * (inf.bytes + 1) ≤ roomB) :
    OSound cx o st (st.new d (.arr ty ys false) (.os d)) := by
  intro fr S κ a w hs K Q hK
  have ea : c.args = #[x, y] := Array.ext' ha
  have et : c.argTypes = #[tx, tx] := Array.ext' ht
  have hxv := hs.ev x
  rw [hx] at hxv
  simp only [vrep] at hxv
  have hyr := cellSl_rep hy (thaw_rep hs (hs.ev y))
  obtain ⟨ad2, cap2, hyc, news, n1, n2, n3, n4, n5⟩ := data_cells hyr
  obtain ⟨zv, hz1, ⟨i', hi', hiz⟩, rfl⟩ := zeroCells_run hz
  rw [hi] at hi'; cases hi'
  have hzl' : zv.cells.size = ty.width := by simpa using hzl
  obtain ⟨ad', cap', w', hrun, happ⟩ := run_append (P := cx.P) (w := w) (t := tx) (ty := o.type) (base := 0) (ad := none) (n := 0) (cap := 0) (olds := []) (cap2 := cap2) hu hi hiz hw hzl' hby
    (Nat.le_refl _) (fun _ => ⟨rfl, rfl⟩) (by simp) (fun x hx => by cases hx) n1 n2 (fun h => by rw [n3 h]; rfl) n4 (by rw [Nat.zero_add]; exact hroom)
  have hrun' : (execOp a.eval o).run cx.P w = .ok (.value (.slice ad' (0 + ys.length) cap')) w' := by
    simp only [execOp, ho, resolve, hc, ea, et]
    simp [invoke, builtin, hxv, hyc, hrun]
  unfold Oper.wp
  rw [hrun', Oper.upon_value, hd]
  simp only [Nat.zero_add, List.nil_append] at happ ⊢
  have hblk : ∀ b, b < w.heap.size → w'.heap[b]? = w.heap[b]? := fun b hb => happ.block b hb fun x hx => by cases hx
  have hnew : ∀ q, ad' = some q → w.heap.size ≤ q.block ∧ q.block < w'.heap.size := fun q hq => by
    obtain ⟨_, _, _, _, _, _, hor⟩ := happ.row q hq
    rcases hor with hor | h
    · cases hor
    · exact h
  have hle : (fr.env S w κ).Le (fr.env (grownS S false ad' (ys.length * ty.width)) w' fun i => if i = d then some (.arr ad' ys.length cap' ty.width) else κ i) :=
    ⟨fun b o h => .inl h, fun b o h => h.imp .inl (fun h => h), fun b o h => cell_of_block (hblk b (hs.sz _ _ h)), fun b o h => cell_of_block (hblk b (hs.b_lt h))⟩
  refine hK _ _ (grownS S false ad' (ys.length * ty.width)) (fun i => if i = d then some (.arr ad' ys.length cap' ty.width) else κ i) ?_
  refine hs.newObj d (co := .arr ad' ys.length cap' ty.width) hle hblk (fun b o h => ?_) happ.size (fun b hb => ?_) ?_ ?_ ?_ d hlt
  · rcases h with h | ⟨_, q, hq, rfl, _⟩
    · exact .inl h
    · exact .inr (hnew q hq)
  · cases hadc : ad' with
    | none => rw [hadc] at hb; simp [blkOf] at hb
    | some q =>
      rw [hadc] at hb
      simp only [blkOf, Option.some.injEq] at hb
      subst hb
      exact (hnew q hadc).1
  · refine ⟨ad', cap', by simp [Fr.env], happ.le, fun h => ?_, fun q hq => ?_⟩
    · obtain ⟨h0, h1⟩ := happ.nil h
      exact ⟨List.length_eq_zero_iff.mp h0, h1⟩
    · obtain ⟨el', vs', ha', hh', hsz', ht', _⟩ := happ.row q hq
      refine ⟨el', vs', ha', hh', hsz', Nat.le_trans hs.kp.size (hnew q hq).1, fun o' h' => ?_, fun h' o' ho' => .inr ⟨h', q, hq, rfl, ho'⟩, ?_⟩
      · rcases h' with h' | ⟨h', q', hq', _, h2⟩
        · exact absurd (hs.sz _ _ h') (Nat.not_lt.mpr (hnew q hq).1)
        · exact ⟨h', h2⟩
      · have := elems_app (S := (grownS S false ad' (ys.length * ty.width))) (w := w') (xs := ([] : List ty.den)) (olds := []) (by simp) n1 (fun i x hx => by simp at hx) (fun i x hx => rep_mono hle.S hle.cS (n5 i x hx)) (by simpa using ht')
        rw [List.nil_append] at this
        exact this
  · simp only [vrep]
    exact ⟨ad', _, cap', ty.width, by simp [Fr.env], rfl⟩
  · exact ⟨happ.os.trans hs.kp.os, happ.tape.trans hs.kp.tape, happ.output.trans hs.kp.output, Nat.le_trans hs.kp.size happ.size,
      fun b hb hm => (hblk b (Nat.lt_of_lt_of_le hb hs.kp.size)).trans (hs.kp.block b hb hm)⟩

end Go.Proofs.Vm
