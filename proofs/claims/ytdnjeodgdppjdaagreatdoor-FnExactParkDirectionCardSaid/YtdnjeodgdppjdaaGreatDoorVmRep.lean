/- What the executor's values stand for in a world of the model, and what keeps that (own work). -/
import Derived.Test.YtdnjeodgdppjdaaGreatDoorVmDefs
namespace Go.Proofs.Vm
open Go
set_option linter.unusedVariables false

abbrev CellSet := Nat → Nat → Prop

def rep (S : CellSet) (w : World) : (t : Ty) → t.den → List Value → Prop
  | .int k, n, cs => cs = [.int k n]
  | .bool, b, cs => cs = [.bool b]
  | .str, s, cs => cs = [.string s]
  | .unit, _, cs => cs = []
  | .pair a b, x, cs => ∃ c1 c2, cs = c1 ++ c2 ∧ rep S w a x.1 c1 ∧ rep S w b x.2 c2
  | .sl e, xs, cs => ∃ ad cap, cs = [.slice ad (List.length xs) cap] ∧ List.length xs ≤ cap ∧
      ∀ (i : Nat) (x : e.den), (show List e.den from xs)[i]? = some x → ∃ b o c, ad = some ⟨b, o, none⟩ ∧ rep S w e x c ∧
        ∀ (j : Nat) (v : Value), c[j]? = some v → S b (o + i * e.width + j) ∧ w.cell? ⟨b, o + i * e.width + j, none⟩ = some v

theorem rep_len {S : CellSet} {w : World} : ∀ {t : Ty} {x : t.den} {cs : List Value}, rep S w t x cs → cs.length = t.width
  | .int k, x, cs, h => by simp only [rep] at h; subst h; rfl
  | .bool, x, cs, h => by simp only [rep] at h; subst h; rfl
  | .str, x, cs, h => by simp only [rep] at h; subst h; rfl
  | .unit, x, cs, h => by simp only [rep] at h; subst h; rfl
  | .pair a b, x, cs, h => by
    obtain ⟨c1, c2, rfl, h1, h2⟩ := h
    simp [Ty.width, rep_len h1, rep_len h2]
  | .sl e, x, cs, h => by obtain ⟨ad, cap, rfl, _⟩ := h; rfl

theorem rep_mono {S S' : CellSet} {w w' : World} (hS : ∀ b o, S b o → S' b o)
    (hw : ∀ b o, S b o → w'.cell? ⟨b, o, none⟩ = w.cell? ⟨b, o, none⟩) :
    ∀ {t : Ty} {x : t.den} {cs : List Value}, rep S w t x cs → rep S' w' t x cs
  | .int k, x, cs, h => h
  | .bool, x, cs, h => h
  | .str, x, cs, h => h
  | .unit, x, cs, h => h
  | .pair a b, x, cs, h => by
    obtain ⟨c1, c2, rfl, h1, h2⟩ := h
    exact ⟨c1, c2, rfl, rep_mono hS hw h1, rep_mono hS hw h2⟩
  | .sl e, x, cs, h => by
    obtain ⟨ad, cap, rfl, hl, h⟩ := h
    refine ⟨ad, cap, rfl, hl, fun i x hx => ?_⟩
    obtain ⟨b, o, c, ha, hr, hc⟩ := h i x hx
    exact ⟨b, o, c, ha, rep_mono hS hw hr, fun j v hv => ⟨hS _ _ (hc j v hv).1, (hw _ _ (hc j v hv).1).trans (hc j v hv).2⟩⟩

/-- what an object is in memory -/
inductive CO where
  | box (b : Nat)
  | arr (ad : Option Addr) (n cap wd : Nat)

structure Env where
  S : CellSet
  B : CellSet
  w : World
  κ : Nat → Option CO

/-- without objects: what is read through a frozen pointer leads to none -/
def Env.nok (E : Env) : Env := { E with κ := fun _ => none }

mutual
def vrep : Env → V → Value → Prop
  | _, .undef, _ => True
  | _, .val v, c => c = v
  | E, .sl e xs, c => rep E.S E.w (.sl e) xs [c]
  | E, .os id, c => ∃ ad n cap wd, E.κ id = some (.arr ad n cap wd) ∧ c = .slice ad n cap
  | E, .vref id off, c => ∃ b, E.κ id = some (.box b) ∧ c = .pointer (some ⟨b, off, none⟩)
  | E, .pc cs off, c => ∃ b o, c = .pointer (some ⟨b, o + off, none⟩) ∧ rowAt E.nok cs b o
  | E, .pa e xs, c => ∃ b o, c = .pointer (some ⟨b, o, none⟩) ∧ ∀ (i : Nat) (x : e.den), xs[i]? = some x → ∃ cs, rep E.S E.w e x cs ∧
      ∀ (j : Nat) (v : Value), cs[j]? = some v → E.B b (o + i * e.width + j) ∧ E.w.cell? ⟨b, o + i * e.width + j, none⟩ = some v
  | E, .pe id i off, c => ∃ a n cap wd, E.κ id = some (.arr (some a) n cap wd) ∧ i < n ∧ c = .pointer (some ⟨a.block, i * wd + off, none⟩)
  | E, .fn f caps, c => ∃ vs, c = .func (.func f) #[] vs ∧ vrepL E caps vs.toList
  | E, .agg cs, c => ∃ vs, c = .agg vs ∧ vrepL E cs vs.toList
  | E, .tup cs, c => ∃ vs, c = .tuple vs ∧ vrepL E cs vs.toList
  | _, .mb _, _ => False
def vrepL : Env → List V → List Value → Prop
  | _, [], vs => vs = []
  | E, v :: l, vs => ∃ c r, vs = c :: r ∧ vrep E v c ∧ vrepL E l r
def rowAt : Env → List V → Nat → Nat → Prop
  | _, [], _, _ => True
  | E, v :: l, b, o => (∃ c, E.B b o ∧ E.w.cell? ⟨b, o, none⟩ = some c ∧ vrep E v c) ∧ rowAt E l b (o + 1)
end

theorem vrepL_len {E : Env} : ∀ {l : List V} {vs : List Value}, vrepL E l vs → vs.length = l.length
  | [], vs, h => by simp only [vrepL] at h; subst h; rfl
  | v :: l, vs, h => by
    simp only [vrepL] at h
    obtain ⟨c, r, rfl, _, hr⟩ := h
    simp [vrepL_len hr]

theorem vrepL_get {E : Env} : ∀ {l : List V} {vs : List Value}, vrepL E l vs → ∀ {i : Nat} {v : V}, l[i]? = some v → ∃ c, vs[i]? = some c ∧ vrep E v c
  | [], vs, h, i, v, hv => by simp at hv
  | x :: l, vs, h, i, v, hv => by
    simp only [vrepL] at h
    obtain ⟨c, r, rfl, hc, hr⟩ := h
    cases i with
    | zero => simp at hv; subst hv; exact ⟨c, rfl, hc⟩
    | succ i => simp at hv; simpa using vrepL_get hr hv

theorem vrepL_of {E : Env} : ∀ {l : List V} {vs : List Value}, vs.length = l.length → (∀ (i : Nat) (v : V) (c : Value), l[i]? = some v → vs[i]? = some c → vrep E v c) → vrepL E l vs
  | [], vs, h, _ => by simp only [vrepL]; exact List.length_eq_zero_iff.mp h
  | x :: l, [], h, _ => by simp at h
  | x :: l, c :: r, h, hv => by
    simp only [vrepL]
    exact ⟨c, r, rfl, hv 0 x c rfl rfl, vrepL_of (by simpa using h) fun i v c hl hr => hv (i + 1) v c (by simpa using hl) (by simpa using hr)⟩

theorem vrepL_append {E : Env} : ∀ {l m : List V} {vs ws : List Value}, vrepL E l vs → vrepL E m ws → vrepL E (l ++ m) (vs ++ ws)
  | [], m, vs, ws, h, k => by simp only [vrepL] at h; subst h; simpa using k
  | x :: l, m, vs, ws, h, k => by
    simp only [vrepL] at h
    obtain ⟨c, r, rfl, hc, hr⟩ := h
    simp only [List.cons_append, vrepL]
    exact ⟨c, r ++ ws, rfl, hc, vrepL_append hr k⟩

theorem vrepL_drop {E : Env} : ∀ (n : Nat) {l : List V} {vs : List Value}, vrepL E l vs → vrepL E (l.drop n) (vs.drop n)
  | 0, l, vs, h => by simpa using h
  | n + 1, [], vs, h => by simp only [vrepL] at h; subst h; simp [vrepL]
  | n + 1, x :: l, vs, h => by
    simp only [vrepL] at h
    obtain ⟨c, r, rfl, hc, hr⟩ := h
    simpa using vrepL_drop n hr

theorem vrepL_take {E : Env} : ∀ (n : Nat) {l : List V} {vs : List Value}, vrepL E l vs → vrepL E (l.take n) (vs.take n)
  | 0, l, vs, h => by simp [vrepL]
  | n + 1, [], vs, h => by simp only [vrepL] at h; subst h; simp [vrepL]
  | n + 1, x :: l, vs, h => by
    simp only [vrepL] at h
    obtain ⟨c, r, rfl, hc, hr⟩ := h
    simp only [List.take_succ_cons, vrepL]
    exact ⟨c, _, rfl, hc, vrepL_take n hr⟩

theorem rowAt_get {E : Env} : ∀ {l : List V} {b o : Nat}, rowAt E l b o → ∀ {i : Nat} {v : V}, l[i]? = some v → ∃ c, E.B b (o + i) ∧ E.w.cell? ⟨b, o + i, none⟩ = some c ∧ vrep E v c
  | [], b, o, h, i, v, hv => by simp at hv
  | x :: l, b, o, h, i, v, hv => by
    simp only [rowAt] at h
    obtain ⟨⟨c, h1, h2, h3⟩, hr⟩ := h
    cases i with
    | zero => simp at hv; subst hv; exact ⟨c, h1, h2, h3⟩
    | succ i =>
      simp at hv
      have := rowAt_get hr hv
      rwa [show o + 1 + i = o + (i + 1) by omega] at this

theorem rowAt_of {E : Env} {b : Nat} : ∀ {l : List V} {vs : List Value} {o : Nat}, vrepL E l vs →
    (∀ (j : Nat) (c : Value), vs[j]? = some c → E.B b (o + j) ∧ E.w.cell? ⟨b, o + j, none⟩ = some c) → rowAt E l b o
  | [], vs, o, _, _ => by simp [rowAt]
  | x :: l, vs, o, h, hc => by
    simp only [vrepL] at h
    obtain ⟨c, r, rfl, hx, hr⟩ := h
    simp only [rowAt]
    refine ⟨⟨c, (hc 0 c rfl).1, (hc 0 c rfl).2, hx⟩, rowAt_of hr fun j c' hj => ?_⟩
    have := hc (j + 1) c' (by simpa using hj)
    rwa [show o + (j + 1) = o + 1 + j by omega] at this

/-! ### What keeps it -/
structure Env.Le (E E' : Env) : Prop where
  S : ∀ b o, E.S b o → E'.S b o
  B : ∀ b o, E.B b o → E'.B b o
  cS : ∀ b o, E.S b o → E'.w.cell? ⟨b, o, none⟩ = E.w.cell? ⟨b, o, none⟩
  cB : ∀ b o, E.B b o → E'.w.cell? ⟨b, o, none⟩ = E.w.cell? ⟨b, o, none⟩

theorem Env.Le.nok {E E' : Env} (h : E.Le E') : E.nok.Le E'.nok := ⟨h.S, h.B, h.cS, h.cB⟩
theorem Env.Le.refl (E : Env) : E.Le E := ⟨fun _ _ h => h, fun _ _ h => h, fun _ _ _ => rfl, fun _ _ _ => rfl⟩
theorem Env.Le.trans {E F G : Env} (h : E.Le F) (k : F.Le G) : E.Le G :=
  ⟨fun b o x => k.S _ _ (h.S _ _ x), fun b o x => k.B _ _ (h.B _ _ x), fun b o x => (k.cS _ _ (h.S _ _ x)).trans (h.cS _ _ x), fun b o x => (k.cB _ _ (h.B _ _ x)).trans (h.cB _ _ x)⟩

mutual
theorem vrep_mono {E E' : Env} (h : E.Le E') (hk : ∀ i, E'.κ i = E.κ i) : ∀ {v : V} {c : Value}, vrep E v c → vrep E' v c
  | .undef, c, _ => by simp [vrep]
  | .val v, c, hv => by simpa [vrep] using hv
  | .sl e xs, c, hv => by simp only [vrep] at *; exact rep_mono h.S h.cS hv
  | .os id, c, hv => by simp only [vrep] at *; rwa [hk]
  | .vref id off, c, hv => by simp only [vrep] at *; rwa [hk]
  | .pc cs off, c, hv => by
    simp only [vrep] at *
    obtain ⟨b, o, hc, hr⟩ := hv
    exact ⟨b, o, hc, rowAt_mono h.nok (fun _ => rfl) hr⟩
  | .pa e xs, c, hv => by
    simp only [vrep] at *
    obtain ⟨b, o, hc, hr⟩ := hv
    refine ⟨b, o, hc, fun i x hx => ?_⟩
    obtain ⟨cs, h1, h2⟩ := hr i x hx
    exact ⟨cs, rep_mono h.S h.cS h1, fun j v hj => ⟨h.B _ _ (h2 j v hj).1, (h.cB _ _ (h2 j v hj).1).trans (h2 j v hj).2⟩⟩
  | .pe id i off, c, hv => by simp only [vrep] at *; rwa [hk]
  | .fn f caps, c, hv => by
    simp only [vrep] at *
    obtain ⟨vs, hc, hr⟩ := hv
    exact ⟨vs, hc, vrepL_mono h hk hr⟩
  | .agg cs, c, hv => by
    simp only [vrep] at *
    obtain ⟨vs, hc, hr⟩ := hv
    exact ⟨vs, hc, vrepL_mono h hk hr⟩
  | .tup cs, c, hv => by
    simp only [vrep] at *
    obtain ⟨vs, hc, hr⟩ := hv
    exact ⟨vs, hc, vrepL_mono h hk hr⟩
  | .mb cs, c, hv => by simp [vrep] at hv
theorem vrepL_mono {E E' : Env} (h : E.Le E') (hk : ∀ i, E'.κ i = E.κ i) : ∀ {l : List V} {vs : List Value}, vrepL E l vs → vrepL E' l vs
  | [], vs, hv => by simpa [vrepL] using hv
  | v :: l, vs, hv => by
    simp only [vrepL] at *
    obtain ⟨c, r, hc, h1, h2⟩ := hv
    exact ⟨c, r, hc, vrep_mono h hk h1, vrepL_mono h hk h2⟩
theorem rowAt_mono {E E' : Env} (h : E.Le E') (hk : ∀ i, E'.κ i = E.κ i) : ∀ {l : List V} {b o : Nat}, rowAt E l b o → rowAt E' l b o
  | [], b, o, _ => by simp [rowAt]
  | v :: l, b, o, hv => by
    simp only [rowAt] at *
    obtain ⟨⟨c, h1, h2, h3⟩, h4⟩ := hv
    exact ⟨⟨c, h.B _ _ h1, (h.cB _ _ h1).trans h2, vrep_mono h hk h3⟩, rowAt_mono h hk h4⟩
end

mutual
theorem vrep_kill {E E' : Env} {id : Nat} (h : E.Le E') (hk : ∀ i, i ≠ id → E'.κ i = E.κ i) : ∀ {v : V} {c : Value}, vrep E v c → vrep E' (v.kill id) c
  | .undef, c, _ => by simp [vrep, V.kill]
  | .val v, c, hv => by simpa [vrep, V.kill] using hv
  | .sl e xs, c, hv => by simp only [vrep, V.kill] at *; exact rep_mono h.S h.cS hv
  | .os i, c, hv => by
    simp only [V.kill]
    split
    · simp [vrep]
    · rename_i hne
      simp only [vrep] at *
      rwa [hk _ (fun e => by simp [e] at hne)]
  | .vref i off, c, hv => by
    simp only [V.kill]
    split
    · simp [vrep]
    · rename_i hne
      simp only [vrep] at *
      rwa [hk _ (fun e => by simp [e] at hne)]
  | .pc cs off, c, hv => by
    simp only [vrep, V.kill] at *
    obtain ⟨b, o, hc, hr⟩ := hv
    exact ⟨b, o, hc, rowAt_mono h.nok (fun _ => rfl) hr⟩
  | .pa e xs, c, hv => by
    simp only [vrep, V.kill] at *
    obtain ⟨b, o, hc, hr⟩ := hv
    refine ⟨b, o, hc, fun i x hx => ?_⟩
    obtain ⟨cs, h1, h2⟩ := hr i x hx
    exact ⟨cs, rep_mono h.S h.cS h1, fun j v hj => ⟨h.B _ _ (h2 j v hj).1, (h.cB _ _ (h2 j v hj).1).trans (h2 j v hj).2⟩⟩
  | .pe i j off, c, hv => by
    simp only [V.kill]
    split
    · simp [vrep]
    · rename_i hne
      simp only [vrep] at *
      rwa [hk _ (fun e => by simp [e] at hne)]
  | .fn f caps, c, hv => by
    simp only [vrep, V.kill] at *
    obtain ⟨vs, hc, hr⟩ := hv
    exact ⟨vs, hc, vrepL_killgo h hk hr⟩
  | .agg cs, c, hv => by
    simp only [vrep, V.kill] at *
    obtain ⟨vs, hc, hr⟩ := hv
    exact ⟨vs, hc, vrepL_killgo h hk hr⟩
  | .tup cs, c, hv => by
    simp only [vrep, V.kill] at *
    obtain ⟨vs, hc, hr⟩ := hv
    exact ⟨vs, hc, vrepL_killgo h hk hr⟩
  | .mb cs, c, hv => by simp [vrep] at hv
theorem vrepL_killgo {E E' : Env} {id : Nat} (h : E.Le E') (hk : ∀ i, i ≠ id → E'.κ i = E.κ i) : ∀ {l : List V} {vs : List Value}, vrepL E l vs → vrepL E' (V.kill.go id l) vs
  | [], vs, hv => by simpa [vrepL, V.kill.go] using hv
  | v :: l, vs, hv => by
    simp only [vrepL, V.kill.go] at *
    obtain ⟨c, r, hc, h1, h2⟩ := hv
    exact ⟨c, r, hc, vrep_kill h hk h1, vrepL_killgo h hk h2⟩
end
theorem killgo_eq (id : Nat) : ∀ l, V.kill.go id l = killL id l
  | [] => rfl
  | v :: l => by simp [V.kill.go, killL, killgo_eq id l]
theorem vrepL_kill {E E' : Env} {id : Nat} (h : E.Le E') (hk : ∀ i, i ≠ id → E'.κ i = E.κ i) {l : List V} {vs : List Value} (hv : vrepL E l vs) : vrepL E' (killL id l) vs := by
  rw [← killgo_eq]; exact vrepL_killgo h hk hv

/-! ### Data as values -/
theorem vrep_val {E : Env} {v : Value} : vrep E (.val v) v := by simp [vrep]

theorem flat_rep {E : Env} : ∀ {t : Ty} {x : t.den} {cs : List Value}, rep E.S E.w t x cs → vrepL E (flat t x) cs
  | .int k, x, cs, h => by simp only [rep] at h; subst h; simp [flat, vrepL, vrep]
  | .bool, x, cs, h => by simp only [rep] at h; subst h; simp [flat, vrepL, vrep]
  | .str, x, cs, h => by simp only [rep] at h; subst h; simp [flat, vrepL, vrep]
  | .unit, x, cs, h => by simp only [rep] at h; subst h; simp [flat, vrepL]
  | .pair a b, x, cs, h => by
    obtain ⟨c1, c2, rfl, h1, h2⟩ := h
    exact vrepL_append (flat_rep h1) (flat_rep h2)
  | .sl e, x, cs, h => by
    have hl := rep_len h
    match cs, hl with
    | [c], _ => simp only [flat, vrepL, vrep]; exact ⟨c, [], rfl, h, rfl⟩

theorem cellInt_rep {E : Env} {k : IntKind} {v : V} {x : Int} {c : Value} (h : cellInt k v = some x) (hv : vrep E v c) : c = .int k x := by
  unfold cellInt at h
  split at h
  · split at h
    · rename_i hk
      simp only [vrep] at hv
      cases h; rw [hv, kindEq_eq hk]
    · cases h
  · cases h
theorem cellBool_rep {E : Env} {v : V} {x : Bool} {c : Value} (h : cellBool v = some x) (hv : vrep E v c) : c = .bool x := by
  unfold cellBool at h
  split at h
  · simp only [vrep] at hv
    cases h; exact hv
  · cases h
theorem cellStr_rep {E : Env} {v : V} {x : ByteArray} {c : Value} (h : cellStr v = some x) (hv : vrep E v c) : c = .string x := by
  unfold cellStr at h
  split at h
  · simp only [vrep] at hv
    cases h; exact hv
  · cases h
theorem castList_eq {a b : Ty} {xs : List a.den} {ys : List b.den} (h : castList a b xs = some ys) : ∃ e : a = b, ys = e ▸ xs := by
  unfold castList at h
  split at h
  · rename_i he
    cases h; exact ⟨Ty.eqb_eq he, rfl⟩
  · cases h
theorem rep_nil (S : CellSet) (w : World) (e : Ty) : rep S w (.sl e) ([] : List e.den) [.slice none 0 0] :=
  ⟨none, 0, rfl, Nat.le_refl _, fun i x hx => by cases (show ([] : List e.den)[i]? = some x from hx)⟩
theorem cellSl_rep {E : Env} {e : Ty} {v : V} {x : List e.den} {c : Value} (h : cellSl e v = some x) (hv : vrep E v c) : rep E.S E.w (.sl e) x [c] := by
  unfold cellSl at h
  split at h
  · obtain ⟨he, rfl⟩ := castList_eq h
    subst he
    simpa only [vrep] using hv
  · simp only [vrep] at hv
    cases h; subst hv
    exact rep_nil _ _ _
  · cases h

theorem unflat_rep {E : Env} : ∀ {t : Ty} {cs : List V} {x : t.den} {rest : List V} {vs : List Value}, unflat t cs = some (x, rest) → vrepL E cs vs →
    ∃ v1 v2, vs = v1 ++ v2 ∧ rep E.S E.w t x v1 ∧ vrepL E rest v2
  | .unit, cs, x, rest, vs, h, hv => by
    simp only [unflat] at h
    cases h
    exact ⟨[], vs, rfl, rfl, hv⟩
  | .pair a b, cs, x, rest, vs, h, hv => by
    simp only [unflat] at h
    split at h
    · rename_i x1 cs1 h1
      split at h
      · rename_i y cs2 h2
        cases h
        obtain ⟨v1, v2, rfl, r1, hv1⟩ := unflat_rep h1 hv
        obtain ⟨v3, v4, rfl, r2, hv2⟩ := unflat_rep h2 hv1
        exact ⟨v1 ++ v3, v4, by simp, ⟨v1, v3, rfl, r1, r2⟩, hv2⟩
      · cases h
    · cases h
  | .int k, cs, x, rest, vs, h, hv => by
    simp only [unflat] at h
    split at h
    · split at h
      · rename_i hx
        cases h
        simp only [vrepL] at hv
        obtain ⟨c, r, rfl, hc, hr⟩ := hv
        exact ⟨[c], r, rfl, by simp only [rep]; rw [cellInt_rep hx hc], hr⟩
      · cases h
    · cases h
  | .bool, cs, x, rest, vs, h, hv => by
    simp only [unflat] at h
    split at h
    · split at h
      · rename_i hx
        cases h
        simp only [vrepL] at hv
        obtain ⟨c, r, rfl, hc, hr⟩ := hv
        exact ⟨[c], r, rfl, by simp only [rep]; rw [cellBool_rep hx hc], hr⟩
      · cases h
    · cases h
  | .str, cs, x, rest, vs, h, hv => by
    simp only [unflat] at h
    split at h
    · split at h
      · rename_i hx
        cases h
        simp only [vrepL] at hv
        obtain ⟨c, r, rfl, hc, hr⟩ := hv
        exact ⟨[c], r, rfl, by simp only [rep]; rw [cellStr_rep hx hc], hr⟩
      · cases h
    · cases h
  | .sl e, cs, x, rest, vs, h, hv => by
    simp only [unflat] at h
    split at h
    · split at h
      · rename_i hx
        cases h
        simp only [vrepL] at hv
        obtain ⟨c, r, rfl, hc, hr⟩ := hv
        exact ⟨[c], r, rfl, cellSl_rep hx hc, hr⟩
      · cases h
    · cases h

theorem unflatAll_rep {E : Env} {t : Ty} {cs : List V} {x : t.den} {vs : List Value} (h : unflatAll t cs = some x) (hv : vrepL E cs vs) : rep E.S E.w t x vs := by
  unfold unflatAll at h
  split at h
  · rename_i y hu
    cases h
    obtain ⟨v1, v2, rfl, hr, h2⟩ := unflat_rep hu hv
    simp only [vrepL] at h2
    subst h2
    simpa using hr
  · cases h

/-- the cells of a slot's value -/
theorem cells_rep {E : Env} {v : V} {c : Value} (h : vrep E v c) : (∃ cs, v = .agg cs) ∨ (v.cells = [v]) := by
  cases v <;> simp [V.cells]

theorem vrep_agg {E : Env} {cs : List V} {c : Value} (h : vrep E (.agg cs) c) : vrepL E cs c.cells.toList := by
  simp only [vrep] at h
  obtain ⟨vs, rfl, h⟩ := h
  exact h
end Go.Proofs.Vm
