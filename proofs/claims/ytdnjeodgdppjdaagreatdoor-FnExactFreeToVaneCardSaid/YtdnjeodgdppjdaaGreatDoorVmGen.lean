/- Shapes of values and states; loops and functions as data (own work). -/
import Derived.Test.YtdnjeodgdppjdaaGreatDoorVmBody
namespace Go.Proofs.Vm
open Go Go.RowKit
set_option linter.unusedVariables false
set_option linter.unusedSimpArgs false

/-! ### Shapes -/
inductive Sh where
  | und
  | dat (t : Ty)
  | nil
  | os (id : Nat)
  | vref (id off : Nat)
  | agg (l : List Sh)
  | pc (l : List Sh) (off : Nat)
  | pcd (t : Ty) (off : Nat)
  | pa (e : Ty)
  | fn (f : FuncId) (l : List Sh)
  | tup (l : List Sh)
  | mb (l : List Sh)
  | mbd (t : Ty)

/-- what varies in a shape, ahead of the rest -/
def Sh.den : Sh → Type → Type
  | .und, R => R
  | .dat t, R => t.den × R
  | .nil, R => R
  | .os _, R => R
  | .vref _ _, R => R
  | .agg l, R => go l R
  | .pc l _, R => go l R
  | .pcd t _, R => t.den × R
  | .pa e, R => List e.den × R
  | .fn _ l, R => go l R
  | .tup l, R => go l R
  | .mb l, R => go l R
  | .mbd t, R => t.den × R
where go : List Sh → Type → Type
  | [], R => R
  | s :: l, R => Sh.den s (go l R)

def Sh.enc : (s : Sh) → {R : Type} → s.den R → V × R
  | .und, _, r => (.undef, r)
  | .dat t, _, x => (Vm.enc t x.1, x.2)
  | .nil, _, r => (.val (.slice none 0 0), r)
  | .os id, _, r => (.os id, r)
  | .vref id off, _, r => (.vref id off, r)
  | .agg l, _, x => (.agg (go l x).1, (go l x).2)
  | .pc l off, _, x => (.pc (go l x).1 off, (go l x).2)
  | .pcd t off, _, x => (.pc (flat t x.1) off, x.2)
  | .pa e, _, x => (.pa e x.1, x.2)
  | .fn f l, _, x => (.fn f (go l x).1, (go l x).2)
  | .tup l, _, x => (.tup (go l x).1, (go l x).2)
  | .mb l, _, x => (.mb (go l x).1, (go l x).2)
  | .mbd t, _, x => (.mb (flat t x.1), x.2)
where go : (l : List Sh) → {R : Type} → Sh.den.go l R → List V × R
  | [], _, r => ([], r)
  | s :: l, _, x => ((Sh.enc s x).1 :: (go l (Sh.enc s x).2).1, (go l (Sh.enc s x).2).2)

def cellSlS (e : Ty) : V → Option (List e.den)
  | .sl e' xs => castList e' e xs
  | _ => none

def unflatS : (t : Ty) → List V → Option (t.den × List V)
  | .unit, cs => some ((), cs)
  | .pair a b, cs => match unflatS a cs with
    | some (x, cs1) => match unflatS b cs1 with
      | some (y, cs2) => some ((x, y), cs2)
      | none => none
    | none => none
  | .int k, cs => match cs with | c :: cs => (match cellInt k c with | some x => some (x, cs) | none => none) | [] => none
  | .bool, cs => match cs with | c :: cs => (match cellBool c with | some x => some (x, cs) | none => none) | [] => none
  | .str, cs => match cs with | c :: cs => (match cellStr c with | some x => some (x, cs) | none => none) | [] => none
  | .sl e, cs => match cs with | c :: cs => (match cellSlS e c with | some x => some (x, cs) | none => none) | [] => none

def unflatSAll (t : Ty) (cs : List V) : Option t.den :=
  match unflatS t cs with
  | some (x, []) => some x
  | _ => none

def aggCells : V → Option (List V)
  | .agg cs => some cs
  | _ => none

/-- exactly a datum as enc writes it -/
def decS (t : Ty) (v : V) : Option t.den :=
  match t with
  | .unit => match aggCells v with | some cs => unflatSAll .unit cs | none => none
  | .pair a b => match aggCells v with | some cs => unflatSAll (.pair a b) cs | none => none
  | .int k => cellInt k v
  | .bool => cellBool v
  | .str => cellStr v
  | .sl e => cellSlS e v

/-- nil slices are read as empty lists -/
def decN (t : Ty) (v : V) : Option t.den :=
  match t with
  | .unit => match aggCells v with | some cs => unflatAll .unit cs | none => none
  | .pair a b => match aggCells v with | some cs => unflatAll (.pair a b) cs | none => none
  | .int k => cellInt k v
  | .bool => cellBool v
  | .str => cellStr v
  | .sl e => cellSl e v

def decB (len : Bool) (t : Ty) (v : V) : Option t.den :=
  match len with
  | true => decN t v
  | false => decS t v

def cellsB (len : Bool) (t : Ty) (cs : List V) : Option t.den :=
  match len with
  | true => unflatAll t cs
  | false => unflatSAll t cs

def listB (e : Ty) (v : V) : Option (List e.den) :=
  match v with
  | .pa e' xs => castList e' e xs
  | _ => none

def undOf : V → Option Unit
  | .undef => some ()
  | _ => none
def nilOf : V → Option Unit
  | .val (.slice none 0 0) => some ()
  | _ => none
def osOf : V → Option Nat
  | .os i => some i
  | _ => none
def vrefOf : V → Option (Nat × Nat)
  | .vref i o => some (i, o)
  | _ => none
def pcOf : V → Option (List V × Nat)
  | .pc cs o => some (cs, o)
  | _ => none
def fnOf : V → Option (FuncId × List V)
  | .fn f cs => some (f, cs)
  | _ => none
def tupOf : V → Option (List V)
  | .tup cs => some cs
  | _ => none
def mbOf : V → Option (List V)
  | .mb cs => some cs
  | _ => none
theorem undOf_eq {v : V} {x} (h : undOf v = some x) : v = .undef := by cases v <;> first | rfl | cases h
theorem nilOf_eq {v : V} {x} (h : nilOf v = some x) : v = .val (.slice none 0 0) := by
  unfold nilOf at h
  split at h <;> cases h
  rfl
theorem osOf_eq {v : V} {i} (h : osOf v = some i) : v = .os i := by cases v <;> cases h; rfl
theorem vrefOf_eq {v : V} {i o} (h : vrefOf v = some (i, o)) : v = .vref i o := by cases v <;> cases h; rfl
theorem pcOf_eq {v : V} {i o} (h : pcOf v = some (i, o)) : v = .pc i o := by cases v <;> cases h; rfl
theorem fnOf_eq {v : V} {i o} (h : fnOf v = some (i, o)) : v = .fn i o := by cases v <;> cases h; rfl
theorem tupOf_eq {v : V} {i} (h : tupOf v = some i) : v = .tup i := by cases v <;> cases h; rfl
theorem mbOf_eq {v : V} {i} (h : mbOf v = some i) : v = .mb i := by cases v <;> cases h; rfl

def Sh.dec (len : Bool) : (s : Sh) → V → {R : Type} → Option (R → s.den R)
  | .und, v, _ => match undOf v with | some _ => some fun r => r | none => none
  | .dat t, v, _ => match decB len t v with | some x => some fun r => (x, r) | none => none
  | .nil, v, _ => match nilOf v with | some _ => some fun r => r | none => none
  | .os id, v, _ => match osOf v with | some i => (match Nat.beq i id with | true => some fun r => r | false => none) | none => none
  | .vref id off, v, _ => match vrefOf v with | some (i, o) => (match Nat.beq i id && Nat.beq o off with | true => some fun r => r | false => none) | none => none
  | .agg l, v, _ => match aggCells v with | some cs => go l cs | none => none
  | .pc l off, v, _ => match pcOf v with | some (cs, o) => (match Nat.beq o off with | true => go l cs | false => none) | none => none
  | .pcd t off, v, _ => match pcOf v with | some (cs, o) => (match Nat.beq o off with | true => (match cellsB false t cs with | some x => some fun r => (x, r) | none => none) | false => none) | none => none
  | .pa e, v, _ => match listB e v with | some x => some fun r => (x, r) | none => none
  | .fn f l, v, _ => match fnOf v with | some (g, cs) => (match Nat.beq g f with | true => go l cs | false => none) | none => none
  | .tup l, v, _ => match tupOf v with | some cs => go l cs | none => none
  | .mb l, v, _ => match mbOf v with | some cs => go l cs | none => none
  | .mbd t, v, _ => match mbOf v with | some cs => (match cellsB false t cs with | some x => some fun r => (x, r) | none => none) | none => none
where go : (l : List Sh) → List V → {R : Type} → Option (R → Sh.den.go l R)
  | [], [], _ => some fun r => r
  | s :: l, v :: vs, R => match Sh.dec len s v (R := Sh.den.go l R), go l vs (R := R) with
    | some f, some g => some fun r => f (g r)
    | _, _ => none
  | [], _ :: _, _ => none
  | _ :: _, [], _ => none

theorem cellInt_eq {k : IntKind} {v : V} {x : Int} (h : cellInt k v = some x) : v = .val (.int k x) := by
  unfold cellInt at h
  split at h
  · split at h
    · rename_i hk; cases h; rw [kindEq_eq hk]
    · cases h
  · cases h

theorem cellBool_eq {v : V} {x : Bool} (h : cellBool v = some x) : v = .val (.bool x) := by
  unfold cellBool at h
  split at h <;> cases h
  rfl

theorem cellStr_eq {v : V} {x : ByteArray} (h : cellStr v = some x) : v = .val (.string x) := by
  unfold cellStr at h
  split at h <;> cases h
  rfl

theorem cellSlS_eq {e : Ty} {v : V} {x : List e.den} (h : cellSlS e v = some x) : v = .sl e x := by
  unfold cellSlS at h
  split at h
  · obtain ⟨rfl, rfl⟩ := castList_eq h; rfl
  · cases h

theorem unflatS_eq : ∀ {t : Ty} {cs : List V} {x : t.den} {rest : List V}, unflatS t cs = some (x, rest) → cs = flat t x ++ rest
  | .unit, cs, x, rest, h => by simp only [unflatS] at h; cases h; rfl
  | .pair a b, cs, x, rest, h => by
    simp only [unflatS] at h
    split at h
    · rename_i h1
      split at h
      · rename_i h2
        cases h
        rw [unflatS_eq h1, unflatS_eq h2]
        simp [flat]
      · cases h
    · cases h
  | .int k, cs, x, rest, h => by
    simp only [unflatS] at h
    split at h
    · split at h
      · rename_i hx; cases h; rw [cellInt_eq hx]; rfl
      · cases h
    · cases h
  | .bool, cs, x, rest, h => by
    simp only [unflatS] at h
    split at h
    · split at h
      · rename_i hx; cases h; rw [cellBool_eq hx]; rfl
      · cases h
    · cases h
  | .str, cs, x, rest, h => by
    simp only [unflatS] at h
    split at h
    · split at h
      · rename_i hx; cases h; rw [cellStr_eq hx]; rfl
      · cases h
    · cases h
  | .sl e, cs, x, rest, h => by
    simp only [unflatS] at h
    split at h
    · split at h
      · rename_i hx; cases h; rw [cellSlS_eq hx]; rfl
      · cases h
    · cases h

theorem unflatSAll_eq {t : Ty} {cs : List V} {x : t.den} (h : unflatSAll t cs = some x) : cs = flat t x := by
  unfold unflatSAll at h
  split at h
  · rename_i hx; cases h; rw [unflatS_eq hx]; simp
  · cases h

theorem aggCells_eq {v : V} {cs : List V} (h : aggCells v = some cs) : v = .agg cs := by
  unfold aggCells at h
  split at h <;> cases h
  rfl

theorem decS_eq : ∀ {t : Ty} {v : V} {x : t.den}, decS t v = some x → v = Vm.enc t x
  | .unit, v, x, h => by
    simp only [decS] at h
    split at h
    · rename_i h1; rw [aggCells_eq h1, unflatSAll_eq h]; rfl
    · cases h
  | .pair a b, v, x, h => by
    simp only [decS] at h
    split at h
    · rename_i h1; rw [aggCells_eq h1, unflatSAll_eq h]; rfl
    · cases h
  | .int k, v, x, h => by rw [cellInt_eq h]; rfl
  | .bool, v, x, h => by rw [cellBool_eq h]; rfl
  | .str, v, x, h => by rw [cellStr_eq h]; rfl
  | .sl e, v, x, h => by rw [cellSlS_eq h]; rfl

theorem listB_eq {e : Ty} {v : V} {x : List e.den} (h : listB e v = some x) : v = .pa e x := by
  unfold listB at h
  split at h
  · obtain ⟨rfl, rfl⟩ := castList_eq h; rfl
  · cases h

theorem decN_rep {E : Env} : ∀ {t : Ty} {v : V} {x : t.den} {c : Value}, decN t v = some x → vrep E v c → vrep E (Vm.enc t x) c
  | .unit, v, x, c, h, hv => by
    simp only [decN] at h
    split at h
    · rename_i h1
      rw [aggCells_eq h1] at hv
      have h2 := unflatAll_rep h (vrep_agg hv)
      simp only [vrep] at hv
      obtain ⟨vs, rfl, hv⟩ := hv
      simp only [Vm.enc, vrep]
      exact ⟨vs, rfl, flat_rep (t := .unit) (x := ()) h2⟩
    · cases h
  | .pair a b, v, x, c, h, hv => by
    simp only [decN] at h
    split at h
    · rename_i h1
      rw [aggCells_eq h1] at hv
      have h2 := unflatAll_rep h (vrep_agg hv)
      simp only [vrep] at hv
      obtain ⟨vs, rfl, hv⟩ := hv
      simp only [Vm.enc, vrep]
      exact ⟨vs, rfl, flat_rep h2⟩
    · cases h
  | .int k, v, x, c, h, hv => by simp only [Vm.enc, vrep]; exact cellInt_rep h hv
  | .bool, v, x, c, h, hv => by simp only [Vm.enc, vrep]; exact cellBool_rep h hv
  | .str, v, x, c, h, hv => by simp only [Vm.enc, vrep]; exact cellStr_rep h hv
  | .sl e, v, x, c, h, hv => by simp only [Vm.enc, vrep]; exact cellSl_rep h hv

theorem decB_rep {E : Env} {b : Bool} {t : Ty} {v : V} {x : t.den} {c : Value} (h : decB b t v = some x) (hv : vrep E v c) : vrep E (Vm.enc t x) c := by
  cases b with
  | true => exact decN_rep h hv
  | false => rw [← decS_eq h]; exact hv

mutual
theorem Sh.dec_eq : ∀ {s : Sh} {v : V} {R : Type} {f : R → s.den R}, s.dec false v = some f → ∀ r, s.enc (f r) = (v, r)
  | .und, v, R, f, h, r => by
    replace h : (match undOf v with | some _ => some fun r => r | none => none) = some f := h
    split at h
    · rename_i he; have he := undOf_eq he; subst he; cases h; rfl
    · cases h
  | .dat t, v, R, f, h, r => by
    replace h : (match decS t v with | some x => some fun r => (x, r) | none => none) = some f := h
    split at h
    · rename_i hx; cases h; rw [decS_eq hx]; rfl
    · cases h
  | .nil, v, R, f, h, r => by
    replace h : (match nilOf v with | some _ => some fun r => r | none => none) = some f := h
    split at h
    · rename_i he; have he := nilOf_eq he; subst he; cases h; rfl
    · cases h
  | .os id, v, R, f, h, r => by
    replace h : (match osOf v with | some i => (match Nat.beq i id with | true => some fun r => r | false => none) | none => none) = some f := h
    split at h
    · rename_i he; have he := osOf_eq he; subst he
      split at h
      · rename_i hb; cases h; rw [beq_true hb]; rfl
      · cases h
    · cases h
  | .vref id off, v, R, f, h, r => by
    replace h : (match vrefOf v with | some (i, o) => (match Nat.beq i id && Nat.beq o off with | true => some fun r => r | false => none) | none => none) = some f := h
    split at h
    · rename_i he; have he := vrefOf_eq he; subst he
      split at h
      · rename_i hb; cases h
        simp only [Bool.and_eq_true] at hb
        rw [beq_true hb.1, beq_true hb.2]; rfl
      · cases h
    · cases h
  | .agg l, v, R, f, h, r => by
    replace h : (match aggCells v with | some cs => Sh.dec.go false l cs | none => none) = some f := h
    split at h
    · rename_i he; have he := aggCells_eq he; subst he
      show ((V.agg (Sh.enc.go l (f r)).1, (Sh.enc.go l (f r)).2) : V × R) = _
      rw [decL_eq h r]
    · cases h
  | .pc l off, v, R, f, h, r => by
    replace h : (match pcOf v with | some (cs, o) => (match Nat.beq o off with | true => Sh.dec.go false l cs | false => none) | none => none) = some f := h
    split at h
    · rename_i he; have he := pcOf_eq he; subst he
      split at h
      · rename_i hb
        show ((V.pc (Sh.enc.go l (f r)).1 off, (Sh.enc.go l (f r)).2) : V × R) = _
        rw [decL_eq h r, beq_true hb]
      · cases h
    · cases h
  | .pcd t off, v, R, f, h, r => by
    replace h : (match pcOf v with | some (cs, o) => (match Nat.beq o off with | true => (match unflatSAll t cs with | some x => some fun r => (x, r) | none => none) | false => none) | none => none) = some f := h
    split at h
    · rename_i he; have he := pcOf_eq he; subst he
      split at h
      · rename_i hb
        split at h
        · rename_i hx; cases h; rw [unflatSAll_eq hx, beq_true hb]; rfl
        · cases h
      · cases h
    · cases h
  | .pa e, v, R, f, h, r => by
    replace h : (match listB e v with | some x => some fun r => (x, r) | none => none) = some f := h
    split at h
    · rename_i hx; cases h; rw [listB_eq hx]; rfl
    · cases h
  | .fn g l, v, R, f, h, r => by
    replace h : (match fnOf v with | some (g', cs) => (match Nat.beq g' g with | true => Sh.dec.go false l cs | false => none) | none => none) = some f := h
    split at h
    · rename_i he; have he := fnOf_eq he; subst he
      split at h
      · rename_i hb
        show ((V.fn g (Sh.enc.go l (f r)).1, (Sh.enc.go l (f r)).2) : V × R) = _
        rw [decL_eq h r, beq_true hb]
      · cases h
    · cases h
  | .tup l, v, R, f, h, r => by
    replace h : (match tupOf v with | some cs => Sh.dec.go false l cs | none => none) = some f := h
    split at h
    · rename_i he; have he := tupOf_eq he; subst he
      show ((V.tup (Sh.enc.go l (f r)).1, (Sh.enc.go l (f r)).2) : V × R) = _
      rw [decL_eq h r]
    · cases h
  | .mb l, v, R, f, h, r => by
    replace h : (match mbOf v with | some cs => Sh.dec.go false l cs | none => none) = some f := h
    split at h
    · rename_i he; have he := mbOf_eq he; subst he
      show ((V.mb (Sh.enc.go l (f r)).1, (Sh.enc.go l (f r)).2) : V × R) = _
      rw [decL_eq h r]
    · cases h
  | .mbd t, v, R, f, h, r => by
    replace h : (match mbOf v with | some cs => (match unflatSAll t cs with | some x => some fun r => (x, r) | none => none) | none => none) = some f := h
    split at h
    · rename_i he; have he := mbOf_eq he; subst he
      split at h
      · rename_i hx; cases h; rw [unflatSAll_eq hx]; rfl
      · cases h
    · cases h
theorem decL_eq : ∀ {l : List Sh} {vs : List V} {R : Type} {f : R → Sh.den.go l R}, Sh.dec.go false l vs = some f → ∀ r, Sh.enc.go l (f r) = (vs, r)
  | [], [], R, f, h, r => by
    replace h : (some fun r => r) = some f := h
    cases h; rfl
  | s :: l, v :: vs, R, f, h, r => by
    replace h : (match Sh.dec false s v (R := Sh.den.go l R), Sh.dec.go false l vs (R := R) with | some f, some g => some fun r => f (g r) | _, _ => none) = some f := h
    split at h
    · rename_i f1 g1 h1 h2
      cases h
      show ((Sh.enc s (f1 (g1 r))).1 :: (Sh.enc.go l (Sh.enc s (f1 (g1 r))).2).1, (Sh.enc.go l (Sh.enc s (f1 (g1 r))).2).2) = _
      rw [Sh.dec_eq h1 (g1 r), decL_eq h2 r]
    · cases h
  | [], _ :: _, R, f, h, r => by cases (show (none : Option (R → R)) = some f from h)
  | s :: l, [], R, f, h, r => by cases (show (none : Option (R → Sh.den.go (s :: l) R)) = some f from h)
end

/-! The same for what is meant -/
mutual
theorem Sh.dec_rep {E : Env} {len : Bool} : ∀ {s : Sh} {v : V} {R : Type} {f : R → s.den R} {c : Value}, s.dec len v = some f → vrep E v c → ∀ r, vrep E (s.enc (f r)).1 c ∧ (s.enc (f r)).2 = r
  | .und, v, R, f, c, h, hv, r => by
    replace h : (match undOf v with | some _ => some fun r => r | none => none) = some f := h
    split at h
    · cases h; exact ⟨vrep_undef, rfl⟩
    · cases h
  | .dat t, v, R, f, c, h, hv, r => by
    replace h : (match decB len t v with | some x => some fun r => (x, r) | none => none) = some f := h
    split at h
    · rename_i hx; cases h; exact ⟨decB_rep hx hv, rfl⟩
    · cases h
  | .nil, v, R, f, c, h, hv, r => by
    replace h : (match nilOf v with | some _ => some fun r => r | none => none) = some f := h
    split at h
    · rename_i he; have he := nilOf_eq he; subst he; cases h; exact ⟨hv, rfl⟩
    · cases h
  | .os id, v, R, f, c, h, hv, r => by
    replace h : (match osOf v with | some i => (match Nat.beq i id with | true => some fun r => r | false => none) | none => none) = some f := h
    split at h
    · rename_i he; have he := osOf_eq he; subst he
      split at h
      · rename_i hb; cases h; rw [beq_true hb] at hv; exact ⟨hv, rfl⟩
      · cases h
    · cases h
  | .vref id off, v, R, f, c, h, hv, r => by
    replace h : (match vrefOf v with | some (i, o) => (match Nat.beq i id && Nat.beq o off with | true => some fun r => r | false => none) | none => none) = some f := h
    split at h
    · rename_i he; have he := vrefOf_eq he; subst he
      split at h
      · rename_i hb; cases h
        simp only [Bool.and_eq_true] at hb
        rw [beq_true hb.1, beq_true hb.2] at hv; exact ⟨hv, rfl⟩
      · cases h
    · cases h
  | .agg l, v, R, f, c, h, hv, r => by
    replace h : (match aggCells v with | some cs => Sh.dec.go len l cs | none => none) = some f := h
    split at h
    · rename_i he; have he := aggCells_eq he; subst he
      simp only [vrep] at hv
      obtain ⟨vs, rfl, hv⟩ := hv
      obtain ⟨h1, h2⟩ := decL_rep h hv r
      refine ⟨?_, h2⟩
      show vrep E (.agg (Sh.enc.go l (f r)).1) _
      simp only [vrep]; exact ⟨vs, rfl, h1⟩
    · cases h
  | .pc l off, v, R, f, c, h, hv, r => by
    replace h : (match pcOf v with | some (cs, o) => (match Nat.beq o off with | true => Sh.dec.go len l cs | false => none) | none => none) = some f := h
    split at h
    · rename_i he; have he := pcOf_eq he; subst he
      split at h
      · rename_i hb
        rw [beq_true hb] at hv
        simp only [vrep] at hv
        obtain ⟨b, o, rfl, hv⟩ := hv
        obtain ⟨h1, h2⟩ := decL_row h hv r
        refine ⟨?_, h2⟩
        show vrep E (.pc (Sh.enc.go l (f r)).1 off) _
        simp only [vrep]; exact ⟨b, o, rfl, h1⟩
      · cases h
    · cases h
  | .pcd t off, v, R, f, c, h, hv, r => by
    replace h : (match pcOf v with | some (cs, o) => (match Nat.beq o off with | true => (match unflatSAll t cs with | some x => some fun r => (x, r) | none => none) | false => none) | none => none) = some f := h
    split at h
    · rename_i he; have he := pcOf_eq he; subst he
      split at h
      · rename_i hb
        split at h
        · rename_i hx; cases h; rw [unflatSAll_eq hx, beq_true hb] at hv; exact ⟨hv, rfl⟩
        · cases h
      · cases h
    · cases h
  | .pa e, v, R, f, c, h, hv, r => by
    replace h : (match listB e v with | some x => some fun r => (x, r) | none => none) = some f := h
    split at h
    · rename_i hx; cases h; rw [listB_eq hx] at hv; exact ⟨hv, rfl⟩
    · cases h
  | .fn g l, v, R, f, c, h, hv, r => by
    replace h : (match fnOf v with | some (g', cs) => (match Nat.beq g' g with | true => Sh.dec.go len l cs | false => none) | none => none) = some f := h
    split at h
    · rename_i he; have he := fnOf_eq he; subst he
      split at h
      · rename_i hb
        rw [beq_true hb] at hv
        simp only [vrep] at hv
        obtain ⟨vs, rfl, hv⟩ := hv
        obtain ⟨h1, h2⟩ := decL_rep h hv r
        refine ⟨?_, h2⟩
        show vrep E (.fn g (Sh.enc.go l (f r)).1) _
        simp only [vrep]; exact ⟨vs, rfl, h1⟩
      · cases h
    · cases h
  | .tup l, v, R, f, c, h, hv, r => by
    replace h : (match tupOf v with | some cs => Sh.dec.go len l cs | none => none) = some f := h
    split at h
    · rename_i he; have he := tupOf_eq he; subst he
      simp only [vrep] at hv
      obtain ⟨vs, rfl, hv⟩ := hv
      obtain ⟨h1, h2⟩ := decL_rep h hv r
      refine ⟨?_, h2⟩
      show vrep E (.tup (Sh.enc.go l (f r)).1) _
      simp only [vrep]; exact ⟨vs, rfl, h1⟩
    · cases h
  | .mb l, v, R, f, c, h, hv, r => by
    replace h : (match mbOf v with | some cs => Sh.dec.go len l cs | none => none) = some f := h
    split at h
    · rename_i he; have he := mbOf_eq he; subst he
      simp [vrep] at hv
    · cases h
  | .mbd t, v, R, f, c, h, hv, r => by
    replace h : (match mbOf v with | some cs => (match unflatSAll t cs with | some x => some fun r => (x, r) | none => none) | none => none) = some f := h
    split at h
    · rename_i he; have he := mbOf_eq he; subst he
      simp [vrep] at hv
    · cases h
theorem decL_rep {E : Env} {len : Bool} : ∀ {l : List Sh} {vs : List V} {R : Type} {f : R → Sh.den.go l R} {cs : List Value}, Sh.dec.go len l vs = some f → vrepL E vs cs → ∀ r, vrepL E (Sh.enc.go l (f r)).1 cs ∧ (Sh.enc.go l (f r)).2 = r
  | [], [], R, f, cs, h, hv, r => by
    replace h : (some fun r => r) = some f := h
    cases h; exact ⟨hv, rfl⟩
  | s :: l, v :: vs, R, f, cs, h, hv, r => by
    replace h : (match Sh.dec len s v (R := Sh.den.go l R), Sh.dec.go len l vs (R := R) with | some f, some g => some fun r => f (g r) | _, _ => none) = some f := h
    split at h
    · rename_i f1 g1 h1 h2
      cases h
      show vrepL E ((Sh.enc s (f1 (g1 r))).1 :: (Sh.enc.go l (Sh.enc s (f1 (g1 r))).2).1) _ ∧ (Sh.enc.go l (Sh.enc s (f1 (g1 r))).2).2 = _
      simp only [vrepL] at hv ⊢
      obtain ⟨c, q, rfl, hc, hq⟩ := hv
      obtain ⟨h3, h4⟩ := Sh.dec_rep h1 hc (g1 r)
      obtain ⟨h5, h6⟩ := decL_rep h2 hq r
      rw [h4]
      exact ⟨⟨c, q, rfl, h3, h5⟩, h6⟩
    · cases h
  | [], _ :: _, R, f, cs, h, hv, r => by cases (show (none : Option (R → R)) = some f from h)
  | s :: l, [], R, f, cs, h, hv, r => by cases (show (none : Option (R → Sh.den.go (s :: l) R)) = some f from h)
theorem decL_row {E : Env} {len : Bool} {b : Nat} : ∀ {l : List Sh} {vs : List V} {R : Type} {f : R → Sh.den.go l R} {o : Nat}, Sh.dec.go len l vs = some f → rowAt E vs b o → ∀ r, rowAt E (Sh.enc.go l (f r)).1 b o ∧ (Sh.enc.go l (f r)).2 = r
  | [], [], R, f, o, h, hv, r => by
    replace h : (some fun r => r) = some f := h
    cases h; exact ⟨hv, rfl⟩
  | s :: l, v :: vs, R, f, o, h, hv, r => by
    replace h : (match Sh.dec len s v (R := Sh.den.go l R), Sh.dec.go len l vs (R := R) with | some f, some g => some fun r => f (g r) | _, _ => none) = some f := h
    split at h
    · rename_i f1 g1 h1 h2
      cases h
      show rowAt E ((Sh.enc s (f1 (g1 r))).1 :: (Sh.enc.go l (Sh.enc s (f1 (g1 r))).2).1) _ _ ∧ (Sh.enc.go l (Sh.enc s (f1 (g1 r))).2).2 = _
      simp only [rowAt] at hv ⊢
      obtain ⟨⟨c, hb, hc, hq⟩, hr⟩ := hv
      obtain ⟨h3, h4⟩ := Sh.dec_rep h1 hq (g1 r)
      obtain ⟨h5, h6⟩ := decL_row h2 hr r
      rw [h4]
      exact ⟨⟨⟨c, hb, hc, h3⟩, h5⟩, h6⟩
    · cases h
  | [], _ :: _, R, f, o, h, hv, r => by cases (show (none : Option (R → R)) = some f from h)
  | s :: l, [], R, f, o, h, hv, r => by cases (show (none : Option (R → Sh.den.go (s :: l) R)) = some f from h)
end
end Go.Proofs.Vm
