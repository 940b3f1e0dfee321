/- Loops and functions as data: what is to be shown of each (own work). -/
import Derived.Test.YtdnjeodgdppjdaaGreatDoorVmGen
namespace Go.Proofs.Vm
open Go Go.RowKit
set_option linter.unusedVariables false
set_option linter.unusedSimpArgs false

/-! ### Shapes of states -/
inductive OSh where
  | box (id : Nat) (l : List Sh)
  | boxd (id : Nat) (t : Ty)
  | arr (id : Nat) (e : Ty) (wr : Bool)

def OSh.den : OSh → Type → Type
  | .box _ l, R => Sh.den.go l R
  | .boxd _ t, R => t.den × R
  | .arr _ e _, R => List e.den × R

def OSh.enc : (s : OSh) → {R : Type} → s.den R → (Nat × VObj) × R
  | .box id l, _, x => ((id, .box (Sh.enc.go l x).1), (Sh.enc.go l x).2)
  | .boxd id t, _, x => ((id, .box (flat t x.1)), x.2)
  | .arr id e wr, _, x => ((id, .arr e x.1 wr), x.2)

def boxOf : VObj → Option (List V)
  | .box cs => some cs
  | _ => none

def arrOf (e : Ty) (wr : Bool) : VObj → Option (List e.den)
  | .arr e' xs wr' => match Bool.xor wr wr' with | false => castList e' e xs | true => none
  | _ => none

def OSh.dec : (s : OSh) → Nat × VObj → {R : Type} → Option (R → s.den R)
  | .box id l, p, _ => match Nat.beq p.1 id with
    | true => match boxOf p.2 with | some cs => Sh.dec.go false l cs | none => none
    | false => none
  | .boxd id t, p, _ => match Nat.beq p.1 id with
    | true => match boxOf p.2 with | some cs => (match unflatSAll t cs with | some x => some fun r => (x, r) | none => none) | none => none
    | false => none
  | .arr id e wr, p, _ => match Nat.beq p.1 id with
    | true => match arrOf e wr p.2 with | some x => some fun r => (x, r) | none => none
    | false => none

theorem boxOf_eq {x : VObj} {cs} (h : boxOf x = some cs) : x = .box cs := by cases x <;> cases h; rfl
theorem arrOf_eq {x : VObj} {e wr xs} (h : arrOf e wr x = some xs) : x = .arr e xs wr := by
  cases x with
  | box cs => cases h
  | arr e' xs' wr' =>
    simp only [arrOf] at h
    split at h
    · rename_i hx
      have : wr = wr' := by cases wr <;> cases wr' <;> simp_all
      subst this
      obtain ⟨rfl, rfl⟩ := castList_eq h
      rfl
    · cases h

theorem OSh.dec_eq : ∀ {s : OSh} {p : Nat × VObj} {R : Type} {f : R → s.den R}, s.dec p = some f → ∀ r, s.enc (f r) = (p, r)
  | .box id l, p, R, f, h, r => by
    replace h : (match Nat.beq p.1 id with
      | true => match boxOf p.2 with | some cs => Sh.dec.go false l cs | none => none
      | false => none) = some f := h
    split at h
    · rename_i hb
      split at h
      · rename_i cs hc
        show (((id, VObj.box (Sh.enc.go l (f r)).1), (Sh.enc.go l (f r)).2) : (Nat × VObj) × R) = _
        rw [decL_eq h r, ← boxOf_eq hc, ← beq_true hb]
      · cases h
    · cases h
  | .boxd id t, p, R, f, h, r => by
    replace h : (match Nat.beq p.1 id with
      | true => match boxOf p.2 with | some cs => (match unflatSAll t cs with | some x => some fun r => (x, r) | none => none) | none => none
      | false => none) = some f := h
    split at h
    · rename_i hb
      split at h
      · rename_i cs hc
        split at h
        · rename_i x hx
          cases h
          show (((id, VObj.box (flat t x)), r) : (Nat × VObj) × R) = _
          rw [← unflatSAll_eq hx, ← boxOf_eq hc, ← beq_true hb]
        · cases h
      · cases h
    · cases h
  | .arr id e wr, p, R, f, h, r => by
    replace h : (match Nat.beq p.1 id with
      | true => match arrOf e wr p.2 with | some x => some fun r => (x, r) | none => none
      | false => none) = some f := h
    split at h
    · rename_i hb
      split at h
      · rename_i x hx
        cases h
        show (((id, VObj.arr e x wr), r) : (Nat × VObj) × R) = _
        rw [← arrOf_eq hx, ← beq_true hb]
      · cases h
    · cases h

def denO : List OSh → Type → Type
  | [], R => R
  | s :: l, R => s.den (denO l R)

def encO : (l : List OSh) → {R : Type} → denO l R → List (Nat × VObj) × R
  | [], _, r => ([], r)
  | s :: l, _, x => ((OSh.enc s x).1 :: (encO l (OSh.enc s x).2).1, (encO l (OSh.enc s x).2).2)

def decO : (l : List OSh) → List (Nat × VObj) → {R : Type} → Option (R → denO l R)
  | [], [], _ => some fun r => r
  | s :: l, v :: vs, R => match OSh.dec s v (R := denO l R), decO l vs (R := R) with
    | some f, some g => some fun r => f (g r)
    | _, _ => none
  | [], _ :: _, _ => none
  | _ :: _, [], _ => none

theorem decO_eq : ∀ {l : List OSh} {vs : List (Nat × VObj)} {R : Type} {f : R → denO l R}, decO l vs = some f → ∀ r, encO l (f r) = (vs, r)
  | [], [], R, f, h, r => by
    replace h : (some fun r => r) = some f := h
    cases h; rfl
  | s :: l, v :: vs, R, f, h, r => by
    replace h : (match OSh.dec s v (R := denO l R), decO l vs (R := R) with | some f, some g => some fun r => f (g r) | _, _ => none) = some f := h
    split at h
    · rename_i f1 g1 h1 h2
      cases h
      show ((OSh.enc s (f1 (g1 r))).1 :: (encO l (OSh.enc s (f1 (g1 r))).2).1, (encO l (OSh.enc s (f1 (g1 r))).2).2) = _
      rw [OSh.dec_eq h1 (g1 r), decO_eq h2 r]
    · cases h
  | [], _ :: _, R, f, h, r => by cases (show (none : Option (R → R)) = some f from h)
  | s :: l, [], R, f, h, r => by cases (show (none : Option (R → denO (s :: l) R)) = some f from h)

structure StSh where
  t : List Sh
  o : List OSh

def StSh.den (s : StSh) : Type := Sh.den.go s.t (denO s.o Unit)

def StSh.enc (s : StSh) (d : s.den) : St := { t := (Sh.enc.go s.t d).1, o := (encO s.o (Sh.enc.go s.t d).2).1 }

def StSh.dec (s : StSh) (st : St) : Option s.den :=
  match Sh.dec.go false s.t st.t (R := denO s.o Unit), decO s.o st.o (R := Unit) with
  | some f, some g => some (f (g ()))
  | _, _ => none

theorem StSh.dec_eq {s : StSh} {st : St} {d : s.den} (h : s.dec st = some d) : s.enc d = st := by
  unfold StSh.dec at h
  split at h
  · rename_i f g h1 h2
    cases h
    unfold StSh.enc
    rw [decL_eq h1 (g ()), decO_eq h2 ()]
  · cases h

/-! ### Loops -/
/-- rounds of a step -/
def iter {D O R : Type} (step : D → (O → Option R) → (D → Option R) → Option R) : Nat → D → (O → Option R) → Option R
  | 0, _, _ => none
  | n + 1, d, k => step d k fun d' => iter step n d' k

structure LSpec where
  sh : StSh
  O : Type
  step : {R : Type} → sh.den → (O → Option R) → (sh.den → Option R) → Option R
  out : {R : Type} → O → (Ex → St → Option R) → Option R

def LSpec.ask (K : Nat) (s : LSpec) {R : Type} (st : St) (k : Ex → St → Option R) : Option R :=
  match s.sh.dec st with
  | some d => iter s.step K d fun o => s.out o k
  | none => none

def askL (K : Nat) : List (Nat × LSpec) → {R : Type} → Nat → St → (Ex → St → Option R) → Option R
  | [], _, _, _, _ => none
  | (i, s) :: l, _, key, st, k => match Nat.beq i key with
    | true => s.ask K st k
    | false => askL K l key st k

/-- the step is what the loop's body does -/
def LSpec.Ok (cx : Ctx) (b : Code) (s : LSpec) : Prop :=
  ∀ (R : Type) (d : s.sh.den) (k : Ex → St → Option R) (rec : St → Option R), run cx b (s.sh.enc d) (fun e st' => match e with
    | .nrm => rec (forget (cx.dead (keyOf b)) st')
    | .exit i => k (.exit i) (forget (cx.deadX (keyOf b)) st')
    | .ret => k .ret (forget (cx.deadX (keyOf b)) st')) = s.step d (fun o => s.out o k) fun d' => rec (s.sh.enc d')

theorem rounds_iter {cx : Ctx} {b : Code} {s : LSpec} (h : s.Ok cx b) {R : Type} (k : Ex → St → Option R) : ∀ (n : Nat) (d : s.sh.den),
    rounds cx b k n (s.sh.enc d) = iter s.step n d fun o => s.out o k
  | 0, d => rfl
  | n + 1, d => by
    have h1 := h R d k (rounds cx b k n)
    have h2 : (fun d' => rounds cx b k n (s.sh.enc d')) = fun d' => iter s.step n d' fun o => s.out o k := funext fun d' => rounds_iter h k n d'
    rw [h2] at h1
    exact h1

theorem LSpec.Ok.loopOK {cx : Ctx} {b : Code} {s : LSpec} {K : Nat} (h : s.Ok cx b) (hL : ∀ (R : Type) (st : St) (k : Ex → St → Option R), cx.L (keyOf b) st k = s.ask K st k) : LoopOK cx b := by
  intro R st k r hr
  rw [hL] at hr
  unfold LSpec.ask at hr
  split at hr
  · rename_i d hd
    refine ⟨K, ?_⟩
    rw [← StSh.dec_eq hd, rounds_iter h]
    exact hr
  · cases hr

/-! ### Functions -/
structure FSpec where
  f : FuncId
  args : List Sh
  res : Sh
  mu : Option (List Sh)
  g : Sh.den.go args Unit → Option (res.den (Sh.den.go (mu.getD []) Unit))

/-- at most one box is handed over -/
def backM : Option (List Sh) → List V → List (List V)
  | none, _ => []
  | some _, vs => [vs]

def FSpec.ask (s : FSpec) {R : Type} (args : List V) (other : Option R) (k : V → List (List V) → Option R) : Option R :=
  match Sh.dec.go true s.args args (R := Unit) with
  | some d => (s.g (d ())).bind fun r => k (s.res.enc r).1 (backM s.mu (Sh.enc.go (s.mu.getD []) (s.res.enc r).2).1)
  | none => other

def askG : List FSpec → {R : Type} → FuncId → List V → (V → List (List V) → Option R) → Option R
  | [], _, _, _, _ => none
  | s :: l, _, f, args, k => match Nat.beq s.f f with
    | true => s.ask args (askG l f args k) k
    | false => askG l f args k

/-- what is to be known of a function -/
def FSpec.OK (cx : Ctx) (s : FSpec) : Prop :=
  ∀ d r, s.g d = some r → CallOK cx s.f (Sh.enc.go s.args d).1 (s.res.enc r).1 (backM s.mu (Sh.enc.go (s.mu.getD []) (s.res.enc r).2).1)

theorem Args.dec {E : Env} {len : Bool} : ∀ {l : List Sh} {vs : List V} {R : Type} {f : R → Sh.den.go l R} {cs : List Value} {M : List Nat}, Sh.dec.go len l vs = some f → Args E vs cs M → ∀ r, Args E (Sh.enc.go l (f r)).1 cs M ∧ (Sh.enc.go l (f r)).2 = r
  | [], [], R, f, cs, M, h, hv, r => by
    replace h : (some fun r => r) = some f := h
    cases h; exact ⟨hv, rfl⟩
  | s :: l, v :: vs, R, f, cs, M, h, hv, r => by
    replace h : (match Sh.dec len s v (R := Sh.den.go l R), Sh.dec.go len l vs (R := R) with | some f, some g => some fun r => f (g r) | _, _ => none) = some f := h
    split at h
    · rename_i f1 g1 h1 h2
      cases h
      show Args E ((Sh.enc s (f1 (g1 r))).1 :: (Sh.enc.go l (Sh.enc s (f1 (g1 r))).2).1) _ _ ∧ (Sh.enc.go l (Sh.enc s (f1 (g1 r))).2).2 = _
      cases hv with
      | plain hc t =>
        obtain ⟨h3, h4⟩ := Sh.dec_rep h1 hc (g1 r)
        obtain ⟨h5, h6⟩ := Args.dec h2 t r
        rw [h4]
        exact ⟨.plain h3 h5, h6⟩
      | @box us b el xs _ _ _ hb hu hs t =>
        obtain ⟨h5, h6⟩ := Args.dec h2 t r
        cases s with
        | mb l' =>
          replace h1 : (match mbOf (V.mb us) with | some cs => Sh.dec.go len l' cs | none => none) = some f1 := h1
          obtain ⟨h3, h4⟩ := decL_rep h1 hu (g1 r)
          have e1 : Sh.enc (.mb l') (f1 (g1 r)) = (.mb (Sh.enc.go l' (f1 (g1 r))).1, (Sh.enc.go l' (f1 (g1 r))).2) := rfl
          rw [e1]
          dsimp only
          rw [h4]
          exact ⟨.box hb h3 hs h5, h6⟩
        | mbd t' =>
          replace h1 : (match mbOf (V.mb us) with | some cs => (match unflatSAll t' cs with | some x => some fun r => (x, r) | none => none) | none => none) = some f1 := h1
          simp only [mbOf] at h1
          split at h1
          · rename_i x hx
            cases h1
            have e1 : Sh.enc (.mbd t') ((x, g1 r) : t'.den × _) = (.mb (flat t' x), g1 r) := rfl
            show Args E ((Sh.enc (.mbd t') ((x, g1 r) : t'.den × _)).1 :: _) _ _ ∧ _
            rw [e1]
            dsimp only
            rw [← unflatSAll_eq hx]
            exact ⟨.box hb hu hs h5, h6⟩
          · cases h1
        | und => cases (show (none : Option _) = some f1 from h1)
        | dat t' =>
          exfalso
          replace h1 : (match decB len t' (.mb us) with | some x => some fun r => (x, r) | none => none) = some f1 := h1
          cases len <;> cases t' <;> cases h1
        | nil => cases (show (none : Option _) = some f1 from h1)
        | os id => cases (show (none : Option _) = some f1 from h1)
        | vref id off => cases (show (none : Option _) = some f1 from h1)
        | agg l => cases (show (none : Option _) = some f1 from h1)
        | pc l off => cases (show (none : Option _) = some f1 from h1)
        | pcd l off => cases (show (none : Option _) = some f1 from h1)
        | pa e => cases (show (none : Option _) = some f1 from h1)
        | fn f l => cases (show (none : Option _) = some f1 from h1)
        | tup l => cases (show (none : Option _) = some f1 from h1)
    · cases h
  | [], _ :: _, R, f, cs, M, h, hv, r => by cases (show (none : Option (R → R)) = some f from h)
  | s :: l, [], R, f, cs, M, h, hv, r => by cases (show (none : Option (R → Sh.den.go (s :: l) R)) = some f from h)

theorem askG_good {cx : Ctx} : ∀ {l : List FSpec}, (∀ s ∈ l, s.OK cx) → ∀ (R : Type) (f : FuncId) (args : List V) (k : V → List (List V) → Option R) (r : R), askG l f args k = some r → ∃ v ms, k v ms = some r ∧ CallOK cx f args v ms
  | [], _, R, f, args, k, r, h => by simp [askG] at h
  | s :: l, hl, R, f, args, k, r, h => by
    have ih := fun h => askG_good (l := l) (fun s hs => hl s (List.mem_cons_of_mem _ hs)) R f args k r h
    simp only [askG] at h
    split at h
    · rename_i hf
      unfold FSpec.ask at h
      split at h
      · rename_i d hd
        cases hg : s.g (d ()) with
        | none => rw [hg] at h; simp at h
        | some res =>
          rw [hg] at h
          simp only [Option.bind_some] at h
          refine ⟨_, _, h, ?_⟩
          obtain ⟨h1, h2⟩ := hl s List.mem_cons_self (d ()) res hg
          rw [beq_true hf] at h1 h2
          exact ⟨h1, fun S0 w M cs hS hM hgl ha => h2 S0 w M cs hS hM hgl (Args.dec hd ha ()).1⟩
      · exact ih h
    · exact ih h

def oneM : Option (List Sh) → List (List V) → Option (List V)
  | none, [] => some []
  | some _, [vs] => some vs
  | _, _ => none

/-- what a body's end gives back -/
def FSpec.back (s : FSpec) (v : V) (ms : List (List V)) : Option (s.res.den (Sh.den.go (s.mu.getD []) Unit)) :=
  match oneM s.mu ms with
  | some vs => match s.res.dec true v (R := Sh.den.go (s.mu.getD []) Unit), Sh.dec.go true (s.mu.getD []) vs (R := Unit) with
    | some f, some h => some (f (h ()))
    | _, _ => none
  | none => none

theorem enc_len : ∀ {l : List Sh} {R : Type} {d : Sh.den.go l R}, (Sh.enc.go l d).1.length = l.length
  | [], R, d => rfl
  | s :: l, R, d => by
    show ((Sh.enc s d).1 :: (Sh.enc.go l (Sh.enc s d).2).1).length = _
    simp [enc_len]

theorem backs_oneM {E : Env} {M : List Nat} : ∀ {mu : Option (List Sh)} {ms : List (List V)} {vs : List V} {h : Unit → Sh.den.go (mu.getD []) Unit}, oneM mu ms = some vs → Sh.dec.go true (mu.getD []) vs = some h → Backs E M ms →
    Backs E M (backM mu (Sh.enc.go (mu.getD []) (h ())).1)
  | none, [], vs, h, hvs, h5, hbk => hbk
  | none, _ :: _, vs, h, hvs, h5, hbk => by cases hvs
  | some l, [], vs, h, hvs, h5, hbk => by cases hvs
  | some l, [us], vs, h, hvs, h5, hbk => by
    cases hvs
    cases hbk with
    | cons hb hu t => exact .cons hb (decL_rep h5 hu ()).1 t
  | some l, _ :: _ :: _, vs, h, hvs, h5, hbk => by cases hvs

theorem FSpec.ok_of_body {cx : Ctx} (hG : GoodG cx) {s : FSpec} {fn : Func} {c : Code} (hf : cx.P.funcs[s.f]? = some fn) (hb : fn.body = some c) (hnm : (fn.name == "runtime.NumGoroutine") = false)
    (hL : ∀ b ∈ subL c, LoopOK cx b) (hlen : Nat.ble s.args.length fn.ntmps && Nat.ble s.args.length 50000) (hbody : ∀ d, body cx fn (Sh.enc.go s.args d).1 s.back = s.g d) : s.OK cx := by
  intro d r hr
  rw [← hbody] at hr
  simp only [Bool.and_eq_true] at hlen
  obtain ⟨v, ms, h1, h2, h3⟩ := body_ok hG hf hb hnm hL (by rw [enc_len]; exact Nat.le_of_ble_eq_true hlen.1) (by rw [enc_len]; exact Nat.le_of_ble_eq_true hlen.2) hr
  unfold FSpec.back at h1
  split at h1
  · rename_i vs hvs
    split at h1
    · rename_i f h h4 h5
      cases h1
      refine ⟨h2, fun S0 w M cs hS hM hgl ha => Calls.mono (h3 S0 w M cs hS hM hgl ha) ?_⟩
      rintro e w' ⟨c, S', he, ho, hv, hbk⟩
      obtain ⟨h6, h7⟩ := Sh.dec_rep h4 hv (h ())
      refine ⟨c, S', he, ho, h6, ?_⟩
      rw [h7]
      exact backs_oneM hvs h5 hbk
    · cases h1
  · cases h1

theorem CallOK.cx {cx cx' : Ctx} (hP : cx.P = cx'.P) (hgl : cx.gl = cx'.gl) {f args v ms} (h : CallOK cx f args v ms) : CallOK cx' f args v ms := by
  obtain ⟨h1, h2⟩ := h
  rw [hP] at h1 h2
  rw [hgl] at h2
  exact ⟨h1, h2⟩

theorem FSpec.OK.cx {cx cx' : Ctx} (hP : cx.P = cx'.P) (hgl : cx.gl = cx'.gl) {s : FSpec} (h : s.OK cx) : s.OK cx' := fun d r hr => (h d r hr).cx hP hgl
/-- the body of a function, or nothing -/
def codeOf (fn : Func) : Code := match fn.body with | some c => c | none => .skip

theorem codeOf_eq {fn : Func} (h : fn.body.isSome = true) : fn.body = some (codeOf fn) := by
  unfold codeOf
  cases hb : fn.body with
  | some c => rfl
  | none => rw [hb] at h; cases h

/-- the i-th loop of a function -/
def loopAt (fn : Func) (i : Nat) : Code := (subL (codeOf fn)).getD i .skip

theorem loops_of {cx : Ctx} {fn : Func} (n : Nat) (hn : Nat.beq (subL (codeOf fn)).length n = true) (h : ∀ i, i < n → LoopOK cx (loopAt fn i)) : ∀ b ∈ subL (codeOf fn), LoopOK cx b := by
  intro b hb
  obtain ⟨i, hi, rfl⟩ := List.getElem_of_mem hb
  have hn := beq_true hn
  have := h i (by omega)
  unfold loopAt at this
  simpa [List.getD, List.getElem?_eq_getElem hi] using this

theorem FSpec.ok_of {cx : Ctx} {l : List FSpec} (hGl : ∀ (R : Type) f args (k : V → List (List V) → Option R), cx.G f args k = askG l f args k) (hl : ∀ s ∈ l, s.OK cx) {s : FSpec} {fn : Func}
    (hf : cx.P.funcs[s.f]? = some fn) (hb : fn.body.isSome = true) (hnm : (fn.name == "runtime.NumGoroutine") = false)
    (hL : ∀ b ∈ subL (codeOf fn), LoopOK cx b) (hlen : (Nat.ble s.args.length fn.ntmps && Nat.ble s.args.length 50000) = true) (hbody : ∀ d, body cx fn (Sh.enc.go s.args d).1 s.back = s.g d) : s.OK cx :=
  FSpec.ok_of_body (fun R f args k r h => askG_good hl R f args k r (by rw [← hGl]; exact h)) hf (codeOf_eq hb) hnm hL hlen hbody

theorem okNil {cx : Ctx} : ∀ s ∈ ([] : List FSpec), s.OK cx := fun s h => by cases h
theorem okCons {cx : Ctx} {s : FSpec} {l : List FSpec} (h : s.OK cx) (t : ∀ s ∈ l, s.OK cx) : ∀ s' ∈ s :: l, s'.OK cx := fun s' hs => by
  rcases List.mem_cons.mp hs with rfl | hs
  · exact h
  · exact t s' hs
end Go.Proofs.Vm

