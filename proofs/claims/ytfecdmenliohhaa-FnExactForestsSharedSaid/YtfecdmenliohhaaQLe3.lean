/- One goroutine's step over two memories that are alike: the frames alike, the calls and returns, functions of a list alone; below the view's last frame stands a sentinel, behind its text an item that ends the run. Plain. One step of the view's goroutine and the true one's beside it. Plain. -/
import Derived.Test.YtfecdmenliohhaaQLe2
import Derived.Control
import Derived.OwnWalk
import Derived.Conc.Own4
set_option linter.unusedVariables false
set_option linter.unusedSimpArgs false
set_option linter.unusedSimpArgs false
set_option linter.unusedVariables false
namespace Go.Proofs.Ytfecdmenliohhaa
open Go

/-! ### by a look -/
def codeOk (P : Program) (L : List FuncId) : Code → Bool
  | .skip | .ret | .exit _ | .label _ => true
  | .region _ ops _ => ops.all fun o => opOk P L o.op
  | .seq a b => codeOk P L a && codeOk P L b
  | .cond c a b => opdOk L c && codeOk P L a && codeOk P L b
  | .block _ b | .loop b => codeOk P L b
  | _ => false
def itemOk (P : Program) (L : List FuncId) : Item → Bool
  | .code c | .inLoop c => codeOk P L c
  | .inBlock _ => true
  | .inRegion ops _ => ops.all fun o => opOk P L o.op
  | _ => false
def resOk (rs : Array ResultVar) : Bool := (rs.size ≤ 3) && rs.all fun | .tmp _ => true | _ => false
/-- A function of the list: it has a body of our kinds, its results lie in temporaries. -/
def fnOk (P : Program) (L : List FuncId) (f : FuncId) : Bool :=
  match P.funcs[f]? with
  | some fn => !(fn.name == "runtime.NumGoroutine") && (match fn.body with | some c => codeOk P L c | none => false) && resOk fn.results
  | none => false

/-- The list, looked through. -/
structure ListOk (P : Program) (C : Cx) (L : List FuncId) : Prop where
  all : L.all (fnOk P L) = true
  F : ∀ f, C.F f ↔ L.contains f = true
  glob : GOk P C
theorem ListOk.fn {P : Program} {C : Cx} {L : List FuncId} (h : ListOk P C L) {f : FuncId} (hf : C.F f) :
    ∃ fn c, P.funcs[f]? = some fn ∧ fn.body = some c ∧ codeOk P L c = true ∧ resOk fn.results = true ∧ (fn.name == "runtime.NumGoroutine") = false := by
  have hm : f ∈ L := by simpa using (h.F f).1 hf
  have := List.all_eq_true.1 h.all f hm
  unfold fnOk at this
  cases e : P.funcs[f]? with
  | none => simp [e] at this
  | some fn =>
    simp only [e, Bool.and_eq_true, Bool.not_eq_true'] at this
    cases hb : fn.body with
    | none => simp [hb] at this
    | some c => rw [hb] at this; exact ⟨fn, c, rfl, hb, this.1.2, this.2, this.1.1⟩
theorem ListOk.fns {P : Program} {C : Cx} {L : List FuncId} (h : ListOk P C L) : FnsOk P C :=
  ⟨fun f hf => by obtain ⟨fn, c, h1, h2, _, _, h3⟩ := h.fn hf; exact ⟨fn, h1, h3, by rw [h2]; rfl⟩, h.glob⟩

theorem undef_rel {C : Cx} {p : Ren} : VRel C p undef undef := ASame.empty.tup

/-- What a function hands back. -/
theorem results_rel {P : Program} {C : Cx} {p : Ren} {fn : Func} (hr : resOk fn.results = true) {x x' : Array Value} (h : ASame C p x x') :
    ∃ v v', (∀ w es, (results fn x).runT P w es = (.ok v w, es)) ∧ (∀ w es, (results fn x').runT P w es = (.ok v' w, es)) ∧ VRel C p v v' := by
  have g : ∀ t, VRel C p (x.getD t undef) (x'.getD t undef) := fun t => h.getD undef_rel t
  generalize hrs : fn.results = rs0 at hr
  obtain ⟨rs⟩ := rs0
  simp only [resOk, Bool.and_eq_true, decide_eq_true_eq, List.size_toArray] at hr
  obtain ⟨hl, ha⟩ := hr
  match rs, hl, ha with
  | [], _, _ => exact ⟨.tuple #[], .tuple #[], fun w es => by rw [Sem.runT_eq, results_none hrs _ P w, Conc.events_results_none hrs], fun w es => by rw [Sem.runT_eq, results_none hrs _ P w, Conc.events_results_none hrs], undef_rel⟩
  | [.tmp a], _, _ => exact ⟨_, _, fun w es => by rw [Sem.runT_eq, results_tmp hrs _ P w, Conc.events_results_tmp hrs], fun w es => by rw [Sem.runT_eq, results_tmp hrs _ P w, Conc.events_results_tmp hrs], g a⟩
  | [.tmp a, .tmp b], _, _ => exact ⟨_, _, fun w es => by rw [Sem.runT_eq, results_tmp2 hrs _ P w, Conc.events_results_tmp2 hrs]; rfl, fun w es => by rw [Sem.runT_eq, results_tmp2 hrs _ P w, Conc.events_results_tmp2 hrs]; rfl, ASame.tup (((ASame.empty.push (g a)).push (g b)))⟩
  | [.tmp a, .tmp b, .tmp c], _, _ =>
    have ev : ∀ (tm : Array Value) (w : World) (es : Array Event), (results fn tm).events P w es = es := fun tm w es => by simp [results, hrs]
    exact ⟨_, _, fun w es => by rw [Sem.runT_eq, results_tmp3 hrs _ P w, ev]; rfl, fun w es => by rw [Sem.runT_eq, results_tmp3 hrs _ P w, ev]; rfl, ASame.tup (((ASame.empty.push (g a)).push (g b)).push (g c))⟩
  | .cell _ _ :: _, _, ha => simp at ha
  | [.tmp _, .cell _ _], _, ha => simp at ha
  | [.tmp _, .tmp _, .cell _ _], _, ha => simp at ha
  | [.tmp _, .cell _ _, .tmp _], _, ha => simp at ha
  | [.tmp _, .cell _ _, .cell _ _], _, ha => simp at ha
  | _ :: _ :: _ :: _ :: _, hl, _ => simp at hl

/-! ### frames -/
def rec' (f : Frame) (l : List Frame) : Goroutine := { frame := f, callers := l, status := .running, dying := none }
/-- Behind the view's text stands an item that ends the run. -/
def kv0 : List Item := [.code (.refuse "")]
/-- Below the view's last frame stands one that ends the run, however it is come back to. -/
def sent (P : Program) : Frame := { fn := P.funcs.size, tmps := #[], todo := kv0, defers := [{ target := .nil, args := #[] }], mode := .run, kind := .normal }

/-- A function that is there, its results in temporaries. -/
def FnRes (P : Program) (f : FuncId) : Prop := ∃ fn, P.funcs[f]? = some fn ∧ resOk fn.results = true

/-- Frames alike: what is still to be done is the same, up to what stands behind it (kv, kt). -/
structure FRel (P : Program) (L : List FuncId) (C : Cx) (p : Ren) (kv kt : List Item) (items : List Item) (f f' : Frame) : Prop where
  fn : f'.fn = f.fn
  ok : FnRes P f.fn
  tmps : ASame C p f.tmps f'.tmps
  tv : f.todo = items ++ kv
  tt : f'.todo = items ++ kt
  its : ∀ x ∈ items, itemOk P L x = true
  dv : f.defers = []
  dt : f'.defers = []
  mode : f'.mode = f.mode
  live : f.mode = .run ∨ f.mode = .returning
  kV : f.kind = .normal
  kT : f'.kind ≠ .early
  rv : f.roundOf = none
  rt : f'.roundOf = none

section
variable {P : Program} {L : List FuncId} {C : Cx} {p q : Ren} {kv kt : List Item} {items its : List Item} {f f' : Frame} {v v' : Value}

theorem FRel.mono (h : FRel P L C p kv kt items f f') (k : RLe p q) : FRel P L C q kv kt items f f' := ⟨h.fn, h.ok, h.tmps.mono k, h.tv, h.tt, h.its, h.dv, h.dt, h.mode, h.live, h.kV, h.kT, h.rv, h.rt⟩
/-- What is still to be done, laid anew. -/
theorem FRel.to (h : FRel P L C p kv kt items f f') {new : List Item} (hn : ∀ x ∈ new, itemOk P L x = true) : FRel P L C p kv kt new { f with todo := new ++ kv } { f' with todo := new ++ kt } :=
  ⟨h.fn, h.ok, h.tmps, rfl, rfl, hn, h.dv, h.dt, h.mode, h.live, h.kV, h.kT, h.rv, h.rt⟩
theorem FRel.ret (h : FRel P L C p kv kt items f f') : FRel P L C p kv kt items { f with mode := .returning } { f' with mode := .returning } :=
  ⟨h.fn, h.ok, h.tmps, h.tv, h.tt, h.its, h.dv, h.dt, rfl, .inr rfl, h.kV, h.kT, h.rv, h.rt⟩
theorem FRel.eval (h : FRel P L C p kv kt items f f') (hL : ∀ g, L.contains g = true → C.F g) {x : Operand} (hx : opdOk L x = true) : VRel C p (f.eval x) (f'.eval x) :=
  rel_opd (r := f.eval) (r' := f'.eval) (fun t => h.tmps.getD undef_rel t) (fun v => ⟨rfl, rfl⟩) (fun f => ⟨rfl, rfl⟩) hL hx
/-- An operation has come to its end. -/
theorem FRel.finish {ops : Array Oper} {i : Nat} {rest : List Nat} (h : FRel P L C p kv kt (.inRegion ops (i :: rest) :: items) f f') (hv : VRel C p v v') : FRel P L C p kv kt (.inRegion ops rest :: items) (f.finish v) (f'.finish v') := by
  have e1 : f.todo = .inRegion ops (i :: rest) :: (items ++ kv) := h.tv
  have e2 : f'.todo = .inRegion ops (i :: rest) :: (items ++ kt) := h.tt
  have hi : ∀ x ∈ Item.inRegion ops rest :: items, itemOk P L x = true := by
    intro x hx
    rcases List.mem_cons.1 hx with rfl | hx
    · exact h.its (.inRegion ops (i :: rest)) (by simp)
    · exact h.its x (by simp [hx])
  unfold Frame.finish
  rw [e1, e2]
  refine ⟨h.fn, h.ok, ?_, rfl, rfl, hi, h.dv, h.dt, h.mode, h.live, h.kV, h.kT, h.rv, h.rt⟩
  simp only
  cases (ops[i]?).bind (·.dst) with
  | none => exact h.tmps
  | some d => exact h.tmps.set hv d
theorem yielded_same {x x' : Array Value} (h : ASame C p x x') (ops : Array Oper) : yielded ops x = yielded ops x' := by
  funext j
  unfold yielded
  cases (ops[j]?).bind (·.dst) with
  | none => rfl
  | some t =>
    simp only [Option.bind_some]
    cases hv : x[t]? with
    | none => rw [h.get_none hv]
    | some v =>
      obtain ⟨v', e, r⟩ := h.get hv
      rw [e]
      cases r with
      | junk hh => cases v' <;> first | rfl | cases hh
      | _ => rfl

/-- Those that wait for a call. -/
inductive CRel (P : Program) (L : List FuncId) (C : Cx) (B : FuncId × CallKind) (K kt : List Item) (ct : List Frame) (p : Ren) : List Frame → List Frame → Prop
  | base {f f' : Frame} {ops : Array Oper} {i : Nat} {rest : List Nat} {items : List Item} : FRel P L C p K kt (.inRegion ops (i :: rest) :: items) f f' → f.mode = .run → f'.fn = B.1 → f'.kind = B.2 → CRel P L C B K kt ct p [f, sent P] (f' :: ct)
  | up {f f' : Frame} {ops : Array Oper} {i : Nat} {rest : List Nat} {items : List Item} {l l' : List Frame} : FRel P L C p [] [] (.inRegion ops (i :: rest) :: items) f f' → f.mode = .run → f'.kind = .normal → CRel P L C B K kt ct p l l' → CRel P L C B K kt ct p (f :: l) (f' :: l')
theorem CRel.mono {B : FuncId × CallKind} {K : List Item} {ct : List Frame} {l l' : List Frame} (h : CRel P L C B K kt ct p l l') (k : RLe p q) : CRel P L C B K kt ct q l l' := by
  induction h with
  | base h m e e' => exact .base (h.mono k) m e e'
  | up h m n _ ih => exact .up (h.mono k) m n ih
/-- The goroutines alike. -/
inductive GRel (P : Program) (L : List FuncId) (C : Cx) (B : FuncId × CallKind) (K kt : List Item) (ct : List Frame) (p : Ren) : Frame → List Frame → Frame → List Frame → Prop
  | base {f f' : Frame} {items : List Item} : FRel P L C p K kt items f f' → f'.fn = B.1 → f'.kind = B.2 → GRel P L C B K kt ct p f [sent P] f' ct
  | up {f f' : Frame} {items : List Item} {l l' : List Frame} : FRel P L C p [] [] items f f' → f'.kind = .normal → CRel P L C B K kt ct p l l' → GRel P L C B K kt ct p f l f' l'

theorem exitTo_append (id : Nat) (ys : List Item) : ∀ (xs : List Item), exitTo id (xs ++ ys) = match exitTo id xs with | some z => some (z ++ ys) | none => exitTo id ys
  | [] => by simp [exitTo]
  | x :: xs => by
    cases x <;> simp only [List.cons_append, exitTo] <;> first
      | exact exitTo_append id ys xs
      | (split
         · rfl
         · exact exitTo_append id ys xs)
theorem exitTo_sub {id : Nat} : ∀ {xs z : List Item}, exitTo id xs = some z → ∀ x ∈ z, x ∈ xs
  | [], _, h => by simp [exitTo] at h
  | y :: xs, z, h => by
    intro x hx
    cases y <;> simp only [exitTo] at h <;> first
      | exact List.mem_cons_of_mem _ (exitTo_sub h x hx)
      | (split at h
         · cases h; exact List.mem_cons_of_mem _ hx
         · exact List.mem_cons_of_mem _ (exitTo_sub h x hx))
end
end Go.Proofs.Ytfecdmenliohhaa

set_option linter.unusedSimpArgs false
set_option linter.unusedVariables false
namespace Go.Proofs.Ytfecdmenliohhaa
open Go

/-- The view's step goes astray: it ends the run, or panics. -/
def Astray (P : Program) (l : List Frame) : GStep → Prop
  | .ended _ _ _ => True
  | .go g _ _ => ∃ (f : Frame) (ch : List PanicEntry), g = rec' { f with mode := .panicking ch } l ∧ f.defers = [] ∧ (∃ fn, P.funcs[f.fn]? = some fn)
  | _ => False

section
variable (P : Program) (L : List FuncId) (C : Cx) (B : FuncId × CallKind) (K kt : List Item) (ct : List Frame)

/-- The view's step, whatever its tape; the true step, if its tape answers as the view's. -/
structure StepGood (p : Ren) (f : Frame) (l : List Frame) (f' : Frame) (l' : List Frame) (w w' : World) (f₁ : Frame) (l₁ : List Frame) (w₁ : World) : Prop where
  drawn : w.drawn ≤ w₁.drawn
  view : ∀ (T : Nat → Question → Nat) (d : Nat), (∀ j q, j < w₁.drawn - w.drawn → T (d + j) q = w.tape (w.drawn + j) q) →
    ∃ es, stepG P true (rec' f l) (World.tp w T d) = .go (rec' f₁ l₁) (World.tp w₁ T (d + (w₁.drawn - w.drawn))) es
  true_ : Agree w w₁ w' → ∀ main, ∃ q f₁' l₁' w₁' es, stepG P main (rec' f' l') w' = .go (rec' f₁' l₁') w₁' es ∧ RLe p q ∧ GRel P L C B K kt ct q f₁ l₁ f₁' l₁' ∧ WRel C q w₁ w₁' ∧ Kept C p q w' w₁' ∧
    w₁'.drawn = w'.drawn + (w₁.drawn - w.drawn) ∧ ∀ e ∈ es, EvOk C q e
end

theorem tp_self (w : World) : World.tp w w.tape w.drawn = w := rfl
theorem tp_tp (w : World) (T T' : Nat → Question → Nat) (d d' : Nat) : World.tp (World.tp w T d) T' d' = World.tp w T' d' := rfl

section
variable {P : Program} {L : List FuncId} {C : Cx} {B : FuncId × CallKind} {K kt : List Item} {ct : List Frame} {p : Ren} {f f' : Frame} {l l' : List Frame} {w w' : World}

/-- A move of control. -/
theorem StepGood.ctl {f₁ f₁' : Frame} {l₁ l₁' : List Frame} (hw : WRel C p w w') (hv : ∀ w, ∃ es, stepG P true (rec' f l) w = .go (rec' f₁ l₁) w es) (ht : ∀ main w, ∃ es, (∀ e ∈ es, False) ∧ stepG P main (rec' f' l') w = .go (rec' f₁' l₁') w es)
    (hg : GRel P L C B K kt ct p f₁ l₁ f₁' l₁') : StepGood P L C B K kt ct p f l f' l' w w' f₁ l₁ w := by
  refine ⟨Nat.le_refl _, fun T d _ => ?_, fun _ main => ?_⟩
  · obtain ⟨es, h⟩ := hv (World.tp w T d)
    exact ⟨es, by rw [h, Nat.sub_self, Nat.add_zero]⟩
  · obtain ⟨es, h0, h⟩ := ht main w'
    exact ⟨p, f₁', l₁', w', es, h, .refl _, hg, hw, .refl _ _, by omega, fun e he => (h0 e he).elim⟩

theorem stepG_run (main : Bool) (h : f.mode = .run) (w : World) : stepG P main (rec' f l) w = stepG.exec P main true f l none w := by
  simp [stepG, rec', h]
theorem exec_ret (main : Bool) (h : f.roundOf = none) {k : List Item} (ht : f.todo = .code .ret :: k) (w : World) : stepG.exec P main true f l none w = .go (rec' { f with mode := .returning } l) w := by
  simp [stepG.exec, ht, h, rec']
theorem exec_nil (main : Bool) (h : f.roundOf = none) (ht : f.todo = []) (w : World) : stepG.exec P main true f l none w = .go (rec' { f with mode := .returning } l) w := by
  simp [stepG.exec, ht, h, rec']

/-- The control items. -/
def ctlTo (ev : Operand → Value) : Item → List Item → Option (List Item)
  | .code .skip, k | .code (.label _), k | .inBlock _, k => some k
  | .code (.seq a b), k => some (.code a :: .code b :: k)
  | .code (.cond c a b), k => match ev c with | .bool t => some (.code (if t then a else b) :: k) | _ => none
  | .code (.block id b), k => some (.code b :: .inBlock id :: k)
  | .code (.loop b), k | .inLoop b, k => some (.code b :: .inLoop b :: k)
  | .code (.region _ ops false), k => some (.inRegion ops (List.range ops.size) :: k)
  | .inRegion _ [], k => some k
  | _, _ => none
theorem exec_ctl (main : Bool) {x : Item} {k new : List Item} (ht : f.todo = x :: k) (hc : ctlTo f.eval x k = some new) (w : World) : stepG.exec P main true f l none w = .go (rec' { f with todo := new } l) w := by
  cases x with
  | code c =>
    cases c <;> simp only [ctlTo, Option.some.injEq, reduceCtorEq] at hc
    case skip => subst hc; simp [stepG.exec, ht, rec']
    case label => subst hc; simp [stepG.exec, ht, rec']
    case seq => subst hc; simp [stepG.exec, ht, rec']
    case block => subst hc; simp [stepG.exec, ht, rec']
    case loop => subst hc; simp [stepG.exec, ht, rec']
    case cond c a b =>
      simp only [stepG.exec, ht]
      cases hv : f.eval c <;> simp only [hv, reduceCtorEq, Option.some.injEq] at hc
      subst hc
      simp [rec']
    case region id ops draw =>
      cases draw <;> simp only [ctlTo, Option.some.injEq, reduceCtorEq] at hc
      subst hc
      simp [stepG.exec, ht, rec']
  | inBlock id => simp only [ctlTo, Option.some.injEq] at hc; subst hc; simp [stepG.exec, ht, rec']
  | inLoop b => simp only [ctlTo, Option.some.injEq] at hc; subst hc; simp [stepG.exec, ht, rec']
  | inRegion ops todo =>
    cases todo <;> simp only [ctlTo, Option.some.injEq, reduceCtorEq] at hc
    subst hc; simp [stepG.exec, ht, rec']
  | _ => simp [ctlTo] at hc

/-- Both take the same control step. -/
theorem FRel.ctl {kv kt' : List Item} {x : Item} {its : List Item} (h : FRel P L C p kv kt' (x :: its) f f') (H : ListOk P C L) {new : List Item} (hc : ctlTo f.eval x its = some new) :
    ctlTo f.eval x (its ++ kv) = some (new ++ kv) ∧ ctlTo f'.eval x (its ++ kt') = some (new ++ kt') ∧ (∀ y ∈ new, itemOk P L y = true) := by
  have hx := h.its x (by simp)
  have hi : ∀ y ∈ its, itemOk P L y = true := fun y hy => h.its y (by simp [hy])
  have two : ∀ {a b : Item}, itemOk P L a = true → itemOk P L b = true → ∀ y ∈ a :: b :: its, itemOk P L y = true := by
    intro a b ha hb y hy
    simp only [List.mem_cons] at hy
    rcases hy with rfl | rfl | hy
    · exact ha
    · exact hb
    · exact hi y hy
  cases x with
  | code c =>
    cases c <;> simp only [ctlTo, Option.some.injEq, reduceCtorEq] at hc <;> simp only [itemOk, codeOk, Bool.and_eq_true, Bool.false_eq_true] at hx
    case skip => subst hc; exact ⟨rfl, rfl, hi⟩
    case label => subst hc; exact ⟨rfl, rfl, hi⟩
    case seq => subst hc; exact ⟨rfl, rfl, two hx.1 hx.2⟩
    case block => subst hc; exact ⟨rfl, rfl, two hx rfl⟩
    case loop => subst hc; exact ⟨rfl, rfl, two hx hx⟩
    case cond c a b =>
      have hev := h.eval (fun g hg => (H.F g).2 hg) hx.1.1
      cases hv : f.eval c with
      | bool t =>
        rw [hv] at hev hc
        simp only [Option.some.injEq] at hc
        subst hc
        have : f'.eval c = .bool t := by
          generalize f'.eval c = y at hev
          cases hev; rfl
        refine ⟨by simp [ctlTo, hv], by simp [ctlTo, this], fun y hy => ?_⟩
        rcases List.mem_cons.1 hy with rfl | hy
        · cases t
          · exact hx.2
          · exact hx.1.2
        · exact hi y hy
      | _ => rw [hv] at hc; cases hc
    case region id ops draw =>
      cases draw <;> simp only [ctlTo, Option.some.injEq, reduceCtorEq] at hc
      subst hc
      refine ⟨rfl, rfl, fun y hy => ?_⟩
      rcases List.mem_cons.1 hy with rfl | hy
      · exact hx
      · exact hi y hy
  | inBlock id => simp only [ctlTo, Option.some.injEq] at hc; subst hc; exact ⟨rfl, rfl, hi⟩
  | inLoop b => simp only [ctlTo, Option.some.injEq] at hc; subst hc; exact ⟨rfl, rfl, two hx hx⟩
  | inRegion ops todo =>
    cases todo <;> simp only [ctlTo, Option.some.injEq, reduceCtorEq] at hc
    subst hc; exact ⟨rfl, rfl, hi⟩
  | _ => simp [ctlTo] at hc
end
end Go.Proofs.Ytfecdmenliohhaa
