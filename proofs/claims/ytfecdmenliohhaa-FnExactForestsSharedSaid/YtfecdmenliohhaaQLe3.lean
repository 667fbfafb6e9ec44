/- One goroutine's step over two memories that are alike: the frames alike, the calls and returns, functions of a list alone; below the view's last frame stands a sentinel, behind its text an item that ends the run. Plain. One step of the view's goroutine and the true one's beside it. Plain. The step of the view and the true step beside it: all cases together; and that the view, once it has gone astray, never comes back. Plain. The step of the view and the true step beside it, whatever is next; the view, once it has gone astray, never comes back. Plain. -/
import Derived.Test.YtfecdmenliohhaaQLe2
import Derived.Control
import Derived.OwnWalk
import Derived.Conc.Own4
set_option linter.unusedVariables false
set_option linter.unusedSimpArgs false
set_option linter.unusedSimpArgs false
set_option linter.unusedVariables false
namespace Go.Proofs.Ytfecdmenliohhaa
open Go

/-! ### by a look -/
def codeOk (P : Program) (L : List FuncId) : Code → Bool
  | .skip | .ret | .exit _ | .label _ => true
  | .region _ ops _ => ops.all fun o => opOk P L o.op
  | .seq a b => codeOk P L a && codeOk P L b
  | .cond c a b => opdOk L c && codeOk P L a && codeOk P L b
  | .block _ b | .loop b => codeOk P L b
  | _ => false
def itemOk (P : Program) (L : List FuncId) : Item → Bool
  | .code c | .inLoop c => codeOk P L c
  | .inBlock _ => true
  | .inRegion ops _ => ops.all fun o => opOk P L o.op
  | _ => false
def resOk (rs : Array ResultVar) : Bool := (rs.size ≤ 3) && rs.all fun | .tmp _ => true | _ => false
/-- A function of the list: it has a body of our kinds, its results lie in temporaries. -/
def fnOk (P : Program) (L : List FuncId) (f : FuncId) : Bool :=
  match P.funcs[f]? with
  | some fn => !(fn.name == "runtime.NumGoroutine") && (match fn.body with | some c => codeOk P L c | none => false) && resOk fn.results
  | none => false

/-- The list, looked through. -/
structure ListOk (P : Program) (C : Cx) (L : List FuncId) : Prop where
  all : L.all (fnOk P L) = true
  F : ∀ f, C.F f ↔ L.contains f = true
  glob : GOk P C
theorem ListOk.fn {P : Program} {C : Cx} {L : List FuncId} (h : ListOk P C L) {f : FuncId} (hf : C.F f) :
    ∃ fn c, P.funcs[f]? = some fn ∧ fn.body = some c ∧ codeOk P L c = true ∧ resOk fn.results = true ∧ (fn.name == "runtime.NumGoroutine") = false := by
  have hm : f ∈ L := by simpa using (h.F f).1 hf
  have := List.all_eq_true.1 h.all f hm
  unfold fnOk at this
  cases e : P.funcs[f]? with
  | none => simp [e] at this
  | some fn =>
    simp only [e, Bool.and_eq_true, Bool.not_eq_true'] at this
    cases hb : fn.body with
    | none => simp [hb] at this
    | some c => rw [hb] at this; exact ⟨fn, c, rfl, hb, this.1.2, this.2, this.1.1⟩
theorem ListOk.fns {P : Program} {C : Cx} {L : List FuncId} (h : ListOk P C L) : FnsOk P C :=
  ⟨fun f hf => by obtain ⟨fn, c, h1, h2, _, _, h3⟩ := h.fn hf; exact ⟨fn, h1, h3, by rw [h2]; rfl⟩, h.glob⟩

theorem undef_rel {C : Cx} {p : Ren} : VRel C p undef undef := ASame.empty.tup

/-- What a function hands back. -/
theorem results_rel {P : Program} {C : Cx} {p : Ren} {fn : Func} (hr : resOk fn.results = true) {x x' : Array Value} (h : ASame C p x x') :
    ∃ v v', (∀ w es, (results fn x).runT P w es = (.ok v w, es)) ∧ (∀ w es, (results fn x').runT P w es = (.ok v' w, es)) ∧ VRel C p v v' := by
  have g : ∀ t, VRel C p (x.getD t undef) (x'.getD t undef) := fun t => h.getD undef_rel t
  generalize hrs : fn.results = rs0 at hr
  obtain ⟨rs⟩ := rs0
  simp only [resOk, Bool.and_eq_true, decide_eq_true_eq, List.size_toArray] at hr
  obtain ⟨hl, ha⟩ := hr
  match rs, hl, ha with
  | [], _, _ => exact ⟨.tuple #[], .tuple #[], fun w es => by rw [Sem.runT_eq, results_none hrs _ P w, Conc.events_results_none hrs], fun w es => by rw [Sem.runT_eq, results_none hrs _ P w, Conc.events_results_none hrs], undef_rel⟩
  | [.tmp a], _, _ => exact ⟨_, _, fun w es => by rw [Sem.runT_eq, results_tmp hrs _ P w, Conc.events_results_tmp hrs], fun w es => by rw [Sem.runT_eq, results_tmp hrs _ P w, Conc.events_results_tmp hrs], g a⟩
  | [.tmp a, .tmp b], _, _ => exact ⟨_, _, fun w es => by rw [Sem.runT_eq, results_tmp2 hrs _ P w, Conc.events_results_tmp2 hrs]; rfl, fun w es => by rw [Sem.runT_eq, results_tmp2 hrs _ P w, Conc.events_results_tmp2 hrs]; rfl, ASame.tup (((ASame.empty.push (g a)).push (g b)))⟩
  | [.tmp a, .tmp b, .tmp c], _, _ =>
    have ev : ∀ (tm : Array Value) (w : World) (es : Array Event), (results fn tm).events P w es = es := fun tm w es => by simp [results, hrs]
    exact ⟨_, _, fun w es => by rw [Sem.runT_eq, results_tmp3 hrs _ P w, ev]; rfl, fun w es => by rw [Sem.runT_eq, results_tmp3 hrs _ P w, ev]; rfl, ASame.tup (((ASame.empty.push (g a)).push (g b)).push (g c))⟩
  | .cell _ _ :: _, _, ha => simp at ha
  | [.tmp _, .cell _ _], _, ha => simp at ha
  | [.tmp _, .tmp _, .cell _ _], _, ha => simp at ha
  | [.tmp _, .cell _ _, .tmp _], _, ha => simp at ha
  | [.tmp _, .cell _ _, .cell _ _], _, ha => simp at ha
  | _ :: _ :: _ :: _ :: _, hl, _ => simp at hl

/-! ### frames -/
def rec' (f : Frame) (l : List Frame) : Goroutine := { frame := f, callers := l, status := .running, dying := none }
/-- Behind the view's text stands an item that ends the run. -/
def kv0 : List Item := [.code (.refuse "")]
/-- Below the view's last frame stands one that ends the run, however it is come back to. -/
def sent (P : Program) : Frame := { fn := P.funcs.size, tmps := #[], todo := kv0, defers := [{ target := .nil, args := #[] }], mode := .run, kind := .normal }

/-- A function that is there, its results in temporaries. -/
def FnRes (P : Program) (f : FuncId) : Prop := ∃ fn, P.funcs[f]? = some fn ∧ resOk fn.results = true

/-- Frames alike: what is still to be done is the same, up to what stands behind it (kv, kt). -/
structure FRel (P : Program) (L : List FuncId) (C : Cx) (p : Ren) (kv kt : List Item) (items : List Item) (f f' : Frame) : Prop where
  fn : f'.fn = f.fn
  ok : FnRes P f.fn
  tmps : ASame C p f.tmps f'.tmps
  tv : f.todo = items ++ kv
  tt : f'.todo = items ++ kt
  its : ∀ x ∈ items, itemOk P L x = true
  dv : f.defers = []
  dt : f'.defers = []
  mode : f'.mode = f.mode
  live : f.mode = .run ∨ f.mode = .returning
  kV : f.kind = .normal
  kT : f'.kind ≠ .early
  rv : f.roundOf = none
  rt : f'.roundOf = none

section
variable {P : Program} {L : List FuncId} {C : Cx} {p q : Ren} {kv kt : List Item} {items its : List Item} {f f' : Frame} {v v' : Value}

theorem FRel.mono (h : FRel P L C p kv kt items f f') (k : RLe p q) : FRel P L C q kv kt items f f' := ⟨h.fn, h.ok, h.tmps.mono k, h.tv, h.tt, h.its, h.dv, h.dt, h.mode, h.live, h.kV, h.kT, h.rv, h.rt⟩
/-- What is still to be done, laid anew. -/
theorem FRel.to (h : FRel P L C p kv kt items f f') {new : List Item} (hn : ∀ x ∈ new, itemOk P L x = true) : FRel P L C p kv kt new { f with todo := new ++ kv } { f' with todo := new ++ kt } :=
  ⟨h.fn, h.ok, h.tmps, rfl, rfl, hn, h.dv, h.dt, h.mode, h.live, h.kV, h.kT, h.rv, h.rt⟩
theorem FRel.ret (h : FRel P L C p kv kt items f f') : FRel P L C p kv kt items { f with mode := .returning } { f' with mode := .returning } :=
  ⟨h.fn, h.ok, h.tmps, h.tv, h.tt, h.its, h.dv, h.dt, rfl, .inr rfl, h.kV, h.kT, h.rv, h.rt⟩
theorem FRel.eval (h : FRel P L C p kv kt items f f') (hL : ∀ g, L.contains g = true → C.F g) {x : Operand} (hx : opdOk L x = true) : VRel C p (f.eval x) (f'.eval x) :=
  rel_opd (r := f.eval) (r' := f'.eval) (fun t => h.tmps.getD undef_rel t) (fun v => ⟨rfl, rfl⟩) (fun f => ⟨rfl, rfl⟩) hL hx
/-- An operation has come to its end. -/
theorem FRel.finish {ops : Array Oper} {i : Nat} {rest : List Nat} (h : FRel P L C p kv kt (.inRegion ops (i :: rest) :: items) f f') (hv : VRel C p v v') : FRel P L C p kv kt (.inRegion ops rest :: items) (f.finish v) (f'.finish v') := by
  have e1 : f.todo = .inRegion ops (i :: rest) :: (items ++ kv) := h.tv
  have e2 : f'.todo = .inRegion ops (i :: rest) :: (items ++ kt) := h.tt
  have hi : ∀ x ∈ Item.inRegion ops rest :: items, itemOk P L x = true := by
    intro x hx
    rcases List.mem_cons.1 hx with rfl | hx
    · exact h.its (.inRegion ops (i :: rest)) (by simp)
    · exact h.its x (by simp [hx])
  unfold Frame.finish
  rw [e1, e2]
  refine ⟨h.fn, h.ok, ?_, rfl, rfl, hi, h.dv, h.dt, h.mode, h.live, h.kV, h.kT, h.rv, h.rt⟩
  simp only
  cases (ops[i]?).bind (·.dst) with
  | none => exact h.tmps
  | some d => exact h.tmps.set hv d
theorem yielded_same {x x' : Array Value} (h : ASame C p x x') (ops : Array Oper) : yielded ops x = yielded ops x' := by
  funext j
  unfold yielded
  cases (ops[j]?).bind (·.dst) with
  | none => rfl
  | some t =>
    simp only [Option.bind_some]
    cases hv : x[t]? with
    | none => rw [h.get_none hv]
    | some v =>
      obtain ⟨v', e, r⟩ := h.get hv
      rw [e]
      cases r with
      | junk hh => cases v' <;> first | rfl | cases hh
      | _ => rfl

/-- Those that wait for a call. -/
inductive CRel (P : Program) (L : List FuncId) (C : Cx) (B : FuncId × CallKind) (K kt : List Item) (ct : List Frame) (p : Ren) : List Frame → List Frame → Prop
  | base {f f' : Frame} {ops : Array Oper} {i : Nat} {rest : List Nat} {items : List Item} : FRel P L C p K kt (.inRegion ops (i :: rest) :: items) f f' → f.mode = .run → f'.fn = B.1 → f'.kind = B.2 → CRel P L C B K kt ct p [f, sent P] (f' :: ct)
  | up {f f' : Frame} {ops : Array Oper} {i : Nat} {rest : List Nat} {items : List Item} {l l' : List Frame} : FRel P L C p [] [] (.inRegion ops (i :: rest) :: items) f f' → f.mode = .run → f'.kind = .normal → CRel P L C B K kt ct p l l' → CRel P L C B K kt ct p (f :: l) (f' :: l')
theorem CRel.mono {B : FuncId × CallKind} {K : List Item} {ct : List Frame} {l l' : List Frame} (h : CRel P L C B K kt ct p l l') (k : RLe p q) : CRel P L C B K kt ct q l l' := by
  induction h with
  | base h m e e' => exact .base (h.mono k) m e e'
  | up h m n _ ih => exact .up (h.mono k) m n ih
/-- The goroutines alike. -/
inductive GRel (P : Program) (L : List FuncId) (C : Cx) (B : FuncId × CallKind) (K kt : List Item) (ct : List Frame) (p : Ren) : Frame → List Frame → Frame → List Frame → Prop
  | base {f f' : Frame} {items : List Item} : FRel P L C p K kt items f f' → f'.fn = B.1 → f'.kind = B.2 → GRel P L C B K kt ct p f [sent P] f' ct
  | up {f f' : Frame} {items : List Item} {l l' : List Frame} : FRel P L C p [] [] items f f' → f'.kind = .normal → CRel P L C B K kt ct p l l' → GRel P L C B K kt ct p f l f' l'

theorem exitTo_append (id : Nat) (ys : List Item) : ∀ (xs : List Item), exitTo id (xs ++ ys) = match exitTo id xs with | some z => some (z ++ ys) | none => exitTo id ys
  | [] => by simp [exitTo]
  | x :: xs => by
    cases x <;> simp only [List.cons_append, exitTo] <;> first
      | exact exitTo_append id ys xs
      | (split
         · rfl
         · exact exitTo_append id ys xs)
theorem exitTo_sub {id : Nat} : ∀ {xs z : List Item}, exitTo id xs = some z → ∀ x ∈ z, x ∈ xs
  | [], _, h => by simp [exitTo] at h
  | y :: xs, z, h => by
    intro x hx
    cases y <;> simp only [exitTo] at h <;> first
      | exact List.mem_cons_of_mem _ (exitTo_sub h x hx)
      | (split at h
         · cases h; exact List.mem_cons_of_mem _ hx
         · exact List.mem_cons_of_mem _ (exitTo_sub h x hx))
end
end Go.Proofs.Ytfecdmenliohhaa

set_option linter.unusedSimpArgs false
set_option linter.unusedVariables false
namespace Go.Proofs.Ytfecdmenliohhaa
open Go

/-- The view's step goes astray: it ends the run, or panics. -/
def Astray (P : Program) (l : List Frame) : GStep → Prop
  | .ended _ _ _ => True
  | .go g _ _ => ∃ (f : Frame) (ch : List PanicEntry), g = rec' { f with mode := .panicking ch } l ∧ f.defers = [] ∧ (∃ fn, P.funcs[f.fn]? = some fn)
  | _ => False

section
variable (P : Program) (L : List FuncId) (C : Cx) (B : FuncId × CallKind) (K kt : List Item) (ct : List Frame)

/-- The view's step, whatever its tape; the true step, if its tape answers as the view's. -/
structure StepGood (p : Ren) (f : Frame) (l : List Frame) (f' : Frame) (l' : List Frame) (w w' : World) (f₁ : Frame) (l₁ : List Frame) (w₁ : World) : Prop where
  drawn : w.drawn ≤ w₁.drawn
  view : ∀ (T : Nat → Question → Nat) (d : Nat), (∀ j q, j < w₁.drawn - w.drawn → T (d + j) q = w.tape (w.drawn + j) q) →
    ∃ es, stepG P true (rec' f l) (World.tp w T d) = .go (rec' f₁ l₁) (World.tp w₁ T (d + (w₁.drawn - w.drawn))) es
  true_ : Agree w w₁ w' → ∀ main, ∃ q f₁' l₁' w₁' es, stepG P main (rec' f' l') w' = .go (rec' f₁' l₁') w₁' es ∧ RLe p q ∧ GRel P L C B K kt ct q f₁ l₁ f₁' l₁' ∧ WRel C q w₁ w₁' ∧ Kept C p q w' w₁' ∧
    w₁'.drawn = w'.drawn + (w₁.drawn - w.drawn) ∧ ∀ e ∈ es, EvOk C q e
end

theorem tp_self (w : World) : World.tp w w.tape w.drawn = w := rfl
theorem tp_tp (w : World) (T T' : Nat → Question → Nat) (d d' : Nat) : World.tp (World.tp w T d) T' d' = World.tp w T' d' := rfl

section
variable {P : Program} {L : List FuncId} {C : Cx} {B : FuncId × CallKind} {K kt : List Item} {ct : List Frame} {p : Ren} {f f' : Frame} {l l' : List Frame} {w w' : World}

/-- A move of control. -/
theorem StepGood.ctl {f₁ f₁' : Frame} {l₁ l₁' : List Frame} (hw : WRel C p w w') (hv : ∀ w, ∃ es, stepG P true (rec' f l) w = .go (rec' f₁ l₁) w es) (ht : ∀ main w, ∃ es, (∀ e ∈ es, False) ∧ stepG P main (rec' f' l') w = .go (rec' f₁' l₁') w es)
    (hg : GRel P L C B K kt ct p f₁ l₁ f₁' l₁') : StepGood P L C B K kt ct p f l f' l' w w' f₁ l₁ w := by
  refine ⟨Nat.le_refl _, fun T d _ => ?_, fun _ main => ?_⟩
  · obtain ⟨es, h⟩ := hv (World.tp w T d)
    exact ⟨es, by rw [h, Nat.sub_self, Nat.add_zero]⟩
  · obtain ⟨es, h0, h⟩ := ht main w'
    exact ⟨p, f₁', l₁', w', es, h, .refl _, hg, hw, .refl _ _, by omega, fun e he => (h0 e he).elim⟩

theorem stepG_run (main : Bool) (h : f.mode = .run) (w : World) : stepG P main (rec' f l) w = stepG.exec P main true f l none w := by
  simp [stepG, rec', h]
theorem exec_ret (main : Bool) (h : f.roundOf = none) {k : List Item} (ht : f.todo = .code .ret :: k) (w : World) : stepG.exec P main true f l none w = .go (rec' { f with mode := .returning } l) w := by
  simp [stepG.exec, ht, h, rec']
theorem exec_nil (main : Bool) (h : f.roundOf = none) (ht : f.todo = []) (w : World) : stepG.exec P main true f l none w = .go (rec' { f with mode := .returning } l) w := by
  simp [stepG.exec, ht, h, rec']

/-- The control items. -/
def ctlTo (ev : Operand → Value) : Item → List Item → Option (List Item)
  | .code .skip, k | .code (.label _), k | .inBlock _, k => some k
  | .code (.seq a b), k => some (.code a :: .code b :: k)
  | .code (.cond c a b), k => match ev c with | .bool t => some (.code (if t then a else b) :: k) | _ => none
  | .code (.block id b), k => some (.code b :: .inBlock id :: k)
  | .code (.loop b), k | .inLoop b, k => some (.code b :: .inLoop b :: k)
  | .code (.region _ ops false), k => some (.inRegion ops (List.range ops.size) :: k)
  | .inRegion _ [], k => some k
  | _, _ => none
theorem exec_ctl (main : Bool) {x : Item} {k new : List Item} (ht : f.todo = x :: k) (hc : ctlTo f.eval x k = some new) (w : World) : stepG.exec P main true f l none w = .go (rec' { f with todo := new } l) w := by
  cases x with
  | code c =>
    cases c <;> simp only [ctlTo, Option.some.injEq, reduceCtorEq] at hc
    case skip => subst hc; simp [stepG.exec, ht, rec']
    case label => subst hc; simp [stepG.exec, ht, rec']
    case seq => subst hc; simp [stepG.exec, ht, rec']
    case block => subst hc; simp [stepG.exec, ht, rec']
    case loop => subst hc; simp [stepG.exec, ht, rec']
    case cond c a b =>
      simp only [stepG.exec, ht]
      cases hv : f.eval c <;> simp only [hv, reduceCtorEq, Option.some.injEq] at hc
      subst hc
      simp [rec']
    case region id ops draw =>
      cases draw <;> simp only [ctlTo, Option.some.injEq, reduceCtorEq] at hc
      subst hc
      simp [stepG.exec, ht, rec']
  | inBlock id => simp only [ctlTo, Option.some.injEq] at hc; subst hc; simp [stepG.exec, ht, rec']
  | inLoop b => simp only [ctlTo, Option.some.injEq] at hc; subst hc; simp [stepG.exec, ht, rec']
  | inRegion ops todo =>
    cases todo <;> simp only [ctlTo, Option.some.injEq, reduceCtorEq] at hc
    subst hc; simp [stepG.exec, ht, rec']
  | _ => simp [ctlTo] at hc

/-- Both take the same control step. -/
theorem FRel.ctl {kv kt' : List Item} {x : Item} {its : List Item} (h : FRel P L C p kv kt' (x :: its) f f') (H : ListOk P C L) {new : List Item} (hc : ctlTo f.eval x its = some new) :
    ctlTo f.eval x (its ++ kv) = some (new ++ kv) ∧ ctlTo f'.eval x (its ++ kt') = some (new ++ kt') ∧ (∀ y ∈ new, itemOk P L y = true) := by
  have hx := h.its x (by simp)
  have hi : ∀ y ∈ its, itemOk P L y = true := fun y hy => h.its y (by simp [hy])
  have two : ∀ {a b : Item}, itemOk P L a = true → itemOk P L b = true → ∀ y ∈ a :: b :: its, itemOk P L y = true := by
    intro a b ha hb y hy
    simp only [List.mem_cons] at hy
    rcases hy with rfl | rfl | hy
    · exact ha
    · exact hb
    · exact hi y hy
  cases x with
  | code c =>
    cases c <;> simp only [ctlTo, Option.some.injEq, reduceCtorEq] at hc <;> simp only [itemOk, codeOk, Bool.and_eq_true, Bool.false_eq_true] at hx
    case skip => subst hc; exact ⟨rfl, rfl, hi⟩
    case label => subst hc; exact ⟨rfl, rfl, hi⟩
    case seq => subst hc; exact ⟨rfl, rfl, two hx.1 hx.2⟩
    case block => subst hc; exact ⟨rfl, rfl, two hx rfl⟩
    case loop => subst hc; exact ⟨rfl, rfl, two hx hx⟩
    case cond c a b =>
      have hev := h.eval (fun g hg => (H.F g).2 hg) hx.1.1
      cases hv : f.eval c with
      | bool t =>
        rw [hv] at hev hc
        simp only [Option.some.injEq] at hc
        subst hc
        have : f'.eval c = .bool t := by
          generalize f'.eval c = y at hev
          cases hev; rfl
        refine ⟨by simp [ctlTo, hv], by simp [ctlTo, this], fun y hy => ?_⟩
        rcases List.mem_cons.1 hy with rfl | hy
        · cases t
          · exact hx.2
          · exact hx.1.2
        · exact hi y hy
      | _ => rw [hv] at hc; cases hc
    case region id ops draw =>
      cases draw <;> simp only [ctlTo, Option.some.injEq, reduceCtorEq] at hc
      subst hc
      refine ⟨rfl, rfl, fun y hy => ?_⟩
      rcases List.mem_cons.1 hy with rfl | hy
      · exact hx
      · exact hi y hy
  | inBlock id => simp only [ctlTo, Option.some.injEq] at hc; subst hc; exact ⟨rfl, rfl, hi⟩
  | inLoop b => simp only [ctlTo, Option.some.injEq] at hc; subst hc; exact ⟨rfl, rfl, two hx hx⟩
  | inRegion ops todo =>
    cases todo <;> simp only [ctlTo, Option.some.injEq, reduceCtorEq] at hc
    subst hc; exact ⟨rfl, rfl, hi⟩
  | _ => simp [ctlTo] at hc
end
end Go.Proofs.Ytfecdmenliohhaa

set_option linter.unusedSimpArgs false
set_option linter.unusedVariables false
namespace Go.Proofs.Ytfecdmenliohhaa
open Go

section
variable {P : Program} {L : List FuncId} {C : Cx} {B : FuncId × CallKind} {K kt : List Item} {ct : List Frame} {p : Ren} {f f' : Frame} {l l' : List Frame} {w w₁ w' : World}

/-! ### an operation's outcome -/
section
variable {main : Bool} {ops : Array Oper} {i : Nat} {rest : List Nat} {k : List Item} {s : Sem Next} {es : Array Event}
theorem apply_value {v : Value} (h0 : s.runT P w #[] = (.ok (.value v) w₁, es)) (hk : f.kind ≠ .early) : stepG.apply P true f l none s w = .go (rec' (f.finish v) l) w₁ (seen P f.fn es) := by
  rw [Sem.runT_eq, Prod.mk.injEq] at h0
  obtain ⟨h, he⟩ := h0
  have hk' : (f.kind == CallKind.early) = false := by simpa using hk
  simp [stepG.apply, h, he, rec', hk', GStep.after]
theorem apply_skip (h0 : s.runT P w #[] = (.ok .skip w₁, es)) (hk : f.kind ≠ .early) : stepG.apply P true f l none s w = .go (rec' (f.finish undef) l) w₁ (seen P f.fn es) := by
  rw [Sem.runT_eq, Prod.mk.injEq] at h0
  obtain ⟨h, he⟩ := h0
  have hk' : (f.kind == CallKind.early) = false := by simpa using hk
  simp [stepG.apply, h, he, rec', hk', GStep.after]
theorem apply_enter {g : FuncId} {x : Array Value} (ht : f.todo = .inRegion ops (i :: rest) :: k) (h0 : s.runT P w #[] = (.ok (.enter g x) w₁, es)) (hk : f.kind ≠ .early) :
    stepG.apply P true f l none s w = .go (rec' (Frame.enter P g x .normal) (f :: l)) w₁ (seen P f.fn es) := by
  rw [Sem.runT_eq, Prod.mk.injEq] at h0
  obtain ⟨h, he⟩ := h0
  have hk' : (f.kind == CallKind.early) = false := by simpa using hk
  simp [stepG.apply, h, he, rec', hk', GStep.after, ht]
theorem apply_bad {x : Halt} (h : s.run P w = .halt x w₁) (hx : haltOk x = true) (hd : f.defers = []) (hm : f.mode = .run) (hf : ∃ fn, P.funcs[f.fn]? = some fn) : Astray P l (stepG.apply P true f l none s w) := by
  unfold stepG.apply
  simp only [Sem.runT_eq, h, if_true]
  cases x with
  | stuck m => trivial
  | panic v => exact ⟨f, [{ v, recovered := false }], by simp [Frame.raise, hm, rec'], hd, hf⟩
  | unsupported u => cases u <;> first | trivial | (cases hx; done)
  | _ => cases hx
end

theorem seen_sub (fn : FuncId) (es : Array Event) : ∀ e ∈ seen P fn es, e ∈ es := by
  intro e he
  unfold seen at he
  simp only at he
  rw [← Array.foldl_toList] at he
  have key : ∀ (l : List Event) (x : Bool × Array Event), (∀ e ∈ x.2, e ∈ es) → (∀ e ∈ l, e ∈ es) → ∀ e ∈ (l.foldl (fun (x : Bool × Array Event) e => match x with | (q, kept) => match e.loc with | .mark (.extern f) => ((P.funcs[f]?).any (·.norace), kept) | _ => (q, if q && !e.sync then kept else kept.push e)) x).2, e ∈ es := by
    intro l
    induction l with
    | nil => exact fun x h _ => h
    | cons y l ih =>
      intro x h hl
      rw [List.foldl_cons]
      refine ih _ ?_ (fun e he => hl e (by simp [he]))
      obtain ⟨q, kept⟩ := x
      simp only
      split
      · exact h
      · split
        · exact h
        · intro e he
          rcases Array.mem_push.1 he with he | rfl
          · exact h e he
          · exact hl _ (by simp)
  exact key es.toList _ (by simp) (fun e he => by simpa using he) e he

/-- A true world that answers as the view does. -/
theorem agree_like (w w₁ w' : World) : ∃ T, Agree w w₁ (World.tp w' T w'.drawn) :=
  ⟨fun j q => w.tape (w.drawn + (j - w'.drawn)) q, fun j q _ => by simp [World.tp]⟩

/-- An operation. -/
theorem stepGood_op (H : ListOk P C L) (hw : WRel C p w w') {kv kt' : List Item} {ops : Array Oper} {i : Nat} {rest : List Nat} {its : List Item} {o : Oper} (hf : FRel P L C p kv kt' (.inRegion ops (i :: rest) :: its) f f') (hm : f.mode = .run)
    (ho : ops[i]? = some o)
    (hv : ∀ w, stepG P true (rec' f l) w = stepG.apply P true f l none (execOp f.eval o) w) (ht : ∀ main w, stepG P main (rec' f' l') w = stepG.apply P true f' l' none (execOp f'.eval o) w)
    (mk : ∀ q f₁ f₁' items, RLe p q → FRel P L C q kv kt' items f₁ f₁' → f₁'.fn = f'.fn → f₁'.kind = f'.kind → GRel P L C B K kt ct q f₁ l f₁' l')
    (mkC : ∀ q, RLe p q → CRel P L C B K kt ct q (f :: l) (f' :: l')) :
    Astray P l (stepG P true (rec' f l) w) ∨ ∃ f₁ l₁ w₁, StepGood P L C B K kt ct p f l f' l' w w' f₁ l₁ w₁ := by
  have hok : opOk P L o.op = true := by
    have := hf.its (.inRegion ops (i :: rest)) (by simp)
    exact Array.all_eq_true_iff_forall_mem.1 this o (Array.mem_of_getElem? ho)
  have hL : ∀ g, L.contains g = true → C.F g := fun g hg => (H.F g).2 hg
  have hS : SRel P C (NRel C) p (execOp f.eval o) (execOp f'.eval o) := SRel.exec H.fns (fun {x} hx => hf.eval hL hx) hL hok
  obtain ⟨fn, hfn, hres⟩ := hf.ok
  have hfk : f.kind ≠ .early := by rw [hf.kV]; simp
  cases hr : (execOp f.eval o).run P w with
  | halt x w₁ => exact .inl (by rw [hv]; exact apply_bad hr (hS.halts w w' x w₁ hw hr) hf.dv hm ⟨fn, hfn⟩)
  | ok n w₁ =>
    right
    obtain ⟨T, hT⟩ := agree_like w w₁ w'
    have hw0 : WRel C p w (World.tp w' T w'.drawn) := hw.draws w.drawn w'.drawn w.tape T
    obtain ⟨⟨hd, _⟩, hs0⟩ := hS.sound w _ n w₁ hw0 hr
    obtain ⟨q0, b0, w0, f0⟩ := hs0 hT
    have htape := (hS.tape w w' n w₁ hw hr).2
    have ev : ∀ (T : Nat → Question → Nat) (d : Nat), (∀ j q, j < w₁.drawn - w.drawn → T (d + j) q = w.tape (w.drawn + j) q) → (execOp f.eval o).runT P (World.tp w T d) #[] = (.ok n (World.tp w₁ T (d + (w₁.drawn - w.drawn))), (execOp f.eval o).events P (World.tp w T d) #[]) := fun T d h => by
      rw [Sem.runT_eq, htape T d h]
    cases f0.val with
    | @value v v' hvv =>
      refine ⟨f.finish v, l, w₁, hd, fun T d h => ⟨_, by rw [hv]; exact apply_value (ev T d h) hfk⟩, fun hA main => ?_⟩
      obtain ⟨_, hs⟩ := hS.sound w w' _ w₁ hw hr
      obtain ⟨q, b, w₁', fo⟩ := hs hA
      obtain ⟨es, e1, e2⟩ := fo.run #[]
      generalize hb : b = b' at fo e1
      have hvl := fo.val
      cases hvl with
      | value hvv' =>
        refine ⟨q, _, l', w₁', _, by rw [ht]; exact apply_value e1 hf.kT, fo.le, mk q _ _ _ fo.le ((hf.mono fo.le).finish hvv') (by unfold Frame.finish; rw [hf.tt]; rfl) ?_, fo.rel, fo.kept, fo.drawn, fun e he => e2 e (by simpa using seen_sub _ _ e he)⟩
        unfold Frame.finish; rw [hf.tt]; rfl
    | skip =>
      refine ⟨f.finish undef, l, w₁, hd, fun T d h => ⟨_, by rw [hv]; exact apply_skip (ev T d h) hfk⟩, fun hA main => ?_⟩
      obtain ⟨_, hs⟩ := hS.sound w w' _ w₁ hw hr
      obtain ⟨q, b, w₁', fo⟩ := hs hA
      obtain ⟨es, e1, e2⟩ := fo.run #[]
      generalize hb : b = b' at fo e1
      have hvl := fo.val
      cases hvl with
      | skip =>
        refine ⟨q, _, l', w₁', _, by rw [ht]; exact apply_skip e1 hf.kT, fo.le, mk q _ _ _ fo.le ((hf.mono fo.le).finish undef_rel) (by unfold Frame.finish; rw [hf.tt]; rfl) ?_, fo.rel, fo.kept, fo.drawn, fun e he => e2 e (by simpa using seen_sub _ _ e he)⟩
        unfold Frame.finish; rw [hf.tt]; rfl
    | @enter g x x' hg hx =>
      obtain ⟨gn, gc, hgn, hgb, hgc, hgr, _⟩ := H.fn hg
      refine ⟨Frame.enter P g x .normal, f :: l, w₁, hd, fun T d h => ⟨_, by rw [hv]; exact apply_enter (k := its ++ kv) (by rw [hf.tv]; rfl) (ev T d h) hfk⟩, fun hA main => ?_⟩
      obtain ⟨_, hs⟩ := hS.sound w w' _ w₁ hw hr
      obtain ⟨q, b, w₁', fo⟩ := hs hA
      obtain ⟨es, e1, e2⟩ := fo.run #[]
      generalize hb : b = b' at fo e1
      have hvl := fo.val
      cases hvl with
      | @enter _ _ y hg' hx' =>
        refine ⟨q, _, f' :: l', w₁', _, by rw [ht]; exact apply_enter (k := its ++ kt') (by rw [hf.tt]; rfl) e1 hf.kT, fo.le, .up (items := [.code gc]) ?_ rfl (mkC q fo.le), fo.rel, fo.kept, fo.drawn, fun e he => e2 e (by simpa using seen_sub _ _ e he)⟩
        refine ⟨rfl, ⟨gn, hgn, hgr⟩, ?_, ?_, ?_, ?_, rfl, rfl, rfl, .inl rfl, rfl, by simp [Frame.enter], rfl, rfl⟩
        · unfold Frame.enter
          simp only [← hx'.size]
          exact hx'.append (.replicate undef_rel _)
        · simp [Frame.enter, hgn, hgb]
        · simp [Frame.enter, hgn, hgb]
        · intro z hz
          simp only [List.mem_cons, List.not_mem_nil, or_false] at hz
          subst hz; exact hgc
end
end Go.Proofs.Ytfecdmenliohhaa

set_option linter.unusedSimpArgs false
set_option linter.unusedVariables false
namespace Go.Proofs.Ytfecdmenliohhaa
open Go

/-- The view's text has been left: normally, or by a return. -/
def StopV (P : Program) (f : Frame) (l : List Frame) : Prop := l = [sent P] ∧ (f.mode = .returning ∨ (f.mode = .run ∧ f.todo = kv0))

section
variable {P : Program} {L : List FuncId} {C : Cx} {B : FuncId × CallKind} {K kt : List Item} {ct : List Frame} {p : Ren} {f f' : Frame} {l l' : List Frame} {w w₁ w' : World}

theorem exec_oper {main : Bool} {ops : Array Oper} {i : Nat} {rest : List Nat} {k : List Item} {o : Oper} (ht : f.todo = .inRegion ops (i :: rest) :: k) (hr : f.roundOf = none) (ho : ops[i]? = some o) (hw : Region.wanted o (yielded ops f.tmps) = true) :
    stepG.exec P main true f l none w = stepG.apply P true f l none (execOp f.eval o) w := by
  simp [stepG.exec, ht, ho, hw, stepG.oper, Frame.oper?, hr]
theorem exec_skip {main : Bool} {ops : Array Oper} {i : Nat} {rest : List Nat} {k : List Item} (ht : f.todo = .inRegion ops (i :: rest) :: k) (hw : ((ops[i]?).map (Region.wanted · (yielded ops f.tmps))).getD false = false) :
    stepG.exec P main true f l none w = .go (rec' (f.finish undef) l) w := by
  simp only [stepG.exec, ht, hw, Bool.false_eq_true, if_false]; rfl
theorem exec_draw {main : Bool} {id : Nat} {ops : Array Oper} {k : List Item} (ht : f.todo = .code (.region id ops true) :: k) :
    stepG.exec P main true f l none w = .go (rec' { f with todo := .inRegion ops (Region.schedule (P.follows .mixedOrders) ops (w.tape w.drawn (.order f.fn id))) :: k } l) { w with drawn := w.drawn + 1 } := by
  simp [stepG.exec, ht, choose, Sem.run, Question.forced, Question.cut, rec']
theorem exec_exit {main : Bool} {id : Nat} {k k' : List Item} (ht : f.todo = .code (.exit id) :: k) (he : exitTo id k = some k') : stepG.exec P main true f l none w = .go (rec' { f with todo := k' } l) w := by
  simp [stepG.exec, ht, he, rec']
theorem exec_lost {main : Bool} {id : Nat} {k : List Item} (ht : f.todo = .code (.exit id) :: k) (hr : f.roundOf = none) (he : exitTo id k = none) : ∃ o w' es, stepG.exec P main true f l none w = .ended o w' es := by
  simp [stepG.exec, ht, he, hr]
theorem exec_badCond {main : Bool} {c : Operand} {a b : Code} {k : List Item} (ht : f.todo = .code (.cond c a b) :: k) (he : ∀ t, f.eval c ≠ .bool t) : ∃ o w' es, stepG.exec P main true f l none w = .ended o w' es := by
  simp only [stepG.exec, ht]
  cases hv : f.eval c <;> first | exact ⟨_, _, _, rfl⟩ | exact absurd hv (he _)

theorem stepG_ret {fn : Func} {v : Value} {c : Frame} (main : Bool) (hm : f.mode = .returning) (hd : f.defers = []) (hk : f.kind = .normal) (hf : P.funcs[f.fn]? = some fn) (hr : (results fn f.tmps).runT P w #[] = (.ok v w, #[])) :
    stepG P main (rec' f (c :: l)) w = .go (rec' (c.finish v) l) w := by
  rw [Sem.runT_eq, Prod.mk.injEq] at hr
  obtain ⟨h1, h2⟩ := hr
  simp [stepG, rec', unwind, doReturn, hm, hd, hk, hf, h1, h2, seen, GStep.after]

/-- The return to a waiting frame. -/
theorem step_ret (H : ListOk P C L) (hw : WRel C p w w') {l l' : List Frame} {f f' : Frame} {items : List Item} (hf : FRel P L C p [] [] items f f') (hk : f'.kind = .normal) (hc : CRel P L C B K kt ct p l l') (hr : f.mode = .returning) :
    ∃ f₁ l₁ w₁, StepGood P L C B K kt ct p f l f' l' w w' f₁ l₁ w₁ := by
  obtain ⟨fn, hfn, hres⟩ := hf.ok
  obtain ⟨v, v', h1, h2, hv⟩ := results_rel (P := P) hres hf.tmps
  have hr' : f'.mode = .returning := by rw [hf.mode]; exact hr
  have hfn' : P.funcs[f'.fn]? = some fn := by rw [hf.fn]; exact hfn
  cases hc with
  | @base g g' ops i rest its hb hm hfB hkB =>
    exact ⟨g.finish v, [sent P], w, .ctl hw (fun w => ⟨#[], stepG_ret true hr hf.dv hf.kV hfn (h1 w #[])⟩) (fun main w => ⟨#[], by simp, stepG_ret main hr' hf.dt hk hfn' (h2 w #[])⟩) (.base (hb.finish hv) (by unfold Frame.finish; rw [hb.tt]; exact hfB) (by unfold Frame.finish; rw [hb.tt]; exact hkB))⟩
  | @up g g' ops i rest its m m' hb hm hk' hc' =>
    exact ⟨g.finish v, m, w, .ctl hw (fun w => ⟨#[], stepG_ret true hr hf.dv hf.kV hfn (h1 w #[])⟩) (fun main w => ⟨#[], by simp, stepG_ret main hr' hf.dt hk hfn' (h2 w #[])⟩) (.up (hb.finish hv) (by unfold Frame.finish; rw [hb.tt]; exact hk') hc')⟩

/-- ████ One step. ████ -/
theorem GRel.step (H : ListOk P C L) (hK : K = kv0 ∨ (K = [] ∧ kt = [])) (hg : GRel P L C B K kt ct p f l f' l') (hw : WRel C p w w') (hns : ¬ StopV P f l) :
    Astray P l (stepG P true (rec' f l) w) ∨ ∃ f₁ l₁ w₁, StepGood P L C B K kt ct p f l f' l' w w' f₁ l₁ w₁ := by
  -- the two kinds of frames at once
  have key : ∀ {kv kt' : List Item} {items : List Item} (hf : FRel P L C p kv kt' items f f')
      (mk : ∀ q f₁ f₁' items, RLe p q → FRel P L C q kv kt' items f₁ f₁' → f₁'.fn = f'.fn → f₁'.kind = f'.kind → GRel P L C B K kt ct q f₁ l f₁' l')
      (mkC : ∀ q, RLe p q → ∀ ops i rest its, items = .inRegion ops (i :: rest) :: its → f.mode = .run → CRel P L C B K kt ct q (f :: l) (f' :: l')) (hr : f.mode = .run) (hx : ∀ id, exitTo id kv = none) (h0 : items = [] → kv = [] ∧ kt' = []),
      Astray P l (stepG P true (rec' f l) w) ∨ ∃ f₁ l₁ w₁, StepGood P L C B K kt ct p f l f' l' w w' f₁ l₁ w₁ := by
    intro kv kt' items hf mk mkC hr hx h0
    have hr' : f'.mode = .run := by rw [hf.mode]; exact hr
    have ctl : ∀ {new new' : List Item} {f₁ f₁' : Frame}, (∀ w, stepG.exec P true true f l none w = .go (rec' f₁ l) w) → (∀ main w, stepG.exec P main true f' l' none w = .go (rec' f₁' l') w) → GRel P L C B K kt ct p f₁ l f₁' l' →
        Astray P l (stepG P true (rec' f l) w) ∨ ∃ f₁ l₁ w₁, StepGood P L C B K kt ct p f l f' l' w w' f₁ l₁ w₁ := by
      intro new new' f₁ f₁' h1 h2 h3
      exact .inr ⟨f₁, l, w, .ctl hw (fun w => ⟨_, (stepG_run true hr w).trans (h1 w)⟩) (fun main w => ⟨#[], by simp, (stepG_run main hr' w).trans (h2 main w)⟩) h3⟩
    have astray : (∃ o w' es, stepG.exec P true true f l none w = .ended o w' es) → Astray P l (stepG P true (rec' f l) w) ∨ ∃ f₁ l₁ w₁, StepGood P L C B K kt ct p f l f' l' w w' f₁ l₁ w₁ := by
      rintro ⟨o, w', es, e⟩
      exact .inl (by rw [stepG_run true hr w, e]; trivial)
    cases items with
    | nil =>
      obtain ⟨rfl, rfl⟩ := h0 rfl
      exact ctl (new := []) (new' := []) (fun w => exec_nil true hf.rv (by simpa using hf.tv) w) (fun main w => exec_nil main hf.rt (by simpa using hf.tt) w) (mk p _ _ _ (.refl _) hf.ret rfl rfl)
    | cons x its =>
      have hits : ∀ y ∈ its, itemOk P L y = true := fun y hy => hf.its y (by simp [hy])
      cases hc : ctlTo f.eval x its with
      | some new =>
        obtain ⟨h1, h2, h3⟩ := hf.ctl H hc
        exact ctl (new := []) (new' := []) (fun w => exec_ctl true (by simpa using hf.tv) h1 w) (fun main w => exec_ctl main (by simpa using hf.tt) h2 w) (mk p _ _ new (.refl _) (hf.to h3) rfl rfl)
      | none =>
        have hx0 := hf.its x (by simp)
        cases x with
        | code c =>
          cases c <;> simp only [ctlTo, reduceCtorEq] at hc <;> simp only [itemOk, codeOk, Bool.false_eq_true] at hx0
          case ret => exact ctl (new := []) (new' := []) (fun w => exec_ret true hf.rv hf.tv w) (fun main w => exec_ret main hf.rt hf.tt w) (mk p _ _ _ (.refl _) hf.ret rfl rfl)
          case exit id =>
            cases he : exitTo id its with
            | some z =>
              have ev : exitTo id (its ++ kv) = some (z ++ kv) := by rw [exitTo_append, he]
              have et : exitTo id (its ++ kt') = some (z ++ kt') := by rw [exitTo_append, he]
              exact ctl (new := []) (new' := []) (fun w => exec_exit hf.tv ev) (fun main w => exec_exit hf.tt et) (mk p _ _ z (.refl _) (hf.to fun y hy => hits y (exitTo_sub he y hy)) rfl rfl)
            | none => exact astray (exec_lost (k := its ++ kv) hf.tv hf.rv (by rw [exitTo_append, he]; exact hx id))
          case cond c a b =>
            refine astray (exec_badCond hf.tv fun t ht => ?_)
            rw [ht] at hc; cases hc
          case region id ops draw =>
            cases draw with
            | false => simp [ctlTo] at hc
            | true =>
              right
              have hreg : ∀ T : Nat, ∀ y ∈ Item.inRegion ops (Region.schedule (P.follows .mixedOrders) ops T) :: its, itemOk P L y = true := by
                intro T y hy
                rcases List.mem_cons.1 hy with rfl | hy
                · exact hx0
                · exact hits y hy
              refine ⟨{ f with todo := .inRegion ops (Region.schedule (P.follows .mixedOrders) ops (w.tape w.drawn (.order f.fn id))) :: (its ++ kv) }, l, { w with drawn := w.drawn + 1 }, Nat.le_succ _, fun T d hT => ?_, fun hA main => ?_⟩
              · have e0 : T d (.order f.fn id) = w.tape w.drawn (.order f.fn id) := by simpa using hT 0 (.order f.fn id) (by simp)
                refine ⟨#[], ?_⟩
                rw [stepG_run true hr, exec_draw hf.tv]
                simp only [World.tp, e0, Nat.add_sub_cancel_left]
                rfl
              · have e0 : w'.tape w'.drawn (.order f.fn id) = w.tape w.drawn (.order f.fn id) := by simpa using hA 0 (.order f.fn id) (by simp)
                refine ⟨p, { f' with todo := .inRegion ops (Region.schedule (P.follows .mixedOrders) ops (w.tape w.drawn (.order f.fn id))) :: (its ++ kt') }, l', { w' with drawn := w'.drawn + 1 }, #[], ?_, .refl _, mk p _ _ _ (.refl _) (hf.to (hreg (w.tape w.drawn (.order f.fn id)))) rfl rfl, hw.draws _ _ w.tape w'.tape, ?_, by simp, by simp⟩
                · rw [stepG_run main hr', exec_draw hf.tt, hf.fn, e0]; rfl
                · exact ⟨rfl, rfl, rfl, Nat.le_refl _, fun _ _ _ => rfl, fun _ _ h => .inl h, fun c h1 h2 => by exact absurd h2 (by show ¬ c < w'.heap.size; omega), fun _ _ _ => rfl⟩
        | inBlock id => simp [ctlTo] at hc
        | inLoop b => simp [ctlTo] at hc
        | inRegion ops todo =>
          cases todo with
          | nil => simp [ctlTo] at hc
          | cons i rest =>
            have hy := yielded_same hf.tmps ops
            cases hwt : ((ops[i]?).map (Region.wanted · (yielded ops f.tmps))).getD false with
            | false =>
              exact ctl (new := []) (new' := []) (fun w => exec_skip hf.tv hwt) (fun main w => exec_skip hf.tt (by rw [← hy]; exact hwt)) (mk p _ _ _ (.refl _) (hf.finish undef_rel) (by unfold Frame.finish; rw [hf.tt]; rfl) (by unfold Frame.finish; rw [hf.tt]; rfl))
            | true =>
              cases ho : ops[i]? with
              | none => simp [ho] at hwt
              | some o =>
                simp only [ho, Option.map_some, Option.getD_some] at hwt
                exact stepGood_op H hw hf hr ho (fun w => (stepG_run true hr w).trans (exec_oper hf.tv hf.rv ho hwt)) (fun main w => (stepG_run main hr' w).trans (exec_oper hf.tt hf.rt ho (by rw [← hy]; exact hwt)))
                  mk (fun q hq => mkC q hq ops i rest its rfl hr)
        | _ => simp [itemOk] at hx0
  cases hg with
  | base hf hfB hkB =>
    rcases hf.live with hr | hr
    · refine key hf (fun q f₁ f₁' items _ h e e' => .base h (e.trans hfB) (e'.trans hkB)) (fun q hq ops i rest its e hm => .base (by rw [← e]; exact hf.mono hq) hm hfB hkB) hr (fun id => by rcases hK with rfl | ⟨rfl, _⟩ <;> rfl) (fun e => ?_)
      rcases hK with rfl | hK
      · exact absurd ⟨rfl, .inr ⟨hr, by rw [hf.tv, e]; rfl⟩⟩ hns
      · exact hK
    · exact absurd ⟨rfl, .inl hr⟩ hns
  | up hf hk hc =>
    rcases hf.live with hr | hr
    · exact key hf (fun q f₁ f₁' items hq h _ e => .up h (e.trans hk) (hc.mono hq)) (fun q hq ops i rest its e hm => .up (by rw [← e]; exact hf.mono hq) hm hk (hc.mono hq)) hr (fun id => rfl) (fun _ => ⟨rfl, rfl⟩)
    · exact .inr (step_ret H hw hf hk hc hr)
end
end Go.Proofs.Ytfecdmenliohhaa
