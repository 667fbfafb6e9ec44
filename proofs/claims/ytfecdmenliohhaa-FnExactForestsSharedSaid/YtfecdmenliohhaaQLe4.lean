/- The step of the view and the true step beside it: all cases together; and that the view, once it has gone astray, never comes back. Plain. The step of the view and the true step beside it, whatever is next; the view, once it has gone astray, never comes back. Plain. The view's lone run: it goes the way of the steps, whatever its tape; once astray, or come back to the sentinel, it is never seen again at its text. Plain. ████ A lone contract of the view, for every tape, carries over to the true goroutine, in whatever company that leaves its blocks. ████ Plain. -/
import Derived.Test.YtfecdmenliohhaaQLe3
import Derived.Conc.Listed
set_option linter.unusedVariables false
set_option linter.unusedSimpArgs false
set_option linter.unusedSimpArgs false
set_option linter.unusedVariables false
namespace Go.Proofs.Ytfecdmenliohhaa
open Go

section
variable {P : Program} {L : List FuncId} {C : Cx} {B : FuncId × CallKind} {K kt : List Item} {ct : List Frame} {p : Ren} {f f' : Frame} {l l' : List Frame} {w w₁ w' : World}

/-! ### an operation's outcome -/
section
variable {main : Bool} {ops : Array Oper} {i : Nat} {rest : List Nat} {k : List Item} {s : Sem Next} {es : Array Event}
theorem apply_value {v : Value} (h0 : s.runT P w #[] = (.ok (.value v) w₁, es)) (hk : f.kind ≠ .early) : stepG.apply P true f l none s w = .go (rec' (f.finish v) l) w₁ (seen P f.fn es) := by
  rw [Sem.runT_eq, Prod.mk.injEq] at h0
  obtain ⟨h, he⟩ := h0
  have hk' : (f.kind == CallKind.early) = false := by simpa using hk
  simp [stepG.apply, h, he, rec', hk', GStep.after]
theorem apply_skip (h0 : s.runT P w #[] = (.ok .skip w₁, es)) (hk : f.kind ≠ .early) : stepG.apply P true f l none s w = .go (rec' (f.finish undef) l) w₁ (seen P f.fn es) := by
  rw [Sem.runT_eq, Prod.mk.injEq] at h0
  obtain ⟨h, he⟩ := h0
  have hk' : (f.kind == CallKind.early) = false := by simpa using hk
  simp [stepG.apply, h, he, rec', hk', GStep.after]
theorem apply_enter {g : FuncId} {x : Array Value} (ht : f.todo = .inRegion ops (i :: rest) :: k) (h0 : s.runT P w #[] = (.ok (.enter g x) w₁, es)) (hk : f.kind ≠ .early) :
    stepG.apply P true f l none s w = .go (rec' (Frame.enter P g x .normal) (f :: l)) w₁ (seen P f.fn es) := by
  rw [Sem.runT_eq, Prod.mk.injEq] at h0
  obtain ⟨h, he⟩ := h0
  have hk' : (f.kind == CallKind.early) = false := by simpa using hk
  simp [stepG.apply, h, he, rec', hk', GStep.after, ht]
theorem apply_bad {x : Halt} (h : s.run P w = .halt x w₁) (hx : haltOk x = true) (hd : f.defers = []) (hm : f.mode = .run) (hf : ∃ fn, P.funcs[f.fn]? = some fn) : Astray P l (stepG.apply P true f l none s w) := by
  unfold stepG.apply
  simp only [Sem.runT_eq, h, if_true]
  cases x with
  | stuck m => trivial
  | panic v => exact ⟨f, [{ v, recovered := false }], by simp [Frame.raise, hm, rec'], hd, hf⟩
  | unsupported u => cases u <;> first | trivial | (cases hx; done)
  | _ => cases hx
end

theorem seen_sub (fn : FuncId) (es : Array Event) : ∀ e ∈ seen P fn es, e ∈ es := fun e he => Conc.mem_seen he

/-- A true world that answers as the view does. -/
theorem agree_like (w w₁ w' : World) : ∃ T, Agree w w₁ (World.tp w' T w'.drawn) :=
  ⟨fun j q => w.tape (w.drawn + (j - w'.drawn)) q, fun j q _ => by simp [World.tp]⟩

/-- An operation. -/
theorem stepGood_op (H : ListOk P C L) (hw : WRel C p w w') {kv kt' : List Item} {ops : Array Oper} {i : Nat} {rest : List Nat} {its : List Item} {o : Oper} (hf : FRel P L C p kv kt' (.inRegion ops (i :: rest) :: its) f f') (hm : f.mode = .run)
    (ho : ops[i]? = some o)
    (hv : ∀ w, stepG P true (rec' f l) w = stepG.apply P true f l none (execOp f.eval o) w) (ht : ∀ main w, stepG P main (rec' f' l') w = stepG.apply P true f' l' none (execOp f'.eval o) w)
    (mk : ∀ q f₁ f₁' items, RLe p q → FRel P L C q kv kt' items f₁ f₁' → f₁'.fn = f'.fn → f₁'.kind = f'.kind → GRel P L C B K kt ct q f₁ l f₁' l')
    (mkC : ∀ q, RLe p q → CRel P L C B K kt ct q (f :: l) (f' :: l')) :
    Astray P l (stepG P true (rec' f l) w) ∨ ∃ f₁ l₁ w₁, StepGood P L C B K kt ct p f l f' l' w w' f₁ l₁ w₁ := by
  have hok : opOk P L o.op = true := by
    have := hf.its (.inRegion ops (i :: rest)) (by simp)
    exact Array.all_eq_true_iff_forall_mem.1 this o (Array.mem_of_getElem? ho)
  have hL : ∀ g, L.contains g = true → C.F g := fun g hg => (H.F g).2 hg
  have hS : SRel P C (NRel C) p (execOp f.eval o) (execOp f'.eval o) := SRel.exec H.fns (fun {x} hx => hf.eval hL hx) hL hok
  obtain ⟨fn, hfn, hres⟩ := hf.ok
  have hfk : f.kind ≠ .early := by rw [hf.kV]; simp
  cases hr : (execOp f.eval o).run P w with
  | halt x w₁ => exact .inl (by rw [hv]; exact apply_bad hr (hS.halts w w' x w₁ hw hr) hf.dv hm ⟨fn, hfn⟩)
  | ok n w₁ =>
    right
    obtain ⟨T, hT⟩ := agree_like w w₁ w'
    have hw0 : WRel C p w (World.tp w' T w'.drawn) := hw.draws w.drawn w'.drawn w.tape T
    obtain ⟨⟨hd, _⟩, hs0⟩ := hS.sound w _ n w₁ hw0 hr
    obtain ⟨q0, b0, w0, f0⟩ := hs0 hT
    have htape := (hS.tape w w' n w₁ hw hr).2
    have ev : ∀ (T : Nat → Question → Nat) (d : Nat), (∀ j q, j < w₁.drawn - w.drawn → T (d + j) q = w.tape (w.drawn + j) q) → (execOp f.eval o).runT P (World.tp w T d) #[] = (.ok n (World.tp w₁ T (d + (w₁.drawn - w.drawn))), (execOp f.eval o).events P (World.tp w T d) #[]) := fun T d h => by
      rw [Sem.runT_eq, htape T d h]
    cases f0.val with
    | @value v v' hvv =>
      refine ⟨f.finish v, l, w₁, hd, fun T d h => ⟨_, by rw [hv]; exact apply_value (ev T d h) hfk⟩, fun hA main => ?_⟩
      obtain ⟨_, hs⟩ := hS.sound w w' _ w₁ hw hr
      obtain ⟨q, b, w₁', fo⟩ := hs hA
      obtain ⟨es, e1, e2⟩ := fo.run #[]
      generalize hb : b = b' at fo e1
      have hvl := fo.val
      cases hvl with
      | value hvv' =>
        refine ⟨q, _, l', w₁', _, by rw [ht]; exact apply_value e1 hf.kT, fo.le, mk q _ _ _ fo.le ((hf.mono fo.le).finish hvv') (by unfold Frame.finish; rw [hf.tt]; rfl) ?_, fo.rel, fo.kept, fo.drawn, fun e he => e2 e (by simpa using seen_sub _ _ e he)⟩
        unfold Frame.finish; rw [hf.tt]; rfl
    | skip =>
      refine ⟨f.finish undef, l, w₁, hd, fun T d h => ⟨_, by rw [hv]; exact apply_skip (ev T d h) hfk⟩, fun hA main => ?_⟩
      obtain ⟨_, hs⟩ := hS.sound w w' _ w₁ hw hr
      obtain ⟨q, b, w₁', fo⟩ := hs hA
      obtain ⟨es, e1, e2⟩ := fo.run #[]
      generalize hb : b = b' at fo e1
      have hvl := fo.val
      cases hvl with
      | skip =>
        refine ⟨q, _, l', w₁', _, by rw [ht]; exact apply_skip e1 hf.kT, fo.le, mk q _ _ _ fo.le ((hf.mono fo.le).finish undef_rel) (by unfold Frame.finish; rw [hf.tt]; rfl) ?_, fo.rel, fo.kept, fo.drawn, fun e he => e2 e (by simpa using seen_sub _ _ e he)⟩
        unfold Frame.finish; rw [hf.tt]; rfl
    | @enter g x x' hg hx =>
      obtain ⟨gn, gc, hgn, hgb, hgc, hgr, _⟩ := H.fn hg
      refine ⟨Frame.enter P g x .normal, f :: l, w₁, hd, fun T d h => ⟨_, by rw [hv]; exact apply_enter (k := its ++ kv) (by rw [hf.tv]; rfl) (ev T d h) hfk⟩, fun hA main => ?_⟩
      obtain ⟨_, hs⟩ := hS.sound w w' _ w₁ hw hr
      obtain ⟨q, b, w₁', fo⟩ := hs hA
      obtain ⟨es, e1, e2⟩ := fo.run #[]
      generalize hb : b = b' at fo e1
      have hvl := fo.val
      cases hvl with
      | @enter _ _ y hg' hx' =>
        refine ⟨q, _, f' :: l', w₁', _, by rw [ht]; exact apply_enter (k := its ++ kt') (by rw [hf.tt]; rfl) e1 hf.kT, fo.le, .up (items := [.code gc]) ?_ rfl (mkC q fo.le), fo.rel, fo.kept, fo.drawn, fun e he => e2 e (by simpa using seen_sub _ _ e he)⟩
        refine ⟨rfl, ⟨gn, hgn, hgr⟩, ?_, ?_, ?_, ?_, rfl, rfl, rfl, .inl rfl, rfl, by simp [Frame.enter], rfl, rfl⟩
        · unfold Frame.enter
          simp only [← hx'.size]
          exact hx'.append (.replicate undef_rel _)
        · simp [Frame.enter, hgn, hgb]
        · simp [Frame.enter, hgn, hgb]
        · intro z hz
          simp only [List.mem_cons, List.not_mem_nil, or_false] at hz
          subst hz; exact hgc
end
end Go.Proofs.Ytfecdmenliohhaa

set_option linter.unusedSimpArgs false
set_option linter.unusedVariables false
namespace Go.Proofs.Ytfecdmenliohhaa
open Go

/-- The view's text has been left: normally, or by a return. -/
def StopV (P : Program) (f : Frame) (l : List Frame) : Prop := l = [sent P] ∧ (f.mode = .returning ∨ (f.mode = .run ∧ f.todo = kv0))

section
variable {P : Program} {L : List FuncId} {C : Cx} {B : FuncId × CallKind} {K kt : List Item} {ct : List Frame} {p : Ren} {f f' : Frame} {l l' : List Frame} {w w₁ w' : World}

theorem exec_oper {main : Bool} {ops : Array Oper} {i : Nat} {rest : List Nat} {k : List Item} {o : Oper} (ht : f.todo = .inRegion ops (i :: rest) :: k) (hr : f.roundOf = none) (ho : ops[i]? = some o) (hw : Region.wanted o (yielded ops f.tmps) = true) :
    stepG.exec P main true f l none w = stepG.apply P true f l none (execOp f.eval o) w := by
  simp [stepG.exec, ht, ho, hw, stepG.oper, Frame.oper?, hr]
theorem exec_skip {main : Bool} {ops : Array Oper} {i : Nat} {rest : List Nat} {k : List Item} (ht : f.todo = .inRegion ops (i :: rest) :: k) (hw : ((ops[i]?).map (Region.wanted · (yielded ops f.tmps))).getD false = false) :
    stepG.exec P main true f l none w = .go (rec' (f.finish undef) l) w := by
  simp only [stepG.exec, ht, hw, Bool.false_eq_true, if_false]; rfl
theorem exec_draw {main : Bool} {id : Nat} {ops : Array Oper} {k : List Item} (ht : f.todo = .code (.region id ops true) :: k) :
    stepG.exec P main true f l none w = .go (rec' { f with todo := .inRegion ops (Region.schedule (P.follows .mixedOrders) ops (w.tape w.drawn (.order f.fn id))) :: k } l) { w with drawn := w.drawn + 1 } := by
  simp [stepG.exec, ht, choose, Sem.run, Question.forced, Question.cut, rec']
theorem exec_exit {main : Bool} {id : Nat} {k k' : List Item} (ht : f.todo = .code (.exit id) :: k) (he : exitTo id k = some k') : stepG.exec P main true f l none w = .go (rec' { f with todo := k' } l) w := by
  simp [stepG.exec, ht, he, rec']
theorem exec_lost {main : Bool} {id : Nat} {k : List Item} (ht : f.todo = .code (.exit id) :: k) (hr : f.roundOf = none) (he : exitTo id k = none) : ∃ o w' es, stepG.exec P main true f l none w = .ended o w' es := by
  simp [stepG.exec, ht, he, hr]
theorem exec_badCond {main : Bool} {c : Operand} {a b : Code} {k : List Item} (ht : f.todo = .code (.cond c a b) :: k) (he : ∀ t, f.eval c ≠ .bool t) : ∃ o w' es, stepG.exec P main true f l none w = .ended o w' es := by
  simp only [stepG.exec, ht]
  cases hv : f.eval c <;> first | exact ⟨_, _, _, rfl⟩ | exact absurd hv (he _)

theorem stepG_ret {fn : Func} {v : Value} {c : Frame} (main : Bool) (hm : f.mode = .returning) (hd : f.defers = []) (hk : f.kind = .normal) (hf : P.funcs[f.fn]? = some fn) (hr : (results fn f.tmps).runT P w #[] = (.ok v w, #[])) :
    stepG P main (rec' f (c :: l)) w = .go (rec' (c.finish v) l) w := by
  rw [Sem.runT_eq, Prod.mk.injEq] at hr
  obtain ⟨h1, h2⟩ := hr
  simp [stepG, rec', unwind, doReturn, hm, hd, hk, hf, h1, h2, seen, GStep.after]

/-- The return to a waiting frame. -/
theorem step_ret (H : ListOk P C L) (hw : WRel C p w w') {l l' : List Frame} {f f' : Frame} {items : List Item} (hf : FRel P L C p [] [] items f f') (hk : f'.kind = .normal) (hc : CRel P L C B K kt ct p l l') (hr : f.mode = .returning) :
    ∃ f₁ l₁ w₁, StepGood P L C B K kt ct p f l f' l' w w' f₁ l₁ w₁ := by
  obtain ⟨fn, hfn, hres⟩ := hf.ok
  obtain ⟨v, v', h1, h2, hv⟩ := results_rel (P := P) hres hf.tmps
  have hr' : f'.mode = .returning := by rw [hf.mode]; exact hr
  have hfn' : P.funcs[f'.fn]? = some fn := by rw [hf.fn]; exact hfn
  cases hc with
  | @base g g' ops i rest its hb hm hfB hkB =>
    exact ⟨g.finish v, [sent P], w, .ctl hw (fun w => ⟨#[], stepG_ret true hr hf.dv hf.kV hfn (h1 w #[])⟩) (fun main w => ⟨#[], by simp, stepG_ret main hr' hf.dt hk hfn' (h2 w #[])⟩) (.base (hb.finish hv) (by unfold Frame.finish; rw [hb.tt]; exact hfB) (by unfold Frame.finish; rw [hb.tt]; exact hkB))⟩
  | @up g g' ops i rest its m m' hb hm hk' hc' =>
    exact ⟨g.finish v, m, w, .ctl hw (fun w => ⟨#[], stepG_ret true hr hf.dv hf.kV hfn (h1 w #[])⟩) (fun main w => ⟨#[], by simp, stepG_ret main hr' hf.dt hk hfn' (h2 w #[])⟩) (.up (hb.finish hv) (by unfold Frame.finish; rw [hb.tt]; exact hk') hc')⟩

/-- ████ One step. ████ -/
theorem GRel.step (H : ListOk P C L) (hK : K = kv0 ∨ (K = [] ∧ kt = [])) (hg : GRel P L C B K kt ct p f l f' l') (hw : WRel C p w w') (hns : ¬ StopV P f l) :
    Astray P l (stepG P true (rec' f l) w) ∨ ∃ f₁ l₁ w₁, StepGood P L C B K kt ct p f l f' l' w w' f₁ l₁ w₁ := by
  -- the two kinds of frames at once
  have key : ∀ {kv kt' : List Item} {items : List Item} (hf : FRel P L C p kv kt' items f f')
      (mk : ∀ q f₁ f₁' items, RLe p q → FRel P L C q kv kt' items f₁ f₁' → f₁'.fn = f'.fn → f₁'.kind = f'.kind → GRel P L C B K kt ct q f₁ l f₁' l')
      (mkC : ∀ q, RLe p q → ∀ ops i rest its, items = .inRegion ops (i :: rest) :: its → f.mode = .run → CRel P L C B K kt ct q (f :: l) (f' :: l')) (hr : f.mode = .run) (hx : ∀ id, exitTo id kv = none) (h0 : items = [] → kv = [] ∧ kt' = []),
      Astray P l (stepG P true (rec' f l) w) ∨ ∃ f₁ l₁ w₁, StepGood P L C B K kt ct p f l f' l' w w' f₁ l₁ w₁ := by
    intro kv kt' items hf mk mkC hr hx h0
    have hr' : f'.mode = .run := by rw [hf.mode]; exact hr
    have ctl : ∀ {new new' : List Item} {f₁ f₁' : Frame}, (∀ w, stepG.exec P true true f l none w = .go (rec' f₁ l) w) → (∀ main w, stepG.exec P main true f' l' none w = .go (rec' f₁' l') w) → GRel P L C B K kt ct p f₁ l f₁' l' →
        Astray P l (stepG P true (rec' f l) w) ∨ ∃ f₁ l₁ w₁, StepGood P L C B K kt ct p f l f' l' w w' f₁ l₁ w₁ := by
      intro new new' f₁ f₁' h1 h2 h3
      exact .inr ⟨f₁, l, w, .ctl hw (fun w => ⟨_, (stepG_run true hr w).trans (h1 w)⟩) (fun main w => ⟨#[], by simp, (stepG_run main hr' w).trans (h2 main w)⟩) h3⟩
    have astray : (∃ o w' es, stepG.exec P true true f l none w = .ended o w' es) → Astray P l (stepG P true (rec' f l) w) ∨ ∃ f₁ l₁ w₁, StepGood P L C B K kt ct p f l f' l' w w' f₁ l₁ w₁ := by
      rintro ⟨o, w', es, e⟩
      exact .inl (by rw [stepG_run true hr w, e]; trivial)
    cases items with
    | nil =>
      obtain ⟨rfl, rfl⟩ := h0 rfl
      exact ctl (new := []) (new' := []) (fun w => exec_nil true hf.rv (by simpa using hf.tv) w) (fun main w => exec_nil main hf.rt (by simpa using hf.tt) w) (mk p _ _ _ (.refl _) hf.ret rfl rfl)
    | cons x its =>
      have hits : ∀ y ∈ its, itemOk P L y = true := fun y hy => hf.its y (by simp [hy])
      cases hc : ctlTo f.eval x its with
      | some new =>
        obtain ⟨h1, h2, h3⟩ := hf.ctl H hc
        exact ctl (new := []) (new' := []) (fun w => exec_ctl true (by simpa using hf.tv) h1 w) (fun main w => exec_ctl main (by simpa using hf.tt) h2 w) (mk p _ _ new (.refl _) (hf.to h3) rfl rfl)
      | none =>
        have hx0 := hf.its x (by simp)
        cases x with
        | code c =>
          cases c <;> simp only [ctlTo, reduceCtorEq] at hc <;> simp only [itemOk, codeOk, Bool.false_eq_true] at hx0
          case ret => exact ctl (new := []) (new' := []) (fun w => exec_ret true hf.rv hf.tv w) (fun main w => exec_ret main hf.rt hf.tt w) (mk p _ _ _ (.refl _) hf.ret rfl rfl)
          case exit id =>
            cases he : exitTo id its with
            | some z =>
              have ev : exitTo id (its ++ kv) = some (z ++ kv) := by rw [exitTo_append, he]
              have et : exitTo id (its ++ kt') = some (z ++ kt') := by rw [exitTo_append, he]
              exact ctl (new := []) (new' := []) (fun w => exec_exit hf.tv ev) (fun main w => exec_exit hf.tt et) (mk p _ _ z (.refl _) (hf.to fun y hy => hits y (exitTo_sub he y hy)) rfl rfl)
            | none => exact astray (exec_lost (k := its ++ kv) hf.tv hf.rv (by rw [exitTo_append, he]; exact hx id))
          case cond c a b =>
            refine astray (exec_badCond hf.tv fun t ht => ?_)
            rw [ht] at hc; cases hc
          case region id ops draw =>
            cases draw with
            | false => simp [ctlTo] at hc
            | true =>
              right
              have hreg : ∀ T : Nat, ∀ y ∈ Item.inRegion ops (Region.schedule (P.follows .mixedOrders) ops T) :: its, itemOk P L y = true := by
                intro T y hy
                rcases List.mem_cons.1 hy with rfl | hy
                · exact hx0
                · exact hits y hy
              refine ⟨{ f with todo := .inRegion ops (Region.schedule (P.follows .mixedOrders) ops (w.tape w.drawn (.order f.fn id))) :: (its ++ kv) }, l, { w with drawn := w.drawn + 1 }, Nat.le_succ _, fun T d hT => ?_, fun hA main => ?_⟩
              · have e0 : T d (.order f.fn id) = w.tape w.drawn (.order f.fn id) := by simpa using hT 0 (.order f.fn id) (by simp)
                refine ⟨#[], ?_⟩
                rw [stepG_run true hr, exec_draw hf.tv]
                simp only [World.tp, e0, Nat.add_sub_cancel_left]
                rfl
              · have e0 : w'.tape w'.drawn (.order f.fn id) = w.tape w.drawn (.order f.fn id) := by simpa using hA 0 (.order f.fn id) (by simp)
                refine ⟨p, { f' with todo := .inRegion ops (Region.schedule (P.follows .mixedOrders) ops (w.tape w.drawn (.order f.fn id))) :: (its ++ kt') }, l', { w' with drawn := w'.drawn + 1 }, #[], ?_, .refl _, mk p _ _ _ (.refl _) (hf.to (hreg (w.tape w.drawn (.order f.fn id)))) rfl rfl, hw.draws _ _ w.tape w'.tape, ?_, by simp, by simp⟩
                · rw [stepG_run main hr', exec_draw hf.tt, hf.fn, e0]; rfl
                · exact ⟨rfl, rfl, rfl, Nat.le_refl _, fun _ _ _ => rfl, fun _ _ h => .inl h, fun c h1 h2 => by exact absurd h2 (by show ¬ c < w'.heap.size; omega), fun _ _ _ => rfl⟩
        | inBlock id => simp [ctlTo] at hc
        | inLoop b => simp [ctlTo] at hc
        | inRegion ops todo =>
          cases todo with
          | nil => simp [ctlTo] at hc
          | cons i rest =>
            have hy := yielded_same hf.tmps ops
            cases hwt : ((ops[i]?).map (Region.wanted · (yielded ops f.tmps))).getD false with
            | false =>
              exact ctl (new := []) (new' := []) (fun w => exec_skip hf.tv hwt) (fun main w => exec_skip hf.tt (by rw [← hy]; exact hwt)) (mk p _ _ _ (.refl _) (hf.finish undef_rel) (by unfold Frame.finish; rw [hf.tt]; rfl) (by unfold Frame.finish; rw [hf.tt]; rfl))
            | true =>
              cases ho : ops[i]? with
              | none => simp [ho] at hwt
              | some o =>
                simp only [ho, Option.map_some, Option.getD_some] at hwt
                exact stepGood_op H hw hf hr ho (fun w => (stepG_run true hr w).trans (exec_oper hf.tv hf.rv ho hwt)) (fun main w => (stepG_run main hr' w).trans (exec_oper hf.tt hf.rt ho (by rw [← hy]; exact hwt)))
                  mk (fun q hq => mkC q hq ops i rest its rfl hr)
        | _ => simp [itemOk] at hx0
  cases hg with
  | base hf hfB hkB =>
    rcases hf.live with hr | hr
    · refine key hf (fun q f₁ f₁' items _ h e e' => .base h (e.trans hfB) (e'.trans hkB)) (fun q hq ops i rest its e hm => .base (by rw [← e]; exact hf.mono hq) hm hfB hkB) hr (fun id => by rcases hK with rfl | ⟨rfl, _⟩ <;> rfl) (fun e => ?_)
      rcases hK with rfl | hK
      · exact absurd ⟨rfl, .inr ⟨hr, by rw [hf.tv, e]; rfl⟩⟩ hns
      · exact hK
    · exact absurd ⟨rfl, .inl hr⟩ hns
  | up hf hk hc =>
    rcases hf.live with hr | hr
    · exact key hf (fun q f₁ f₁' items hq h _ e => .up h (e.trans hk) (hc.mono hq)) (fun q hq ops i rest its e hm => .up (by rw [← e]; exact hf.mono hq) hm hk (hc.mono hq)) hr (fun id => rfl) (fun _ => ⟨rfl, rfl⟩)
    · exact .inr (step_ret H hw hf hk hc hr)
end
end Go.Proofs.Ytfecdmenliohhaa

set_option linter.unusedSimpArgs false
set_option linter.unusedVariables false
namespace Go.Proofs.Ytfecdmenliohhaa
open Go

section
variable {P : Program} {L : List FuncId} {C : Cx} {B : FuncId × CallKind} {K kt : List Item} {ct : List Frame} {p : Ren} {f f' : Frame} {l l' : List Frame} {w w₁ w' : World}

theorem step_of_go {f₁ : Frame} {l₁ : List Frame} {es : Array Event} (h : stepG P true (rec' f l) w = .go (rec' f₁ l₁) w₁ es) : step P (lone f l w) = .next (lone f₁ l₁ w₁) :=
  step_lone_go (by
    show (stepG P true (rec' f l) w).bare = _
    rw [h]; rfl)
theorem step_of_ended {o : Outcome} {w₂ : World} {es : Array Event} (h : stepG P true (rec' f l) w = .ended o w₂ es) : step P (lone f l w) = .ended o w₂ :=
  step_lone_ended (by
    show (stepG P true (rec' f l) w).bare = _
    rw [h]; rfl)
theorem lone_inj {w₂ : World} {f₂ : Frame} {l₂ : List Frame} (h : lone f l w = lone f₂ l₂ w₂) : f = f₂ ∧ l = l₂ ∧ w = w₂ := by
  unfold lone at h
  simp only [Machine.mk.injEq] at h
  obtain ⟨h1, h2, _⟩ := h
  have : (#[({ frame := f, callers := l, status := .running, dying := none } : Goroutine)])[0]? = (#[({ frame := f₂, callers := l₂, status := .running, dying := none } : Goroutine)])[0]? := by rw [h2]
  simp at this
  exact ⟨this.1, this.2, h1⟩

/-- It is never seen again at a text. -/
def Never (P : Program) (m : Machine) : Prop := ∀ n f l w, runN P n m = .next (lone f l w) → (∃ ch, f.mode = .panicking ch) ∨ f.fn = P.funcs.size

theorem Never.of_ended {m : Machine} {o : Outcome} {w₂ : World} (h : step P m = .ended o w₂) (h0 : ∀ f l w, m = lone f l w → (∃ ch, f.mode = .panicking ch) ∨ f.fn = P.funcs.size) : Never P m := by
  intro n f l w e
  cases n with
  | zero => simp only [runN, Stepped.next.injEq] at e; exact h0 f l w e
  | succ n => simp only [runN, h] at e; cases e
theorem Never.of_next {m m₁ : Machine} (h : step P m = .next m₁) (h1 : Never P m₁) (h0 : ∀ f l w, m = lone f l w → (∃ ch, f.mode = .panicking ch) ∨ f.fn = P.funcs.size) : Never P m := by
  intro n f l w e
  cases n with
  | zero => simp only [runN, Stepped.next.injEq] at e; exact h0 f l w e
  | succ n => simp only [runN, h] at e; exact h1 n f l w e

/-- The frames that wait in the view: none defers; the sentinel is the last. -/
inductive PL (P : Program) : List Frame → Prop
  | sent : PL P [sent P]
  | cons {f : Frame} {l : List Frame} : f.defers = [] → f.mode = .run → (∃ fn, P.funcs[f.fn]? = some fn) → PL P l → PL P (f :: l)
theorem CRel.pl (H : ListOk P C L) (h : CRel P L C B K kt ct p l l') : PL P l := by
  induction h with
  | base h m _ _ => obtain ⟨fn, e, _⟩ := h.ok; exact .cons h.dv m ⟨fn, e⟩ .sent
  | up h m _ _ ih => obtain ⟨fn, e, _⟩ := h.ok; exact .cons h.dv m ⟨fn, e⟩ ih
theorem GRel.pl (H : ListOk P C L) (h : GRel P L C B K kt ct p f l f' l') : PL P l := by
  cases h with
  | base _ _ _ => exact .sent
  | up _ _ h => exact h.pl H
theorem GRel.fnOf (H : ListOk P C L) (h : GRel P L C B K kt ct p f l f' l') : (∃ fn, P.funcs[f.fn]? = some fn) ∧ f.defers = [] ∧ (f.mode = .run ∨ f.mode = .returning) := by
  cases h with
  | base h _ _ => obtain ⟨fn, e, _⟩ := h.ok; exact ⟨⟨fn, e⟩, h.dv, h.live⟩
  | up h _ _ => obtain ⟨fn, e, _⟩ := h.ok; exact ⟨⟨fn, e⟩, h.dv, h.live⟩

theorem sent_none : P.funcs[(sent P).fn]? = none := by simp [sent]
theorem never_sentP (ch : List PanicEntry) (w : World) : Never P (lone { sent P with mode := .panicking ch } [] w) := by
  have hst : ∃ o w₂ es, stepG P true (rec' { sent P with mode := .panicking ch } []) w = .ended o w₂ es := by
    simp [stepG, rec', unwind, sent, callDeferred]
  obtain ⟨o, w₂, es, e⟩ := hst
  refine Never.of_ended (step_of_ended e) (fun f l w e => ?_)
  obtain ⟨rfl, _, _⟩ := lone_inj e; exact .inl ⟨ch, rfl⟩
theorem never_sentR (v : Value) (w : World) : Never P (lone ((sent P).finish v) [] w) := by
  have hst : ∃ o w₂ es, stepG P true (rec' ((sent P).finish v) []) w = .ended o w₂ es := by
    have : (sent P).finish v = sent P := rfl
    rw [this, stepG_run true rfl]
    simp [stepG.exec, sent, kv0]
  obtain ⟨o, w₂, es, e⟩ := hst
  refine Never.of_ended (step_of_ended e) (fun f l w e => ?_)
  obtain ⟨rfl, _, _⟩ := lone_inj e; exact .inr rfl
theorem never_panic : ∀ {l : List Frame}, PL P l → ∀ (f : Frame) (ch : List PanicEntry) (w : World), f.defers = [] → (∃ fn, P.funcs[f.fn]? = some fn) → Never P (lone { f with mode := .panicking ch } l w)
  | c :: l, h, f, ch, w, hd, ⟨fn, hf⟩ => by
    have hc : ∀ d, Frame.catches P { f with mode := .panicking ch, defers := d } = false := by
      intro d; unfold Frame.catches; simp only [hf]
    have hst : stepG P true (rec' { f with mode := .panicking ch } (c :: l)) w = .go (rec' (c.raise ch) l) w := by
      simp only [stepG, rec', unwind, hd, hc, Bool.false_eq_true, if_false]
    have h0 : ∀ g m w', lone { f with mode := .panicking ch } (c :: l) w = lone g m w' → (∃ ch, g.mode = .panicking ch) ∨ g.fn = P.funcs.size := fun g m w' e => by
      obtain ⟨rfl, _, _⟩ := lone_inj e; exact .inl ⟨ch, rfl⟩
    refine Never.of_next (step_of_go hst) ?_ h0
    cases h with
    | sent => exact never_sentP ch w
    | cons h1 h2 h3 h4 =>
      have : c.raise ch = { c with mode := .panicking ch } := by unfold Frame.raise; rw [h2]
      rw [this]
      exact never_panic h4 c ch w h1 h3

theorem never_astray {s : GStep} (hs : stepG P true (rec' f l) w = s) (ha : Astray P l s) (hl : PL P l) : ∀ n f₂ l₂ w₂, runN P (n + 1) (lone f l w) = .next (lone f₂ l₂ w₂) → (∃ ch, f₂.mode = .panicking ch) ∨ f₂.fn = P.funcs.size := by
  intro n f₂ l₂ w₂ e
  cases s with
  | ended o w₃ es => simp only [runN, step_of_ended hs] at e; cases e
  | go g w₃ es =>
    obtain ⟨f₃, ch, rfl, hd, hf⟩ := ha
    simp only [runN, step_of_go hs] at e
    exact never_panic hl f₃ ch w₃ hd hf n f₂ l₂ w₂ e
  | _ => exact ha.elim

/-- Behind its stop the view's run ends. -/
theorem results_any {fn : Func} (hr : resOk fn.results = true) (x : Array Value) : ∃ v, ∀ w es, (results fn x).runT P w es = (.ok v w, es) := by
  generalize hrs : fn.results = rs0 at hr
  obtain ⟨rs⟩ := rs0
  simp only [resOk, Bool.and_eq_true, decide_eq_true_eq, List.size_toArray] at hr
  obtain ⟨hl, ha⟩ := hr
  match rs, hl, ha with
  | [], _, _ => exact ⟨_, fun w es => by rw [Sem.runT_eq, results_none hrs _ P w, Conc.events_results_none hrs]⟩
  | [.tmp a], _, _ => exact ⟨_, fun w es => by rw [Sem.runT_eq, results_tmp hrs _ P w, Conc.events_results_tmp hrs]⟩
  | [.tmp a, .tmp b], _, _ => exact ⟨_, fun w es => by rw [Sem.runT_eq, results_tmp2 hrs _ P w, Conc.events_results_tmp2 hrs]⟩
  | [.tmp a, .tmp b, .tmp c], _, _ =>
    have ev : ∀ (tm : Array Value) (w : World) (es : Array Event), (results fn tm).events P w es = es := fun tm w es => by simp [results, hrs]
    exact ⟨_, fun w es => by rw [Sem.runT_eq, results_tmp3 hrs _ P w, ev]⟩
  | .cell _ _ :: _, _, ha => simp at ha
  | [.tmp _, .cell _ _], _, ha => simp at ha
  | [.tmp _, .tmp _, .cell _ _], _, ha => simp at ha
  | [.tmp _, .cell _ _, .tmp _], _, ha => simp at ha
  | [.tmp _, .cell _ _, .cell _ _], _, ha => simp at ha
  | _ :: _ :: _ :: _ :: _, hl, _ => simp at hl
theorem never_stop {fn : Func} (hf : P.funcs[f.fn]? = some fn) (hr : resOk fn.results = true) (hd : f.defers = []) (hk : f.kind = .normal) (hs : StopV P f l) :
    ∀ n f₂ l₂ w₂, runN P (n + 1) (lone f l w) = .next (lone f₂ l₂ w₂) → (∃ ch, f₂.mode = .panicking ch) ∨ f₂.fn = P.funcs.size := by
  intro n f₂ l₂ w₂ e
  obtain ⟨rfl, hs⟩ := hs
  rcases hs with hm | ⟨hm, ht⟩
  · obtain ⟨v, h1⟩ := results_any (P := P) hr f.tmps
    simp only [runN, step_of_go (stepG_ret true hm hd hk hf (h1 w #[]))] at e
    exact never_sentR v w n f₂ l₂ w₂ e
  · obtain ⟨o, w₁, this⟩ : ∃ o w₁, stepG P true (rec' f [sent P]) w = .ended o w₁ := by
      rw [stepG_run true hm]
      simp [stepG.exec, ht, kv0]
    simp only [runN, step_of_ended this] at e; cases e
end
end Go.Proofs.Ytfecdmenliohhaa

set_option linter.unusedSimpArgs false
set_option linter.unusedVariables false
namespace Go.Proofs.Ytfecdmenliohhaa
open Go

/-- What the others may do: the blocks that are held stand; new ones may be made; the scheduler draws. -/
structure RelyX (p : Ren) (w w₁ : World) : Prop where
  tape : w₁.tape = w.tape
  held : ∀ b c, p b = some c → w₁.heap[c]? = w.heap[c]?
  size : w.heap.size ≤ w₁.heap.size
theorem RelyX.refl (p : Ren) (w : World) : RelyX p w w := ⟨rfl, fun _ _ _ => rfl, Nat.le_refl _⟩
theorem RelyX.trans {p : Ren} {w w₁ w₂ : World} (h : RelyX p w w₁) (k : RelyX p w₁ w₂) : RelyX p w w₂ := ⟨k.tape.trans h.tape, fun b c e => (k.held b c e).trans (h.held b c e), Nat.le_trans h.size k.size⟩
theorem WRel.rely {C : Cx} {p : Ren} {v w w₁ : World} (h : WRel C p v w) (k : RelyX p w w₁) : WRel C p v w₁ :=
  ⟨h.inj, fun b c e => let ⟨o, o', h1, h2, h3⟩ := h.obj b c e; ⟨o, o', h1, (k.held b c e).trans h2, h3⟩, h.gV, h.lockV, fun c hl => Nat.lt_of_lt_of_le (h.lockT c hl) k.size, h.shV, h.deadV⟩

/-- The true goroutine is on its way to a stop: well-founded, whatever the others do. -/
inductive RI (P : Program) (C : Cx) (main : Bool) (Stop : Ren → Goroutine → World → Prop) : Ren → Goroutine → World → Prop
  | stop {p : Ren} {g : Goroutine} {w : World} : (∀ w₁, RelyX p w w₁ → Stop p g w₁) → RI P C main Stop p g w
  | step {p : Ren} {g : Goroutine} {w : World} (nx : World → Ren × Goroutine × World) : g.status = .running →
      (∀ w₁, RelyX p w w₁ → ∃ es, stepG P main g w₁ = .go (nx w₁).2.1 (nx w₁).2.2 es ∧ RLe p (nx w₁).1 ∧ Kept C p (nx w₁).1 w₁ (nx w₁).2.2 ∧ ∀ e ∈ es, EvOk C (nx w₁).1 e) →
      (∀ w₁, RelyX p w w₁ → RI P C main Stop (nx w₁).1 (nx w₁).2.1 (nx w₁).2.2) → RI P C main Stop p g w
open Classical in
theorem RI.mk {P : Program} {C : Cx} {main : Bool} {Stop : Ren → Goroutine → World → Prop} {p : Ren} {g : Goroutine} {w : World} (hs : g.status = .running)
    (h : ∀ w₁, RelyX p w w₁ → ∃ g' w' es q, stepG P main g w₁ = .go g' w' es ∧ RLe p q ∧ Kept C p q w₁ w' ∧ (∀ e ∈ es, EvOk C q e) ∧ RI P C main Stop q g' w') : RI P C main Stop p g w := by
  have h' : ∀ w₁, ∃ x : Ren × Goroutine × World, RelyX p w w₁ → (∃ es, stepG P main g w₁ = .go x.2.1 x.2.2 es ∧ RLe p x.1 ∧ Kept C p x.1 w₁ x.2.2 ∧ ∀ e ∈ es, EvOk C x.1 e) ∧ RI P C main Stop x.1 x.2.1 x.2.2 := by
    intro w₁
    by_cases hr : RelyX p w w₁
    · obtain ⟨g', w', es, q, h1, h2, h3, h4, h5⟩ := h w₁ hr
      exact ⟨(q, g', w'), fun _ => ⟨⟨es, h1, h2, h3, h4⟩, h5⟩⟩
    · exact ⟨(p, g, w), fun h => absurd h hr⟩
  exact .step (fun w₁ => Classical.choose (h' w₁)) hs (fun w₁ hr => (Classical.choose_spec (h' w₁) hr).1) (fun w₁ hr => (Classical.choose_spec (h' w₁) hr).2)

/-- The view's last frame. -/
def base0 (fn : FuncId) : Frame := { fn, tmps := #[], todo := [], defers := [], mode := .run, kind := .normal }

abbrev Ans := List (Question → Nat)
def Ag (A : Ans) (T : Nat → Question → Nat) (d : Nat) : Prop := ∀ j q, j < A.length → T (d + j) q = A.getD j (fun _ => 0) q
theorem Ag.left {A L : Ans} {T : Nat → Question → Nat} {d : Nat} (h : Ag (A ++ L) T d) : Ag A T d := fun j q hj => by
  rw [h j q (by simp; omega)]
  simp [List.getD_eq_getElem?_getD, List.getElem?_append_left hj]
theorem Ag.right {A L : Ans} {T : Nat → Question → Nat} {d : Nat} (h : Ag (A ++ L) T d) : Ag L T (d + A.length) := fun j q hj => by
  have := h (A.length + j) q (by simp; omega)
  rw [show d + A.length + j = d + (A.length + j) by omega, this]
  simp [List.getD_eq_getElem?_getD, List.getElem?_append_right]

/-- How the view arrives: a predicate on its last frame, at one of its stops. -/
structure ArrOk (P : Program) (fn0 : FuncId) (A : Frame → World → Prop) : Prop where
  stop : ∀ f w, A f w → StopV P f [sent P]
  fn : ∀ f w, A f w → f.fn = fn0
  kind : ∀ f w, A f w → f.kind = .normal
  defers : ∀ f w, A f w → f.defers = []
  res : FnRes P fn0
/-- The true goroutine's stop: alike to the view's. -/
def StopG (P : Program) (L : List FuncId) (C : Cx) (B : FuncId × CallKind) (K kt : List Item) (ct : List Frame) (A : Frame → World → Prop) : Ren → Goroutine → World → Prop := fun q g w' =>
  ∃ f f' w₁, A f w₁ ∧ GRel P L C B K kt ct q f [sent P] f' ct ∧ WRel C q w₁ w' ∧ g = rec' f' ct

section
variable (P : Program) (L : List FuncId) (C : Cx) (Arr : Frame → World → Prop) (B : FuncId × CallKind) (f₀ : Frame) (w₀ : World) (K kt : List Item) (ct : List Frame) (main : Bool)

/-- A point of a path along which the true goroutine is not on its way. -/
structure Node where
  i : Nat
  A : Ans
  p : Ren
  f : Frame
  l : List Frame
  w : World
  f' : Frame
  l' : List Frame
  w' : World
  grel : GRel P L C B K kt ct p f l f' l'
  wrel : WRel C p w w'
  reach : ∀ T d, Ag A T d → runN P i (lone f₀ [sent P] (World.tp w₀ T d)) = .next (lone f l (World.tp w T (d + A.length)))
  bad : ¬ RI P C main (StopG P L C B K kt ct Arr) p (rec' f' l') w'
end

section
variable {P : Program} {L : List FuncId} {C : Cx} {Arr : Frame → World → Prop} {B : FuncId × CallKind} {f₀ : Frame} {w₀ : World} {K kt : List Item} {ct : List Frame} {main : Bool} {fn0 : FuncId}

theorem GRel.info {p : Ren} {f f' : Frame} {l l' : List Frame} (h : GRel P L C B K kt ct p f l f' l') : f.kind = .normal ∧ ∃ fn, P.funcs[f.fn]? = some fn ∧ resOk fn.results = true := by
  cases h with
  | base h _ _ => obtain ⟨fn, e1, e2⟩ := h.ok; exact ⟨h.kV, fn, e1, e2⟩
  | up h _ _ => obtain ⟨fn, e1, e2⟩ := h.ok; exact ⟨h.kV, fn, e1, e2⟩

/-- The view arrives, whatever its tape. -/
def Arrs (P : Program) (Arr : Frame → World → Prop) (f₀ : Frame) (w₀ : World) : Prop := ∀ T d, ∃ n f w₁, Arr f w₁ ∧ runN P n (lone f₀ [sent P] (World.tp w₀ T d)) = .next (lone f [sent P] w₁)

/-- Where the view goes on, it has not arrived yet. -/
theorem runN_later {m m₁ m₂ : Machine} {i n : Nat} (hi : runN P i m = .next m₁) (hn : runN P n m = .next m₂) (h : i ≤ n) : runN P (n - i) m₁ = .next m₂ := by
  have := runN_add P i (n - i) m
  rw [show i + (n - i) = n by omega, hi, hn] at this
  exact this.symm

/-- At a point of the path the view has not gone beyond its arrival. -/
theorem Node.arr (H : ListOk P C L) (hA : ArrOk P fn0 Arr) (hwp : Arrs P Arr f₀ w₀) (N : Node P L C Arr B f₀ w₀ K kt ct main) (T : Nat → Question → Nat) (d : Nat) (hT : Ag N.A T d) :
    ∃ n f w₁, Arr f w₁ ∧ runN P n (lone N.f N.l (World.tp N.w T (d + N.A.length))) = .next (lone f [sent P] w₁) := by
  obtain ⟨n, f, w₁, hq, hn⟩ := hwp T d
  obtain ⟨fn, hfn, hres⟩ := hA.res
  have hi := N.reach T d hT
  rcases Nat.lt_or_ge n N.i with hlt | hge
  · -- it had arrived before: it cannot stand at a point of the path
    exfalso
    obtain ⟨k, hk⟩ : ∃ k, N.i - n = k + 1 := ⟨N.i - n - 1, by omega⟩
    have hl := runN_later hn hi (by omega)
    rw [hk] at hl
    have hg := N.grel.fnOf H
    rcases never_stop (f := f) (by rw [hA.fn f w₁ hq]; exact hfn) hres (hA.defers f w₁ hq) (hA.kind f w₁ hq) (hA.stop f w₁ hq) k _ _ _ hl with ⟨ch, hp⟩ | hp
    · rcases hg.2.2 with hm | hm <;> rw [hm] at hp <;> cases hp
    · obtain ⟨fn', hf'⟩ := hg.1
      rw [hp] at hf'; simp at hf'
  · exact ⟨n - N.i, f, w₁, hq, runN_later hi hn hge⟩

/-- A tape that begins with these answers. -/
theorem ag_begin (A : Ans) (S : Nat → Question → Nat) : ∃ T : Nat → Question → Nat, Ag A T 0 ∧ ∀ j q, T (A.length + j) q = S j q := by
  refine ⟨fun j q => if j < A.length then A.getD j (fun _ => 0) q else S (j - A.length) q, fun j q hj => ?_, fun j q => ?_⟩
  · simp only [Nat.zero_add, hj, if_true]
  · have : ¬ A.length + j < A.length := by omega
    simp only [this, if_false]
    congr 1; omega

theorem ArrOk.live (hA : ArrOk P fn0 Arr) {f : Frame} {w : World} (h : Arr f w) : (f.mode = .run ∨ f.mode = .returning) ∧ ∃ fn, P.funcs[f.fn]? = some fn := by
  obtain ⟨fn, hfn, _⟩ := hA.res
  refine ⟨?_, fn, by rw [hA.fn f w h]; exact hfn⟩
  rcases (hA.stop f w h).2 with h | h
  · exact .inr h
  · exact .inl h.1

/-- At its stop the true goroutine has come to its own. -/
theorem Node.not_stop (H : ListOk P C L) (hA : ArrOk P fn0 Arr) (hwp : Arrs P Arr f₀ w₀) (N : Node P L C Arr B f₀ w₀ K kt ct main) : ¬ StopV P N.f N.l := by
  intro hs
  obtain ⟨T, hT, _⟩ := ag_begin N.A (fun _ _ => 0)
  obtain ⟨n, f, w₁, hq, hn⟩ := N.arr H hA hwp T 0 hT
  have hg := N.grel.fnOf H
  obtain ⟨hlive, fn, hfn⟩ := hA.live hq
  cases n with
  | succ n =>
    -- it would have to come back
    obtain ⟨hk, fn', hfn', hres'⟩ := N.grel.info
    rcases never_stop hfn' hres' hg.2.1 hk hs n _ _ _ hn with ⟨ch, hp⟩ | hp
    · rcases hlive with hm | hm <;> rw [hm] at hp <;> cases hp
    · rw [hp] at hfn; simp at hfn
  | zero =>
    simp only [runN, Stepped.next.injEq] at hn
    obtain ⟨e1, e2, e3⟩ := lone_inj hn
    refine N.bad (.stop fun w₂ hr => ?_)
    have hgr := N.grel
    have hwr := (N.wrel.rely hr).draws w₁.drawn w₂.drawn w₁.tape w₂.tape
    have hwv : ({ N.w with drawn := w₁.drawn, tape := w₁.tape } : World) = w₁ := by rw [← e3]; rfl
    rw [hwv] at hwr
    rw [e1, e2] at hgr
    generalize N.f' = f' at hgr
    generalize N.l' = l' at hgr
    cases hgr with
    | base h hB1 hB2 => exact ⟨f, f', w₁, hq, .base h hB1 hB2, hwr, rfl⟩
    | up h _ hc => cases hc with | up _ _ _ hc' => cases hc'

/-- ████ From each point of the path to the next. ████ -/
theorem Node.next (H : ListOk P C L) (hK : K = kv0 ∨ (K = [] ∧ kt = [])) (hA : ArrOk P fn0 Arr) (hwp : Arrs P Arr f₀ w₀) (N : Node P L C Arr B f₀ w₀ K kt ct main) :
    ∃ N' : Node P L C Arr B f₀ w₀ K kt ct main, N'.i = N.i + 1 ∧ ∃ R, N'.A = N.A ++ R := by
  have hns := N.not_stop H hA hwp
  -- the others do what leads it astray
  have hno : ∃ w₁, RelyX N.p N.w' w₁ ∧ ¬ ∃ g' w' es q, stepG P main (rec' N.f' N.l') w₁ = .go g' w' es ∧ RLe N.p q ∧ Kept C N.p q w₁ w' ∧ (∀ e ∈ es, EvOk C q e) ∧ RI P C main (StopG P L C B K kt ct Arr) q g' w' := by
    refine Classical.byContradiction fun hn => N.bad (.mk rfl fun w₁ hr => Classical.byContradiction fun hx => hn ⟨w₁, hr, hx⟩)
  obtain ⟨w₁, hrel, hno⟩ := hno
  obtain ⟨T, hT, hTr⟩ := ag_begin N.A (fun j q => w₁.tape (w₁.drawn + j) q)
  have hwr : WRel C N.p (World.tp N.w T N.A.length) w₁ := (N.wrel.rely hrel).draws N.A.length w₁.drawn T w₁.tape
  have hstep := N.grel.step H hK hwr hns
  -- the view's step is a good one
  have hgood : ∃ f₁ l₁ v₁, StepGood P L C B K kt ct N.p N.f N.l N.f' N.l' (World.tp N.w T N.A.length) w₁ f₁ l₁ v₁ := by
    rcases hstep with ha | hg
    · exfalso
      obtain ⟨n, f, v, hq, hn⟩ := N.arr H hA hwp T 0 hT
      rw [Nat.zero_add] at hn
      obtain ⟨hlive, fn, hfn⟩ := hA.live hq
      cases n with
      | zero =>
        simp only [runN, Stepped.next.injEq] at hn
        obtain ⟨e1, e2, _⟩ := lone_inj hn
        exact hns (by rw [e1, e2]; exact hA.stop f v hq)
      | succ n =>
        rcases never_astray rfl ha (N.grel.pl H) n _ _ _ hn with ⟨ch, hp⟩ | hp
        · rcases hlive with hm | hm <;> rw [hm] at hp <;> cases hp
        · rw [hp] at hfn; simp at hfn
    · exact hg
  obtain ⟨f₁, l₁, v₁, hg⟩ := hgood
  have hAg : Agree (World.tp N.w T N.A.length) v₁ w₁ := fun j q _ => (hTr j q).symm
  obtain ⟨q, f₁', l₁', w₁', es, e1, e2, e3, e4, e5, e6, e7⟩ := hg.true_ hAg main
  have hlen : (World.tp N.w T N.A.length).drawn = N.A.length := rfl
  refine ⟨⟨N.i + 1, N.A ++ (List.range (v₁.drawn - N.A.length)).map (fun j q => T (N.A.length + j) q), q, f₁, l₁, v₁, f₁', l₁', w₁', e3, e4, fun T' d' hT' => ?_, fun hRI => hno ⟨_, _, es, q, e1, e2, e5, e7, hRI⟩⟩, rfl, _, rfl⟩
  have h1 := N.reach T' d' hT'.left
  obtain ⟨es', h2⟩ := hg.view T' (d' + N.A.length) (fun j q hj => by
    have hj' : j < v₁.drawn - N.A.length := hj
    have := hT'.right j q (by simpa using hj')
    rw [this]
    simp only [List.getD_eq_getElem?_getD, List.getElem?_map, List.getElem?_range hj', Option.map_some, Option.getD_some]
    rfl)
  rw [runN_add, h1]
  show runN P 1 (lone N.f N.l (World.tp N.w T' (d' + N.A.length))) = _
  have h3 : step P (lone N.f N.l (World.tp N.w T' (d' + N.A.length))) = .next (lone f₁ l₁ (World.tp v₁ T' (d' + N.A.length + (v₁.drawn - N.A.length)))) := step_of_go h2
  simp only [runN, h3, List.length_append, List.length_map, List.length_range, hlen, Nat.add_assoc]

/-- ████████ THE MIRROR: what the view does on every tape, the true goroutine does in whatever company that leaves its blocks. ████████ -/
theorem mirrorG (H : ListOk P C L) (hK : K = kv0 ∨ (K = [] ∧ kt = [])) (hA : ArrOk P fn0 Arr) (hwp : Arrs P Arr f₀ w₀) {p : Ren} {f' : Frame} {w' : World} (hg : GRel P L C B K kt ct p f₀ [sent P] f' ct) (hw : WRel C p w₀ w') :
    RI P C main (StopG P L C B K kt ct Arr) p (rec' f' ct) w' := by
  refine Classical.byContradiction fun hbad => ?_
  -- the first point
  let N0 : Node P L C Arr B f₀ w₀ K kt ct main := ⟨0, [], p, f₀, [sent P], w₀, f', ct, w', hg, hw, fun T d _ => rfl, hbad⟩
  let nx : Node P L C Arr B f₀ w₀ K kt ct main → Node P L C Arr B f₀ w₀ K kt ct main := fun N => Classical.choose (N.next H hK hA hwp)
  have hnx : ∀ N, (nx N).i = N.i + 1 ∧ ∃ R, (nx N).A = N.A ++ R := fun N => Classical.choose_spec (N.next H hK hA hwp)
  let S : Nat → Node P L C Arr B f₀ w₀ K kt ct main := fun n => Nat.rec N0 (fun _ N => nx N) n
  have hSi : ∀ n, (S n).i = n := by
    intro n
    induction n with
    | zero => rfl
    | succ n ih => rw [show (S (n + 1)).i = (S n).i + 1 from (hnx (S n)).1, ih]
  have hSA : ∀ n k, ∃ R, (S (n + k)).A = (S n).A ++ R := by
    intro n k
    induction k with
    | zero => exact ⟨[], by simp⟩
    | succ k ih =>
      obtain ⟨R, e⟩ := ih
      obtain ⟨R', e'⟩ := (hnx (S (n + k))).2
      exact ⟨R ++ R', by rw [show (S (n + (k + 1))).A = (nx (S (n + k))).A from rfl, e', e, List.append_assoc]⟩
  -- the tape that goes the whole path
  have hT : ∃ T : Nat → Question → Nat, ∀ n, Ag (S n).A T 0 := by
    refine ⟨fun j => open Classical in if h : ∃ n, j < (S n).A.length then (S (Classical.choose h)).A.getD j (fun _ => 0) else fun _ => 0, fun n j q hj => ?_⟩
    have hx : ∃ n, j < (S n).A.length := ⟨n, hj⟩
    simp only [Nat.zero_add, hx, dif_pos]
    have hj2 := Classical.choose_spec hx
    generalize Classical.choose hx = m at hj2
    rcases Nat.le_total m n with h | h
    · obtain ⟨R, e⟩ := hSA m (n - m)
      rw [show m + (n - m) = n by omega] at e
      rw [e]
      simp [List.getD_eq_getElem?_getD, List.getElem?_append_left hj2]
    · obtain ⟨R, e⟩ := hSA n (m - n)
      rw [show n + (m - n) = m by omega] at e
      rw [e]
      simp [List.getD_eq_getElem?_getD, List.getElem?_append_left hj]
  obtain ⟨T, hT⟩ := hT
  -- on that tape the view arrives at a point of the path
  obtain ⟨n, f, w₁, hq, hn⟩ := hwp T 0
  have hr := (S n).reach T 0 (hT n)
  rw [hSi n, hn] at hr
  simp only [Stepped.next.injEq] at hr
  obtain ⟨e1, e2, _⟩ := lone_inj hr
  exact (S n).not_stop H hA hwp (by rw [← e1, ← e2]; exact hA.stop f w₁ hq)
end

/-! ### the two ways to use it -/
theorem frame_base {b f : Frame} {k : List Item} {x : Array Value} {m : FrameMode} (hfn : f.fn = b.fn) (hk : f.kind = b.kind) (hd : f.defers = []) (hr : f.roundOf = none) (ht : f.todo = k) (hx : f.tmps = x) (hm : f.mode = m) :
    f = { b.at ⟨x, []⟩ k with mode := m } := by
  obtain ⟨a1, a2, a3, a4, a5, a6, a7⟩ := f
  simp only at hfn hk hd hr ht hx hm
  subst hfn hk hd hr ht hx hm
  rfl

/-- Where the true goroutine stands when the text has been left. -/
def StopT (C : Cx) (Q : Exit → Act → World → Prop) (b : Frame) (k : List Item) (cs : List Frame) : Ren → Goroutine → World → Prop := fun q g w' =>
  ∃ e a₁ w₁ a₁', Q e a₁ w₁ ∧ ASame C q a₁.tmps a₁'.tmps ∧ a₁'.defers = [] ∧ WRel C q w₁ w' ∧
    ((e = .normal ∧ g = rec' (b.at a₁' k) cs) ∨ (e = .ret ∧ ∃ todo, g = rec' { b.at a₁' todo with mode := .returning } cs))


section
variable {P : Program} {L : List FuncId} {C : Cx}
theorem RI.mono {main : Bool} {S S' : Ren → Goroutine → World → Prop} (h : ∀ p g w, S p g w → S' p g w) {p : Ren} {g : Goroutine} {w : World} (hr : RI P C main S p g w) : RI P C main S' p g w := by
  induction hr with
  | stop hs => exact .stop fun w₁ hr => h _ _ _ (hs w₁ hr)
  | step nx h1 h2 _ ih => exact .step nx h1 h2 ih

/-- ████ A piece of text. ████ -/
theorem mirror {Q : Exit → Act → World → Prop} {a a' : Act} {w₀ w' : World} {c : Code} {b : Frame} {kt : List Item} {ct : List Frame} {main : Bool} {p : Ren} (H : ListOk P C L) (hbf : FnRes P b.fn) (hbk : b.kind ≠ .early) (hc : codeOk P L c = true)
    (hQ : ∀ e a w, Q e a w → (e = .normal ∨ e = .ret) ∧ a.defers = []) (hwp : ∀ T d, c.wp P Q a (World.tp w₀ T d)) (ha : ASame C p a.tmps a'.tmps) (hd : a.defers = []) (hd' : a'.defers = []) (hw : WRel C p w₀ w') :
    RI P C main (StopT C Q b kt ct) p (rec' (b.at a' (.code c :: kt)) ct) w' := by
  let Arr : Frame → World → Prop := fun f w₁ => ∃ e a₁, Q e a₁ w₁ ∧ ((e = .normal ∧ f = (base0 b.fn).at a₁ kv0) ∨ (e = .ret ∧ ∃ todo, f = { (base0 b.fn).at a₁ todo with mode := .returning }))
  have hA : ArrOk P b.fn Arr := by
    refine ⟨?_, ?_, ?_, ?_, hbf⟩ <;> rintro f w ⟨e, a₁, hq, ⟨_, rfl⟩ | ⟨_, todo, rfl⟩⟩
    · exact ⟨rfl, .inr ⟨rfl, rfl⟩⟩
    · exact ⟨rfl, .inl rfl⟩
    · rfl
    · rfl
    · rfl
    · rfl
    · exact (hQ _ _ _ hq).2
    · exact (hQ _ _ _ hq).2
  have hArr : Arrs P Arr ((base0 b.fn).at a (.code c :: kv0)) w₀ := by
    intro T d
    obtain ⟨e, a₁, w₁, hq, ha⟩ := hwp T d (base0 b.fn) kv0 [sent P]
    rcases (hQ _ _ _ hq).1 with rfl | rfl
    · obtain ⟨n, hn⟩ := ha
      exact ⟨n, _, w₁, ⟨_, a₁, hq, .inl ⟨rfl, rfl⟩⟩, hn⟩
    · obtain ⟨todo, n, hn⟩ := ha
      exact ⟨n, _, w₁, ⟨_, a₁, hq, .inr ⟨rfl, todo, rfl⟩⟩, hn⟩
  refine RI.mono ?_ (mirrorG (B := (b.fn, b.kind)) (K := kv0) (kt := kt) H (.inl rfl) hA hArr
    (.base (items := [.code c]) ⟨rfl, hbf, ha, rfl, rfl, fun x hx => by simp only [List.mem_cons, List.not_mem_nil, or_false] at hx; subst hx; exact hc, hd, hd', rfl, .inl rfl, rfl, hbk, rfl, rfl⟩ rfl rfl) hw)
  rintro q g w₂ ⟨f, f', w₁, ⟨e, a₁, hq, he⟩, hgr, hwr, rfl⟩
  generalize hl : [sent P] = l at hgr
  generalize hl' : ct = l' at hgr
  cases hgr with
  | base h hB1 hB2 =>
    rename_i items
    have htm := h.tmps
    rcases he with ⟨rfl, rfl⟩ | ⟨rfl, todo, rfl⟩
    · have : items = [] := by
        have := h.tv
        simp only [Frame.at, kv0] at this
        cases items with
        | nil => rfl
        | cons x items => exfalso; have := congrArg List.length this; simp at this
      subst this
      exact ⟨_, a₁, w₁, ⟨f'.tmps, []⟩, hq, htm, rfl, hwr, .inl ⟨rfl, congrArg (fun f => rec' f _) (frame_base hB1 hB2 h.dt h.rt h.tt rfl h.mode)⟩⟩
    · exact ⟨_, a₁, w₁, ⟨f'.tmps, []⟩, hq, htm, rfl, hwr, .inr ⟨rfl, _, congrArg (fun f => rec' f _) (frame_base hB1 hB2 h.dt h.rt rfl rfl h.mode)⟩⟩
  | up h _ hc => subst hl; cases hc with | up _ _ _ hc' => cases hc'

/-- Where the true goroutine stands when the call is about to return. -/
def StopC (P : Program) (C : Cx) (R : Value → World → Prop) (ct : List Frame) : Ren → Goroutine → World → Prop := fun q g w' =>
  ∃ v v' w₁ f' fn, R v w₁ ∧ VRel C q v v' ∧ WRel C q w₁ w' ∧ g = rec' f' ct ∧ f'.mode = .returning ∧ f'.defers = [] ∧ f'.kind = .normal ∧ P.funcs[f'.fn]? = some fn ∧ ∀ w es, (results fn f'.tmps).runT P w es = (.ok v' w, es)

/-- ████ A call. ████ -/
theorem mirrorC {R : Value → World → Prop} {f : FuncId} {x x' : Array Value} {w₀ w' : World} {ct : List Frame} {main : Bool} {p : Ren} (H : ListOk P C L) (hf : C.F f)
    (hcl : ∀ T d, Calls P f x (World.tp w₀ T d) (fun | .returned v, w₁ => R v w₁ | _, _ => False)) (ha : ASame C p x x') (hw : WRel C p w₀ w') :
    RI P C main (StopC P C R ct) p (rec' (Frame.enter P f x' .normal) ct) w' := by
  obtain ⟨fn, c, hfn, hb, hc, hres, _⟩ := H.fn hf
  let Arr : Frame → World → Prop := fun f₁ w₁ => f₁.fn = f ∧ ∃ v, R v w₁ ∧ f₁.leaving P w₁ (.returned v)
  have hA : ArrOk P f Arr := by
    refine ⟨?_, ?_, ?_, ?_, fn, hfn, hres⟩ <;> rintro f₁ w ⟨h1, v, _, h2, h3, h4, _⟩
    · exact ⟨rfl, .inl h2⟩
    · exact h1
    · exact h4
    · exact h3
  have hArr : Arrs P Arr (Frame.enter P f x .normal) w₀ := by
    intro T d
    obtain ⟨e, w₁, fr, hR, hcm, h1, h2⟩ := hcl T d [sent P]
    cases e with
    | returned v => obtain ⟨n, hn⟩ := hcm; exact ⟨n, fr, w₁, ⟨h1, v, hR, h2⟩, hn⟩
    | _ => exact hR.elim
  have hfr : FRel P L C p [] [] [.code c] (Frame.enter P f x .normal) (Frame.enter P f x' .normal) := by
    refine ⟨rfl, ⟨fn, hfn, hres⟩, ?_, ?_, ?_, ?_, rfl, rfl, rfl, .inl rfl, rfl, by simp [Frame.enter], rfl, rfl⟩
    · unfold Frame.enter
      simp only [← ha.size]
      exact ha.append (.replicate undef_rel _)
    · simp [Frame.enter, hfn, hb]
    · simp [Frame.enter, hfn, hb]
    · intro z hz
      simp only [List.mem_cons, List.not_mem_nil, or_false] at hz
      subst hz; exact hc
  refine RI.mono ?_ (mirrorG (B := (f, .normal)) (K := []) (kt := []) H (.inr ⟨rfl, rfl⟩) hA hArr (.base hfr rfl rfl) hw)
  rintro q g w₂ ⟨f₁, f', w₁, ⟨e1, v, hR, hm, hd, hk, fn', hfn', hr⟩, hgr, hwr, rfl⟩
  generalize hl : [sent P] = l at hgr
  generalize hl' : ct = l' at hgr
  cases hgr with
  | base h hB1 hB2 =>
    obtain ⟨u, u', h1, h2, hu⟩ := results_rel (P := P) hres h.tmps
    have hff : fn' = fn := by rw [e1, hfn] at hfn'; exact (Option.some.inj hfn').symm
    subst hff
    have huv : u = v := by
      have := h1 w₁ #[]
      rw [Sem.runT_eq, hr] at this
      simp only [Prod.mk.injEq, Result.ok.injEq] at this
      exact this.1.1.symm
    subst huv
    exact ⟨u, u', w₁, f', fn', hR, hu, hwr, rfl, by rw [h.mode]; exact hm, h.dt, hB2, by rw [hB1]; exact hfn, h2⟩
  | up h _ hc => subst hl; cases hc with | up _ _ _ hc' => cases hc'
end
end Go.Proofs.Ytfecdmenliohhaa
