/- The view's lone run: it goes the way of the steps, whatever its tape; once astray, or come back to the sentinel, it is never seen again at its text. Plain. -/
import Derived.Test.YtfecdmenliohhaaQLe3
set_option linter.unusedVariables false
set_option linter.unusedSimpArgs false
set_option linter.unusedSimpArgs false
set_option linter.unusedVariables false
namespace Go.Proofs.Ytfecdmenliohhaa
open Go

section
variable {P : Program} {L : List FuncId} {C : Cx} {B : FuncId × CallKind} {K kt : List Item} {ct : List Frame} {p : Ren} {f f' : Frame} {l l' : List Frame} {w w₁ w' : World}

theorem step_of_go {f₁ : Frame} {l₁ : List Frame} {es : Array Event} (h : stepG P true (rec' f l) w = .go (rec' f₁ l₁) w₁ es) : step P (lone f l w) = .next (lone f₁ l₁ w₁) :=
  step_lone_go (by
    show (stepG P true (rec' f l) w).bare = _
    rw [h]; rfl)
theorem step_of_ended {o : Outcome} {w₂ : World} {es : Array Event} (h : stepG P true (rec' f l) w = .ended o w₂ es) : step P (lone f l w) = .ended o w₂ :=
  step_lone_ended (by
    show (stepG P true (rec' f l) w).bare = _
    rw [h]; rfl)
theorem lone_inj {w₂ : World} {f₂ : Frame} {l₂ : List Frame} (h : lone f l w = lone f₂ l₂ w₂) : f = f₂ ∧ l = l₂ ∧ w = w₂ := by
  unfold lone at h
  simp only [Machine.mk.injEq] at h
  obtain ⟨h1, h2, _⟩ := h
  have : (#[({ frame := f, callers := l, status := .running, dying := none } : Goroutine)])[0]? = (#[({ frame := f₂, callers := l₂, status := .running, dying := none } : Goroutine)])[0]? := by rw [h2]
  simp at this
  exact ⟨this.1, this.2, h1⟩

/-- It is never seen again at a text. -/
def Never (P : Program) (m : Machine) : Prop := ∀ n f l w, runN P n m = .next (lone f l w) → (∃ ch, f.mode = .panicking ch) ∨ f.fn = P.funcs.size

theorem Never.of_ended {m : Machine} {o : Outcome} {w₂ : World} (h : step P m = .ended o w₂) (h0 : ∀ f l w, m = lone f l w → (∃ ch, f.mode = .panicking ch) ∨ f.fn = P.funcs.size) : Never P m := by
  intro n f l w e
  cases n with
  | zero => simp only [runN, Stepped.next.injEq] at e; exact h0 f l w e
  | succ n => simp only [runN, h] at e; cases e
theorem Never.of_next {m m₁ : Machine} (h : step P m = .next m₁) (h1 : Never P m₁) (h0 : ∀ f l w, m = lone f l w → (∃ ch, f.mode = .panicking ch) ∨ f.fn = P.funcs.size) : Never P m := by
  intro n f l w e
  cases n with
  | zero => simp only [runN, Stepped.next.injEq] at e; exact h0 f l w e
  | succ n => simp only [runN, h] at e; exact h1 n f l w e

/-- The frames that wait in the view: none defers; the sentinel is the last. -/
inductive PL (P : Program) : List Frame → Prop
  | sent : PL P [sent P]
  | cons {f : Frame} {l : List Frame} : f.defers = [] → f.mode = .run → (∃ fn, P.funcs[f.fn]? = some fn) → PL P l → PL P (f :: l)
theorem CRel.pl (H : ListOk P C L) (h : CRel P L C B K kt ct p l l') : PL P l := by
  induction h with
  | base h m _ _ => obtain ⟨fn, e, _⟩ := h.ok; exact .cons h.dv m ⟨fn, e⟩ .sent
  | up h m _ _ ih => obtain ⟨fn, e, _⟩ := h.ok; exact .cons h.dv m ⟨fn, e⟩ ih
theorem GRel.pl (H : ListOk P C L) (h : GRel P L C B K kt ct p f l f' l') : PL P l := by
  cases h with
  | base _ _ _ => exact .sent
  | up _ _ h => exact h.pl H
theorem GRel.fnOf (H : ListOk P C L) (h : GRel P L C B K kt ct p f l f' l') : (∃ fn, P.funcs[f.fn]? = some fn) ∧ f.defers = [] ∧ (f.mode = .run ∨ f.mode = .returning) := by
  cases h with
  | base h _ _ => obtain ⟨fn, e, _⟩ := h.ok; exact ⟨⟨fn, e⟩, h.dv, h.live⟩
  | up h _ _ => obtain ⟨fn, e, _⟩ := h.ok; exact ⟨⟨fn, e⟩, h.dv, h.live⟩

theorem sent_none : P.funcs[(sent P).fn]? = none := by simp [sent]
theorem never_sentP (ch : List PanicEntry) (w : World) : Never P (lone { sent P with mode := .panicking ch } [] w) := by
  have hst : ∃ o w₂ es, stepG P true (rec' { sent P with mode := .panicking ch } []) w = .ended o w₂ es := by
    simp [stepG, rec', unwind, sent, callDeferred]
  obtain ⟨o, w₂, es, e⟩ := hst
  refine Never.of_ended (step_of_ended e) (fun f l w e => ?_)
  obtain ⟨rfl, _, _⟩ := lone_inj e; exact .inl ⟨ch, rfl⟩
theorem never_sentR (v : Value) (w : World) : Never P (lone ((sent P).finish v) [] w) := by
  have hst : ∃ o w₂ es, stepG P true (rec' ((sent P).finish v) []) w = .ended o w₂ es := by
    have : (sent P).finish v = sent P := rfl
    rw [this, stepG_run true rfl]
    simp [stepG.exec, sent, kv0]
  obtain ⟨o, w₂, es, e⟩ := hst
  refine Never.of_ended (step_of_ended e) (fun f l w e => ?_)
  obtain ⟨rfl, _, _⟩ := lone_inj e; exact .inr rfl
theorem never_panic : ∀ {l : List Frame}, PL P l → ∀ (f : Frame) (ch : List PanicEntry) (w : World), f.defers = [] → (∃ fn, P.funcs[f.fn]? = some fn) → Never P (lone { f with mode := .panicking ch } l w)
  | c :: l, h, f, ch, w, hd, ⟨fn, hf⟩ => by
    have hc : ∀ d, Frame.catches P { f with mode := .panicking ch, defers := d } = false := by
      intro d; unfold Frame.catches; simp only [hf]
    have hst : stepG P true (rec' { f with mode := .panicking ch } (c :: l)) w = .go (rec' (c.raise ch) l) w := by
      simp only [stepG, rec', unwind, hd, hc, Bool.false_eq_true, if_false]
    have h0 : ∀ g m w', lone { f with mode := .panicking ch } (c :: l) w = lone g m w' → (∃ ch, g.mode = .panicking ch) ∨ g.fn = P.funcs.size := fun g m w' e => by
      obtain ⟨rfl, _, _⟩ := lone_inj e; exact .inl ⟨ch, rfl⟩
    refine Never.of_next (step_of_go hst) ?_ h0
    cases h with
    | sent => exact never_sentP ch w
    | cons h1 h2 h3 h4 =>
      have : c.raise ch = { c with mode := .panicking ch } := by unfold Frame.raise; rw [h2]
      rw [this]
      exact never_panic h4 c ch w h1 h3

theorem never_astray {s : GStep} (hs : stepG P true (rec' f l) w = s) (ha : Astray P l s) (hl : PL P l) : ∀ n f₂ l₂ w₂, runN P (n + 1) (lone f l w) = .next (lone f₂ l₂ w₂) → (∃ ch, f₂.mode = .panicking ch) ∨ f₂.fn = P.funcs.size := by
  intro n f₂ l₂ w₂ e
  cases s with
  | ended o w₃ es => simp only [runN, step_of_ended hs] at e; cases e
  | go g w₃ es =>
    obtain ⟨f₃, ch, rfl, hd, hf⟩ := ha
    simp only [runN, step_of_go hs] at e
    exact never_panic hl f₃ ch w₃ hd hf n f₂ l₂ w₂ e
  | _ => exact ha.elim

/-- Behind its stop the view's run ends. -/
theorem results_any {fn : Func} (hr : resOk fn.results = true) (x : Array Value) : ∃ v, ∀ w es, (results fn x).runT P w es = (.ok v w, es) := by
  generalize hrs : fn.results = rs0 at hr
  obtain ⟨rs⟩ := rs0
  simp only [resOk, Bool.and_eq_true, decide_eq_true_eq, List.size_toArray] at hr
  obtain ⟨hl, ha⟩ := hr
  match rs, hl, ha with
  | [], _, _ => exact ⟨_, fun w es => by rw [Sem.runT_eq, results_none hrs _ P w, Conc.events_results_none hrs]⟩
  | [.tmp a], _, _ => exact ⟨_, fun w es => by rw [Sem.runT_eq, results_tmp hrs _ P w, Conc.events_results_tmp hrs]⟩
  | [.tmp a, .tmp b], _, _ => exact ⟨_, fun w es => by rw [Sem.runT_eq, results_tmp2 hrs _ P w, Conc.events_results_tmp2 hrs]⟩
  | [.tmp a, .tmp b, .tmp c], _, _ =>
    have ev : ∀ (tm : Array Value) (w : World) (es : Array Event), (results fn tm).events P w es = es := fun tm w es => by simp [results, hrs]
    exact ⟨_, fun w es => by rw [Sem.runT_eq, results_tmp3 hrs _ P w, ev]⟩
  | .cell _ _ :: _, _, ha => simp at ha
  | [.tmp _, .cell _ _], _, ha => simp at ha
  | [.tmp _, .tmp _, .cell _ _], _, ha => simp at ha
  | [.tmp _, .cell _ _, .tmp _], _, ha => simp at ha
  | [.tmp _, .cell _ _, .cell _ _], _, ha => simp at ha
  | _ :: _ :: _ :: _ :: _, hl, _ => simp at hl
theorem never_stop {fn : Func} (hf : P.funcs[f.fn]? = some fn) (hr : resOk fn.results = true) (hd : f.defers = []) (hk : f.kind = .normal) (hs : StopV P f l) :
    ∀ n f₂ l₂ w₂, runN P (n + 1) (lone f l w) = .next (lone f₂ l₂ w₂) → (∃ ch, f₂.mode = .panicking ch) ∨ f₂.fn = P.funcs.size := by
  intro n f₂ l₂ w₂ e
  obtain ⟨rfl, hs⟩ := hs
  rcases hs with hm | ⟨hm, ht⟩
  · obtain ⟨v, h1⟩ := results_any (P := P) hr f.tmps
    simp only [runN, step_of_go (stepG_ret true hm hd hk hf (h1 w #[]))] at e
    exact never_sentR v w n f₂ l₂ w₂ e
  · have : stepG P true (rec' f [sent P]) w = .ended (.unsupported (Unsupported.elab "") (f.pos P)) w := by
      rw [stepG_run true hm]
      simp [stepG.exec, ht, kv0]
    simp only [runN, step_of_ended this] at e; cases e
end
end Go.Proofs.Ytfecdmenliohhaa
