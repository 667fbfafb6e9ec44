/- ████ A lone contract of the view, for every tape, carries over to the true goroutine, in whatever company that leaves its blocks. ████ Plain. -/
import Derived.Test.YtfecdmenliohhaaQLe4
set_option linter.unusedVariables false
set_option linter.unusedSimpArgs false
set_option linter.unusedSimpArgs false
set_option linter.unusedVariables false
namespace Go.Proofs.Ytfecdmenliohhaa
open Go

/-- What the others may do: the blocks that are held stand; new ones may be made; the scheduler draws. -/
structure RelyX (p : Ren) (w w₁ : World) : Prop where
  tape : w₁.tape = w.tape
  held : ∀ b c, p b = some c → w₁.heap[c]? = w.heap[c]?
  size : w.heap.size ≤ w₁.heap.size
theorem RelyX.refl (p : Ren) (w : World) : RelyX p w w := ⟨rfl, fun _ _ _ => rfl, Nat.le_refl _⟩
theorem RelyX.trans {p : Ren} {w w₁ w₂ : World} (h : RelyX p w w₁) (k : RelyX p w₁ w₂) : RelyX p w w₂ := ⟨k.tape.trans h.tape, fun b c e => (k.held b c e).trans (h.held b c e), Nat.le_trans h.size k.size⟩
theorem WRel.rely {C : Cx} {p : Ren} {v w w₁ : World} (h : WRel C p v w) (k : RelyX p w w₁) : WRel C p v w₁ :=
  ⟨h.inj, fun b c e => let ⟨o, o', h1, h2, h3⟩ := h.obj b c e; ⟨o, o', h1, (k.held b c e).trans h2, h3⟩, h.gV, h.lockV, fun c hl => Nat.lt_of_lt_of_le (h.lockT c hl) k.size, h.shV, h.deadV⟩

/-- The true goroutine is on its way to a stop: well-founded, whatever the others do. -/
inductive RI (P : Program) (C : Cx) (main : Bool) (Stop : Ren → Goroutine → World → Prop) : Ren → Goroutine → World → Prop
  | stop {p : Ren} {g : Goroutine} {w : World} : (∀ w₁, RelyX p w w₁ → Stop p g w₁) → RI P C main Stop p g w
  | step {p : Ren} {g : Goroutine} {w : World} (nx : World → Ren × Goroutine × World) : g.status = .running →
      (∀ w₁, RelyX p w w₁ → ∃ es, stepG P main g w₁ = .go (nx w₁).2.1 (nx w₁).2.2 es ∧ RLe p (nx w₁).1 ∧ Kept C p (nx w₁).1 w₁ (nx w₁).2.2 ∧ ∀ e ∈ es, EvOk C (nx w₁).1 e) →
      (∀ w₁, RelyX p w w₁ → RI P C main Stop (nx w₁).1 (nx w₁).2.1 (nx w₁).2.2) → RI P C main Stop p g w
open Classical in
theorem RI.mk {P : Program} {C : Cx} {main : Bool} {Stop : Ren → Goroutine → World → Prop} {p : Ren} {g : Goroutine} {w : World} (hs : g.status = .running)
    (h : ∀ w₁, RelyX p w w₁ → ∃ g' w' es q, stepG P main g w₁ = .go g' w' es ∧ RLe p q ∧ Kept C p q w₁ w' ∧ (∀ e ∈ es, EvOk C q e) ∧ RI P C main Stop q g' w') : RI P C main Stop p g w := by
  have h' : ∀ w₁, ∃ x : Ren × Goroutine × World, RelyX p w w₁ → (∃ es, stepG P main g w₁ = .go x.2.1 x.2.2 es ∧ RLe p x.1 ∧ Kept C p x.1 w₁ x.2.2 ∧ ∀ e ∈ es, EvOk C x.1 e) ∧ RI P C main Stop x.1 x.2.1 x.2.2 := by
    intro w₁
    by_cases hr : RelyX p w w₁
    · obtain ⟨g', w', es, q, h1, h2, h3, h4, h5⟩ := h w₁ hr
      exact ⟨(q, g', w'), fun _ => ⟨⟨es, h1, h2, h3, h4⟩, h5⟩⟩
    · exact ⟨(p, g, w), fun h => absurd h hr⟩
  exact .step (fun w₁ => Classical.choose (h' w₁)) hs (fun w₁ hr => (Classical.choose_spec (h' w₁) hr).1) (fun w₁ hr => (Classical.choose_spec (h' w₁) hr).2)

/-- The view's last frame. -/
def base0 (fn : FuncId) : Frame := { fn, tmps := #[], todo := [], defers := [], mode := .run, kind := .normal }

abbrev Ans := List (Question → Nat)
def Ag (A : Ans) (T : Nat → Question → Nat) (d : Nat) : Prop := ∀ j q, j < A.length → T (d + j) q = A.getD j (fun _ => 0) q
theorem Ag.left {A L : Ans} {T : Nat → Question → Nat} {d : Nat} (h : Ag (A ++ L) T d) : Ag A T d := fun j q hj => by
  rw [h j q (by simp; omega)]
  simp [List.getD_eq_getElem?_getD, List.getElem?_append_left hj]
theorem Ag.right {A L : Ans} {T : Nat → Question → Nat} {d : Nat} (h : Ag (A ++ L) T d) : Ag L T (d + A.length) := fun j q hj => by
  have := h (A.length + j) q (by simp; omega)
  rw [show d + A.length + j = d + (A.length + j) by omega, this]
  simp [List.getD_eq_getElem?_getD, List.getElem?_append_right]

/-- How the view arrives: a predicate on its last frame, at one of its stops. -/
structure ArrOk (P : Program) (fn0 : FuncId) (A : Frame → World → Prop) : Prop where
  stop : ∀ f w, A f w → StopV P f [sent P]
  fn : ∀ f w, A f w → f.fn = fn0
  kind : ∀ f w, A f w → f.kind = .normal
  defers : ∀ f w, A f w → f.defers = []
  res : FnRes P fn0
/-- The true goroutine's stop: alike to the view's. -/
def StopG (P : Program) (L : List FuncId) (C : Cx) (B : FuncId × CallKind) (K kt : List Item) (ct : List Frame) (A : Frame → World → Prop) : Ren → Goroutine → World → Prop := fun q g w' =>
  ∃ f f' w₁, A f w₁ ∧ GRel P L C B K kt ct q f [sent P] f' ct ∧ WRel C q w₁ w' ∧ g = rec' f' ct

section
variable (P : Program) (L : List FuncId) (C : Cx) (Arr : Frame → World → Prop) (B : FuncId × CallKind) (f₀ : Frame) (w₀ : World) (K kt : List Item) (ct : List Frame) (main : Bool)

/-- A point of a path along which the true goroutine is not on its way. -/
structure Node where
  i : Nat
  A : Ans
  p : Ren
  f : Frame
  l : List Frame
  w : World
  f' : Frame
  l' : List Frame
  w' : World
  grel : GRel P L C B K kt ct p f l f' l'
  wrel : WRel C p w w'
  reach : ∀ T d, Ag A T d → runN P i (lone f₀ [sent P] (World.tp w₀ T d)) = .next (lone f l (World.tp w T (d + A.length)))
  bad : ¬ RI P C main (StopG P L C B K kt ct Arr) p (rec' f' l') w'
end

section
variable {P : Program} {L : List FuncId} {C : Cx} {Arr : Frame → World → Prop} {B : FuncId × CallKind} {f₀ : Frame} {w₀ : World} {K kt : List Item} {ct : List Frame} {main : Bool} {fn0 : FuncId}

theorem GRel.info {p : Ren} {f f' : Frame} {l l' : List Frame} (h : GRel P L C B K kt ct p f l f' l') : f.kind = .normal ∧ ∃ fn, P.funcs[f.fn]? = some fn ∧ resOk fn.results = true := by
  cases h with
  | base h _ _ => obtain ⟨fn, e1, e2⟩ := h.ok; exact ⟨h.kV, fn, e1, e2⟩
  | up h _ _ => obtain ⟨fn, e1, e2⟩ := h.ok; exact ⟨h.kV, fn, e1, e2⟩

/-- The view arrives, whatever its tape. -/
def Arrs (P : Program) (Arr : Frame → World → Prop) (f₀ : Frame) (w₀ : World) : Prop := ∀ T d, ∃ n f w₁, Arr f w₁ ∧ runN P n (lone f₀ [sent P] (World.tp w₀ T d)) = .next (lone f [sent P] w₁)

/-- Where the view goes on, it has not arrived yet. -/
theorem runN_later {m m₁ m₂ : Machine} {i n : Nat} (hi : runN P i m = .next m₁) (hn : runN P n m = .next m₂) (h : i ≤ n) : runN P (n - i) m₁ = .next m₂ := by
  have := runN_add P i (n - i) m
  rw [show i + (n - i) = n by omega, hi, hn] at this
  exact this.symm

/-- At a point of the path the view has not gone beyond its arrival. -/
theorem Node.arr (H : ListOk P C L) (hA : ArrOk P fn0 Arr) (hwp : Arrs P Arr f₀ w₀) (N : Node P L C Arr B f₀ w₀ K kt ct main) (T : Nat → Question → Nat) (d : Nat) (hT : Ag N.A T d) :
    ∃ n f w₁, Arr f w₁ ∧ runN P n (lone N.f N.l (World.tp N.w T (d + N.A.length))) = .next (lone f [sent P] w₁) := by
  obtain ⟨n, f, w₁, hq, hn⟩ := hwp T d
  obtain ⟨fn, hfn, hres⟩ := hA.res
  have hi := N.reach T d hT
  rcases Nat.lt_or_ge n N.i with hlt | hge
  · -- it had arrived before: it cannot stand at a point of the path
    exfalso
    obtain ⟨k, hk⟩ : ∃ k, N.i - n = k + 1 := ⟨N.i - n - 1, by omega⟩
    have hl := runN_later hn hi (by omega)
    rw [hk] at hl
    have hg := N.grel.fnOf H
    rcases never_stop (f := f) (by rw [hA.fn f w₁ hq]; exact hfn) hres (hA.defers f w₁ hq) (hA.kind f w₁ hq) (hA.stop f w₁ hq) k _ _ _ hl with ⟨ch, hp⟩ | hp
    · rcases hg.2.2 with hm | hm <;> rw [hm] at hp <;> cases hp
    · obtain ⟨fn', hf'⟩ := hg.1
      rw [hp] at hf'; simp at hf'
  · exact ⟨n - N.i, f, w₁, hq, runN_later hi hn hge⟩

/-- A tape that begins with these answers. -/
theorem ag_begin (A : Ans) (S : Nat → Question → Nat) : ∃ T : Nat → Question → Nat, Ag A T 0 ∧ ∀ j q, T (A.length + j) q = S j q := by
  refine ⟨fun j q => if j < A.length then A.getD j (fun _ => 0) q else S (j - A.length) q, fun j q hj => ?_, fun j q => ?_⟩
  · simp only [Nat.zero_add, hj, if_true]
  · have : ¬ A.length + j < A.length := by omega
    simp only [this, if_false]
    congr 1; omega

theorem ArrOk.live (hA : ArrOk P fn0 Arr) {f : Frame} {w : World} (h : Arr f w) : (f.mode = .run ∨ f.mode = .returning) ∧ ∃ fn, P.funcs[f.fn]? = some fn := by
  obtain ⟨fn, hfn, _⟩ := hA.res
  refine ⟨?_, fn, by rw [hA.fn f w h]; exact hfn⟩
  rcases (hA.stop f w h).2 with h | h
  · exact .inr h
  · exact .inl h.1

/-- At its stop the true goroutine has come to its own. -/
theorem Node.not_stop (H : ListOk P C L) (hA : ArrOk P fn0 Arr) (hwp : Arrs P Arr f₀ w₀) (N : Node P L C Arr B f₀ w₀ K kt ct main) : ¬ StopV P N.f N.l := by
  intro hs
  obtain ⟨T, hT, _⟩ := ag_begin N.A (fun _ _ => 0)
  obtain ⟨n, f, w₁, hq, hn⟩ := N.arr H hA hwp T 0 hT
  have hg := N.grel.fnOf H
  obtain ⟨hlive, fn, hfn⟩ := hA.live hq
  cases n with
  | succ n =>
    -- it would have to come back
    obtain ⟨hk, fn', hfn', hres'⟩ := N.grel.info
    rcases never_stop hfn' hres' hg.2.1 hk hs n _ _ _ hn with ⟨ch, hp⟩ | hp
    · rcases hlive with hm | hm <;> rw [hm] at hp <;> cases hp
    · rw [hp] at hfn; simp at hfn
  | zero =>
    simp only [runN, Stepped.next.injEq] at hn
    obtain ⟨e1, e2, e3⟩ := lone_inj hn
    refine N.bad (.stop fun w₂ hr => ?_)
    have hgr := N.grel
    have hwr := (N.wrel.rely hr).draws w₁.drawn w₂.drawn w₁.tape w₂.tape
    have hwv : ({ N.w with drawn := w₁.drawn, tape := w₁.tape } : World) = w₁ := by rw [← e3]; rfl
    rw [hwv] at hwr
    rw [e1, e2] at hgr
    generalize N.f' = f' at hgr
    generalize N.l' = l' at hgr
    cases hgr with
    | base h hB1 hB2 => exact ⟨f, f', w₁, hq, .base h hB1 hB2, hwr, rfl⟩
    | up h _ hc => cases hc with | up _ _ _ hc' => cases hc'

/-- ████ From each point of the path to the next. ████ -/
theorem Node.next (H : ListOk P C L) (hK : K = kv0 ∨ (K = [] ∧ kt = [])) (hA : ArrOk P fn0 Arr) (hwp : Arrs P Arr f₀ w₀) (N : Node P L C Arr B f₀ w₀ K kt ct main) :
    ∃ N' : Node P L C Arr B f₀ w₀ K kt ct main, N'.i = N.i + 1 ∧ ∃ R, N'.A = N.A ++ R := by
  have hns := N.not_stop H hA hwp
  -- the others do what leads it astray
  have hno : ∃ w₁, RelyX N.p N.w' w₁ ∧ ¬ ∃ g' w' es q, stepG P main (rec' N.f' N.l') w₁ = .go g' w' es ∧ RLe N.p q ∧ Kept C N.p q w₁ w' ∧ (∀ e ∈ es, EvOk C q e) ∧ RI P C main (StopG P L C B K kt ct Arr) q g' w' := by
    refine Classical.byContradiction fun hn => N.bad (.mk rfl fun w₁ hr => Classical.byContradiction fun hx => hn ⟨w₁, hr, hx⟩)
  obtain ⟨w₁, hrel, hno⟩ := hno
  obtain ⟨T, hT, hTr⟩ := ag_begin N.A (fun j q => w₁.tape (w₁.drawn + j) q)
  have hwr : WRel C N.p (World.tp N.w T N.A.length) w₁ := (N.wrel.rely hrel).draws N.A.length w₁.drawn T w₁.tape
  have hstep := N.grel.step H hK hwr hns
  -- the view's step is a good one
  have hgood : ∃ f₁ l₁ v₁, StepGood P L C B K kt ct N.p N.f N.l N.f' N.l' (World.tp N.w T N.A.length) w₁ f₁ l₁ v₁ := by
    rcases hstep with ha | hg
    · exfalso
      obtain ⟨n, f, v, hq, hn⟩ := N.arr H hA hwp T 0 hT
      rw [Nat.zero_add] at hn
      obtain ⟨hlive, fn, hfn⟩ := hA.live hq
      cases n with
      | zero =>
        simp only [runN, Stepped.next.injEq] at hn
        obtain ⟨e1, e2, _⟩ := lone_inj hn
        exact hns (by rw [e1, e2]; exact hA.stop f v hq)
      | succ n =>
        rcases never_astray rfl ha (N.grel.pl H) n _ _ _ hn with ⟨ch, hp⟩ | hp
        · rcases hlive with hm | hm <;> rw [hm] at hp <;> cases hp
        · rw [hp] at hfn; simp at hfn
    · exact hg
  obtain ⟨f₁, l₁, v₁, hg⟩ := hgood
  have hAg : Agree (World.tp N.w T N.A.length) v₁ w₁ := fun j q _ => (hTr j q).symm
  obtain ⟨q, f₁', l₁', w₁', es, e1, e2, e3, e4, e5, e6, e7⟩ := hg.true_ hAg main
  have hlen : (World.tp N.w T N.A.length).drawn = N.A.length := rfl
  refine ⟨⟨N.i + 1, N.A ++ (List.range (v₁.drawn - N.A.length)).map (fun j q => T (N.A.length + j) q), q, f₁, l₁, v₁, f₁', l₁', w₁', e3, e4, fun T' d' hT' => ?_, fun hRI => hno ⟨_, _, es, q, e1, e2, e5, e7, hRI⟩⟩, rfl, _, rfl⟩
  have h1 := N.reach T' d' hT'.left
  obtain ⟨es', h2⟩ := hg.view T' (d' + N.A.length) (fun j q hj => by
    have hj' : j < v₁.drawn - N.A.length := hj
    have := hT'.right j q (by simpa using hj')
    rw [this]
    simp only [List.getD_eq_getElem?_getD, List.getElem?_map, List.getElem?_range hj', Option.map_some, Option.getD_some]
    rfl)
  rw [runN_add, h1]
  show runN P 1 (lone N.f N.l (World.tp N.w T' (d' + N.A.length))) = _
  have h3 : step P (lone N.f N.l (World.tp N.w T' (d' + N.A.length))) = .next (lone f₁ l₁ (World.tp v₁ T' (d' + N.A.length + (v₁.drawn - N.A.length)))) := step_of_go h2
  simp only [runN, h3, List.length_append, List.length_map, List.length_range, hlen, Nat.add_assoc]

/-- ████████ THE MIRROR: what the view does on every tape, the true goroutine does in whatever company that leaves its blocks. ████████ -/
theorem mirrorG (H : ListOk P C L) (hK : K = kv0 ∨ (K = [] ∧ kt = [])) (hA : ArrOk P fn0 Arr) (hwp : Arrs P Arr f₀ w₀) {p : Ren} {f' : Frame} {w' : World} (hg : GRel P L C B K kt ct p f₀ [sent P] f' ct) (hw : WRel C p w₀ w') :
    RI P C main (StopG P L C B K kt ct Arr) p (rec' f' ct) w' := by
  refine Classical.byContradiction fun hbad => ?_
  -- the first point
  let N0 : Node P L C Arr B f₀ w₀ K kt ct main := ⟨0, [], p, f₀, [sent P], w₀, f', ct, w', hg, hw, fun T d _ => rfl, hbad⟩
  let nx : Node P L C Arr B f₀ w₀ K kt ct main → Node P L C Arr B f₀ w₀ K kt ct main := fun N => Classical.choose (N.next H hK hA hwp)
  have hnx : ∀ N, (nx N).i = N.i + 1 ∧ ∃ R, (nx N).A = N.A ++ R := fun N => Classical.choose_spec (N.next H hK hA hwp)
  let S : Nat → Node P L C Arr B f₀ w₀ K kt ct main := fun n => Nat.rec N0 (fun _ N => nx N) n
  have hSi : ∀ n, (S n).i = n := by
    intro n
    induction n with
    | zero => rfl
    | succ n ih => rw [show (S (n + 1)).i = (S n).i + 1 from (hnx (S n)).1, ih]
  have hSA : ∀ n k, ∃ R, (S (n + k)).A = (S n).A ++ R := by
    intro n k
    induction k with
    | zero => exact ⟨[], by simp⟩
    | succ k ih =>
      obtain ⟨R, e⟩ := ih
      obtain ⟨R', e'⟩ := (hnx (S (n + k))).2
      exact ⟨R ++ R', by rw [show (S (n + (k + 1))).A = (nx (S (n + k))).A from rfl, e', e, List.append_assoc]⟩
  -- the tape that goes the whole path
  have hT : ∃ T : Nat → Question → Nat, ∀ n, Ag (S n).A T 0 := by
    refine ⟨fun j => open Classical in if h : ∃ n, j < (S n).A.length then (S (Classical.choose h)).A.getD j (fun _ => 0) else fun _ => 0, fun n j q hj => ?_⟩
    have hx : ∃ n, j < (S n).A.length := ⟨n, hj⟩
    simp only [Nat.zero_add, hx, dif_pos]
    have hj2 := Classical.choose_spec hx
    generalize Classical.choose hx = m at hj2
    rcases Nat.le_total m n with h | h
    · obtain ⟨R, e⟩ := hSA m (n - m)
      rw [show m + (n - m) = n by omega] at e
      rw [e]
      simp [List.getD_eq_getElem?_getD, List.getElem?_append_left hj2]
    · obtain ⟨R, e⟩ := hSA n (m - n)
      rw [show n + (m - n) = m by omega] at e
      rw [e]
      simp [List.getD_eq_getElem?_getD, List.getElem?_append_left hj]
  obtain ⟨T, hT⟩ := hT
  -- on that tape the view arrives at a point of the path
  obtain ⟨n, f, w₁, hq, hn⟩ := hwp T 0
  have hr := (S n).reach T 0 (hT n)
  rw [hSi n, hn] at hr
  simp only [Stepped.next.injEq] at hr
  obtain ⟨e1, e2, _⟩ := lone_inj hr
  exact (S n).not_stop H hA hwp (by rw [← e1, ← e2]; exact hA.stop f w₁ hq)
end

/-! ### the two ways to use it -/
theorem frame_base {b f : Frame} {k : List Item} {x : Array Value} {m : FrameMode} (hfn : f.fn = b.fn) (hk : f.kind = b.kind) (hd : f.defers = []) (hr : f.roundOf = none) (ht : f.todo = k) (hx : f.tmps = x) (hm : f.mode = m) :
    f = { b.at ⟨x, []⟩ k with mode := m } := by
  obtain ⟨a1, a2, a3, a4, a5, a6, a7⟩ := f
  simp only at hfn hk hd hr ht hx hm
  subst hfn hk hd hr ht hx hm
  rfl

/-- Where the true goroutine stands when the text has been left. -/
def StopT (C : Cx) (Q : Exit → Act → World → Prop) (b : Frame) (k : List Item) (cs : List Frame) : Ren → Goroutine → World → Prop := fun q g w' =>
  ∃ e a₁ w₁ a₁', Q e a₁ w₁ ∧ ASame C q a₁.tmps a₁'.tmps ∧ a₁'.defers = [] ∧ WRel C q w₁ w' ∧
    ((e = .normal ∧ g = rec' (b.at a₁' k) cs) ∨ (e = .ret ∧ ∃ todo, g = rec' { b.at a₁' todo with mode := .returning } cs))


section
variable {P : Program} {L : List FuncId} {C : Cx}
theorem RI.mono {main : Bool} {S S' : Ren → Goroutine → World → Prop} (h : ∀ p g w, S p g w → S' p g w) {p : Ren} {g : Goroutine} {w : World} (hr : RI P C main S p g w) : RI P C main S' p g w := by
  induction hr with
  | stop hs => exact .stop fun w₁ hr => h _ _ _ (hs w₁ hr)
  | step nx h1 h2 _ ih => exact .step nx h1 h2 ih

/-- ████ A piece of text. ████ -/
theorem mirror {Q : Exit → Act → World → Prop} {a a' : Act} {w₀ w' : World} {c : Code} {b : Frame} {kt : List Item} {ct : List Frame} {main : Bool} {p : Ren} (H : ListOk P C L) (hbf : FnRes P b.fn) (hbk : b.kind ≠ .early) (hc : codeOk P L c = true)
    (hQ : ∀ e a w, Q e a w → (e = .normal ∨ e = .ret) ∧ a.defers = []) (hwp : ∀ T d, c.wp P Q a (World.tp w₀ T d)) (ha : ASame C p a.tmps a'.tmps) (hd : a.defers = []) (hd' : a'.defers = []) (hw : WRel C p w₀ w') :
    RI P C main (StopT C Q b kt ct) p (rec' (b.at a' (.code c :: kt)) ct) w' := by
  let Arr : Frame → World → Prop := fun f w₁ => ∃ e a₁, Q e a₁ w₁ ∧ ((e = .normal ∧ f = (base0 b.fn).at a₁ kv0) ∨ (e = .ret ∧ ∃ todo, f = { (base0 b.fn).at a₁ todo with mode := .returning }))
  have hA : ArrOk P b.fn Arr := by
    refine ⟨?_, ?_, ?_, ?_, hbf⟩ <;> rintro f w ⟨e, a₁, hq, ⟨_, rfl⟩ | ⟨_, todo, rfl⟩⟩
    · exact ⟨rfl, .inr ⟨rfl, rfl⟩⟩
    · exact ⟨rfl, .inl rfl⟩
    · rfl
    · rfl
    · rfl
    · rfl
    · exact (hQ _ _ _ hq).2
    · exact (hQ _ _ _ hq).2
  have hArr : Arrs P Arr ((base0 b.fn).at a (.code c :: kv0)) w₀ := by
    intro T d
    obtain ⟨e, a₁, w₁, hq, ha⟩ := hwp T d (base0 b.fn) kv0 [sent P]
    rcases (hQ _ _ _ hq).1 with rfl | rfl
    · obtain ⟨n, hn⟩ := ha
      exact ⟨n, _, w₁, ⟨_, a₁, hq, .inl ⟨rfl, rfl⟩⟩, hn⟩
    · obtain ⟨todo, n, hn⟩ := ha
      exact ⟨n, _, w₁, ⟨_, a₁, hq, .inr ⟨rfl, todo, rfl⟩⟩, hn⟩
  refine RI.mono ?_ (mirrorG (B := (b.fn, b.kind)) (K := kv0) (kt := kt) H (.inl rfl) hA hArr
    (.base (items := [.code c]) ⟨rfl, hbf, ha, rfl, rfl, fun x hx => by simp only [List.mem_cons, List.not_mem_nil, or_false] at hx; subst hx; exact hc, hd, hd', rfl, .inl rfl, rfl, hbk, rfl, rfl⟩ rfl rfl) hw)
  rintro q g w₂ ⟨f, f', w₁, ⟨e, a₁, hq, he⟩, hgr, hwr, rfl⟩
  generalize hl : [sent P] = l at hgr
  generalize hl' : ct = l' at hgr
  cases hgr with
  | base h hB1 hB2 =>
    rename_i items
    have htm := h.tmps
    rcases he with ⟨rfl, rfl⟩ | ⟨rfl, todo, rfl⟩
    · have : items = [] := by
        have := h.tv
        simp only [Frame.at, kv0] at this
        cases items with
        | nil => rfl
        | cons x items => exfalso; have := congrArg List.length this; simp at this
      subst this
      exact ⟨_, a₁, w₁, ⟨f'.tmps, []⟩, hq, htm, rfl, hwr, .inl ⟨rfl, congrArg (fun f => rec' f _) (frame_base hB1 hB2 h.dt h.rt h.tt rfl h.mode)⟩⟩
    · exact ⟨_, a₁, w₁, ⟨f'.tmps, []⟩, hq, htm, rfl, hwr, .inr ⟨rfl, _, congrArg (fun f => rec' f _) (frame_base hB1 hB2 h.dt h.rt rfl rfl h.mode)⟩⟩
  | up h _ hc => subst hl; cases hc with | up _ _ _ hc' => cases hc'

/-- Where the true goroutine stands when the call is about to return. -/
def StopC (P : Program) (C : Cx) (R : Value → World → Prop) (ct : List Frame) : Ren → Goroutine → World → Prop := fun q g w' =>
  ∃ v v' w₁ f' fn, R v w₁ ∧ VRel C q v v' ∧ WRel C q w₁ w' ∧ g = rec' f' ct ∧ f'.mode = .returning ∧ f'.defers = [] ∧ f'.kind = .normal ∧ P.funcs[f'.fn]? = some fn ∧ ∀ w es, (results fn f'.tmps).runT P w es = (.ok v' w, es)

/-- ████ A call. ████ -/
theorem mirrorC {R : Value → World → Prop} {f : FuncId} {x x' : Array Value} {w₀ w' : World} {ct : List Frame} {main : Bool} {p : Ren} (H : ListOk P C L) (hf : C.F f)
    (hcl : ∀ T d, Calls P f x (World.tp w₀ T d) (fun | .returned v, w₁ => R v w₁ | _, _ => False)) (ha : ASame C p x x') (hw : WRel C p w₀ w') :
    RI P C main (StopC P C R ct) p (rec' (Frame.enter P f x' .normal) ct) w' := by
  obtain ⟨fn, c, hfn, hb, hc, hres, _⟩ := H.fn hf
  let Arr : Frame → World → Prop := fun f₁ w₁ => f₁.fn = f ∧ ∃ v, R v w₁ ∧ f₁.leaving P w₁ (.returned v)
  have hA : ArrOk P f Arr := by
    refine ⟨?_, ?_, ?_, ?_, fn, hfn, hres⟩ <;> rintro f₁ w ⟨h1, v, _, h2, h3, h4, _⟩
    · exact ⟨rfl, .inl h2⟩
    · exact h1
    · exact h4
    · exact h3
  have hArr : Arrs P Arr (Frame.enter P f x .normal) w₀ := by
    intro T d
    obtain ⟨e, w₁, fr, hR, hcm, h1, h2⟩ := hcl T d [sent P]
    cases e with
    | returned v => obtain ⟨n, hn⟩ := hcm; exact ⟨n, fr, w₁, ⟨h1, v, hR, h2⟩, hn⟩
    | _ => exact hR.elim
  have hfr : FRel P L C p [] [] [.code c] (Frame.enter P f x .normal) (Frame.enter P f x' .normal) := by
    refine ⟨rfl, ⟨fn, hfn, hres⟩, ?_, ?_, ?_, ?_, rfl, rfl, rfl, .inl rfl, rfl, by simp [Frame.enter], rfl, rfl⟩
    · unfold Frame.enter
      simp only [← ha.size]
      exact ha.append (.replicate undef_rel _)
    · simp [Frame.enter, hfn, hb]
    · simp [Frame.enter, hfn, hb]
    · intro z hz
      simp only [List.mem_cons, List.not_mem_nil, or_false] at hz
      subst hz; exact hc
  refine RI.mono ?_ (mirrorG (B := (f, .normal)) (K := []) (kt := []) H (.inr ⟨rfl, rfl⟩) hA hArr (.base hfr rfl rfl) hw)
  rintro q g w₂ ⟨f₁, f', w₁, ⟨e1, v, hR, hm, hd, hk, fn', hfn', hr⟩, hgr, hwr, rfl⟩
  generalize hl : [sent P] = l at hgr
  generalize hl' : ct = l' at hgr
  cases hgr with
  | base h hB1 hB2 =>
    obtain ⟨u, u', h1, h2, hu⟩ := results_rel (P := P) hres h.tmps
    have hff : fn' = fn := by rw [e1, hfn] at hfn'; exact (Option.some.inj hfn').symm
    subst hff
    have huv : u = v := by
      have := h1 w₁ #[]
      rw [Sem.runT_eq, hr] at this
      simp only [Prod.mk.injEq, Result.ok.injEq] at this
      exact this.1.1.symm
    subst huv
    exact ⟨u, u', w₁, f', fn', hR, hu, hwr, rfl, by rw [h.mode]; exact hm, h.dt, hB2, by rw [hB1]; exact hfn, h2⟩
  | up h _ hc => subst hl; cases hc with | up _ _ _ hc' => cases hc'
end
end Go.Proofs.Ytfecdmenliohhaa
