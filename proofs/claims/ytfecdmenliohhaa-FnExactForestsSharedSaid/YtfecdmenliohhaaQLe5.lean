/- Goroutine 0 beside goroutines that only leave: what the mirror says of it, the machine carries out, on whatever tape. Plain. A goroutine in company that makes memory of its own: a well-founded judgement with the blocks that it owns, its rank; a pool of ranks. Plain. -/
import Derived.Test.YtfecdmenliohhaaQLe4
import Derived.Conc.FxBegin
set_option linter.unusedVariables false
set_option linter.unusedSimpArgs false
set_option linter.unusedSimpArgs false
set_option linter.unusedVariables false
namespace Go.Proofs.Ytfecdmenliohhaa
open Go Go.Conc
open Go.ConcN (sumTo upd sumTo_upd upd_ne upd_same)

/-- No place of this block is shunned. -/
def NoShun (Shun : Loc → Prop) (c : Nat) : Prop := (∀ a : Addr, a.block = c → ¬ Shun (.cell a)) ∧ ¬ Shun (.obj c)

theorem RI.rely {P : Program} {C : Cx} {main : Bool} {Stop : Ren → Goroutine → World → Prop} {p : Ren} {g : Goroutine} {w w₁ : World} (h : RI P C main Stop p g w) (hr : RelyX p w w₁) : RI P C main Stop p g w₁ := by
  cases h with
  | stop h => exact .stop fun w₂ h₂ => h w₂ (hr.trans h₂)
  | step nx h1 h2 h3 => exact .step nx h1 (fun w₂ h₂ => h2 w₂ (hr.trans h₂)) (fun w₂ h₂ => h3 w₂ (hr.trans h₂))

theorem RelyX.at (p : Ren) (w : World) (d : Nat) : RelyX p w (w.at d) := ⟨rfl, fun _ _ _ => rfl, Nat.le_refl _⟩

/-- What the true run touches is no shunned place, and lies in memory. -/
theorem evL_of_ok {C : Cx} {Shun : Loc → Prop} {q : Ren} {B : Nat} {e : Event} (h : EvOk C q e) (hq : ∀ b c, q b = some c → c < B ∧ NoShun Shun c) : EvL Shun B e := by
  obtain ⟨loc, wr, sy⟩ := e
  rcases h with ⟨hs, b, c, hb, hl, _⟩ | h
  · obtain ⟨h1, h2⟩ := hq b c hb
    simp only at hs hl
    subst hs
    rcases hl with ⟨a, rfl, rfl⟩ | ⟨rfl, rfl⟩
    · exact evL_cell a wr (h2.1 a rfl) h1
    · refine ⟨fun x hx hsx => ?_, by simp, by simp, ?_⟩
      · simp only [MemAct.ofEvent, MemAct.touch?, Option.some.injEq] at hx
        subst hx
        exact absurd hsx h2.2
      · exact h1
  · cases h
    exact ⟨fun x hx => by simp [MemAct.ofEvent, MemAct.touch?] at hx, by simp, by simp, trivial⟩

/-- What goroutine 0 holds, what it has done to the world since. -/
structure Held (Shun : Loc → Prop) (p q : Ren) (w w' : World) : Prop where
  le : RLe p q
  tape : w'.tape = w.tape
  os : w'.os = w.os
  output : w'.output = w.output
  size : w.heap.size ≤ w'.heap.size
  other : ∀ c, c < w.heap.size → (∀ b, p b ≠ some c) → w'.heap[c]? = w.heap[c]?
  fresh : ∀ b c, q b = some c → p b = some c ∨ (w.heap.size ≤ c ∧ c < w'.heap.size)
theorem Held.refl (Shun : Loc → Prop) (p : Ren) (w : World) : Held Shun p p w w := ⟨.refl _, rfl, rfl, rfl, Nat.le_refl _, fun _ _ _ => rfl, fun _ _ h => .inl h⟩

section
variable {P : Program} {C : Cx} {Shun : Loc → Prop} {Stop : Ren → Goroutine → World → Prop}

/-- ████ BESIDE LEAVERS, ON WHATEVER TAPE. ████ -/
theorem beside_RI {p : Ren} {a : Goroutine} {w₀ : World} (hRI : RI P C true Stop p a w₀) :
    ∀ (M : Nat) (gs : Array Goroutine) (w : World) (sl : Option (Nat × Nat)) (t : Trace) (q : Nat → Nat), RelyX p w₀ w → sumTo gs.size q ≤ M → gs[0]? = some a → Leavers P t gs q → Past Shun w.heap.size t →
      (∀ b c, p b = some c → c < w.heap.size ∧ NoShun Shun c) → (∀ c, w.heap.size ≤ c → NoShun Shun c) →
      ∃ (N : Nat) (gs' : Array Goroutine) (a' : Goroutine) (w' : World) (sl' : Option (Nat × Nat)) (t' : Trace) (q' : Nat → Nat) (p' : Ren),
        runNT P N (crowd gs w sl) t = (.next (crowd gs' w' sl'), t') ∧ gs'.size = gs.size ∧ gs'[0]? = some a' ∧ Stop p' a' w' ∧ Leavers P t' gs' q' ∧ Past Shun w'.heap.size t' ∧
        Held Shun p p' w w' ∧ (∀ b c, p' b = some c → c < w'.heap.size ∧ NoShun Shun c) ∧ (∀ c, w'.heap.size ≤ c → NoShun Shun c) := by
  induction hRI with
  | @stop p g w₀ hs =>
    intro M gs w sl t q hr hM h0 hL hP hp hf
    exact ⟨0, gs, g, w, sl, t, q, p, rfl, rfl, h0, hs w hr, hL, hP, .refl _ _ _, hp, hf⟩
  | @step p g w₀ nx hrun hstep _ ih =>
    intro M
    induction M using Nat.strongRecOn with
    | _ M ihM =>
      intro gs w sl t q hr hM h0 hL hP hp hf
      have haw : ∀ x ∈ gs, awake x := by
        intro x hx
        obtain ⟨i, hi, rfl⟩ := Array.mem_iff_getElem.1 hx
        rcases Nat.eq_zero_or_pos i with rfl | hpos
        · have : gs[0] = g := by simpa [Array.getElem?_eq_getElem hi] using h0
          rw [this]; exact awake_of (.inl hrun)
        · exact awake_of ((hL.old i _ hpos (Array.getElem?_eq_getElem hi)).status.elim .inl fun x => .inr (.inr x))
      obtain ⟨i, x, d, sl', hi, hx, hst⟩ := crowd_pick (P := P) (w := w) (sl := sl) haw ⟨0, g, h0, hrun⟩
      have hlt : i < gs.size := (Array.getElem?_eq_some_iff.1 hi).1
      have hrd : RelyX p w₀ (w.at d) := hr.trans (.at p w d)
      rcases Nat.eq_zero_or_pos i with rfl | hpos
      · -- goroutine 0 takes a step
        obtain rfl : x = g := by rw [h0] at hi; exact (Option.some.inj hi).symm
        obtain ⟨es, hgo, hle, hk, hes⟩ := hstep (w.at d) hrd
        have hrunT := runT_crowd_go (P := P) (sl := sl') (i := 0) hi (show stepG P (0 == 0) x (w.at d) = _ from hgo)
        have hsz : ((gs.map (woken P x (nx (w.at d)).2.1 (nx (w.at d)).2.2)).setIfInBounds 0 (nx (w.at d)).2.1).size = gs.size := by simp
        have hk' : Kept C p (nx (w.at d)).1 w (nx (w.at d)).2.2 := ⟨hk.tape, hk.os, hk.output, hk.size, hk.other, hk.fresh, hk.all, hk.locked⟩
        have hq' : ∀ b c, (nx (w.at d)).1 b = some c → c < (nx (w.at d)).2.2.heap.size ∧ NoShun Shun c := by
          intro b c hb
          rcases hk'.fresh b c hb with h | ⟨h1, h2⟩
          · exact ⟨Nat.lt_of_lt_of_le (hp b c h).1 hk'.size, (hp b c h).2⟩
          · exact ⟨h2, hf c h1⟩
        obtain ⟨N, gs', a'', w'', sl'', t', q', p', r1, r2, r3, r4, r5, r6, r7, r8, r9⟩ := ih (w.at d) hrd (sumTo gs.size q) _ (nx (w.at d)).2.2 sl' (t ++ MemOp.ofEvents 0 x.frame.fn x.frame.place es) q (.refl _ _) (by rw [hsz]; exact Nat.le_refl _) (by simp [hlt])
          (hL.own (a := x) (a' := (nx (w.at d)).2.1) (w' := (nx (w.at d)).2.2) hlt x.frame.fn x.frame.place es)
          ((hP.mono hk'.size).own fun e he => evL_of_ok (hes e he) hq') hq' (fun c hc => hf c (Nat.le_trans hk'.size hc))
        refine ⟨N + 1, gs', a'', w'', sl'', t', q', p', by simp only [runNT, hst, hrunT]; exact r1, r2.trans hsz, r3, r4, r5, r6, ⟨hle.trans r7.le, r7.tape.trans hk'.tape, r7.os.trans hk'.os, r7.output.trans hk'.output, Nat.le_trans hk'.size r7.size, fun c hc hn => ?_, fun b c hb => ?_⟩, r8, r9⟩
        · rw [r7.other c (Nat.lt_of_lt_of_le hc hk'.size) fun b hb => ?_]
          · exact hk'.other c hc hn
          · rcases hk'.fresh b c hb with h | ⟨h, _⟩
            · exact hn b h
            · omega
        · rcases r7.fresh b c hb with h | ⟨h1, h2⟩
          · exact (hk'.fresh b c h).imp id fun ⟨a, b⟩ => ⟨a, Nat.lt_of_lt_of_le b r7.size⟩
          · exact .inr ⟨Nat.le_trans hk'.size h1, h2⟩
      · -- a leaver slips
        have hq := hL.old i x hpos hi
        have hi0 : (i == 0) = false := by simp; omega
        cases hqi : q i with
        | zero => rw [hqi] at hq; rw [hq.1] at hx; cases hx
        | succ k =>
          rw [hqi] at hq
          rcases hq with ⟨hff, _⟩ | ⟨_, g', es, hm, hstp, hq'⟩
          · rw [hff] at hx; cases hx
          have hrunT := runT_crowd_go (P := P) (sl := sl') (i := i) hi (by rw [hi0]; exact hstp (w.at d))
          have hsz : ((gs.map (woken P x g' (w.at d))).setIfInBounds i g').size = gs.size := by simp
          have hsum : sumTo gs.size (upd q i k) + (k + 1) = sumTo gs.size q + k := by
            have := sumTo_upd q k id hlt
            simpa [hqi] using this
          obtain ⟨N, gs', a'', w'', sl'', t', q', p', r1, r2, r3, r4, r5, r6, r7, r8, r9⟩ := ihM (sumTo gs.size (upd q i k)) (by omega) ((gs.map (woken P x g' (w.at d))).setIfInBounds i g') (w.at d) sl' (t ++ MemOp.ofEvents i x.frame.fn x.frame.place es) (upd q i k) hrd (by rw [hsz]; exact Nat.le_refl _)
            (by
              have hne : i ≠ 0 := by omega
              rw [Array.getElem?_setIfInBounds_ne hne, Array.getElem?_map, h0]
              simp [woken_run hrun])
            ⟨fun j y hj hy => by
              by_cases hji : i = j
              · subst hji
                rw [Array.getElem?_setIfInBounds_self_of_lt (by simpa using hlt)] at hy
                obtain rfl := Option.some.inj hy
                rw [upd_same, Deaf_own]
                exact hq'
              · rw [Array.getElem?_setIfInBounds_ne hji, Array.getElem?_map] at hy
                obtain ⟨z, hz, rfl⟩ := Option.map_eq_some_iff.1 hy
                have hqj := hL.old j z hj hz
                rw [woken_quitsD hqj, upd_ne q k (Ne.symm hji), Deaf_other t hji _ Go.ConcR.g_of_ofEvents]
                exact hqj, fun j hj => by
              rw [Deaf_other t (g' := i) (by simp at hj; omega) _ Go.ConcR.g_of_ofEvents]
              exact hL.above j (by simpa using hj)⟩
            (hP.mute (by omega) hm) hp hf
          refine ⟨N + 1, gs', a'', w'', sl'', t', q', p', by simp only [runNT, hst, hrunT]; exact r1, r2.trans hsz, r3, r4, r5, r6, ⟨r7.le, r7.tape, r7.os, r7.output, r7.size, r7.other, r7.fresh⟩, r8, r9⟩
end
end Go.Proofs.Ytfecdmenliohhaa

set_option linter.unusedSimpArgs false
set_option linter.unusedVariables false
namespace Go.Proofs.Ytfecdmenliohhaa
open Go Go.Conc

abbrev OwnB := Nat → Prop

/-- A goroutine with own blocks O is on its way to a stop, whatever the others do within R; each step is within D. -/
inductive GG (P : Program) (main : Bool) (R : OwnB → World → World → Prop) (D : OwnB → OwnB → World → World → Array Event → Prop) (Stop : OwnB → Goroutine → World → Prop) : OwnB → Goroutine → World → Prop
  | stop {O : OwnB} {g : Goroutine} {w : World} : (∀ w₁, R O w w₁ → Stop O g w₁) → GG P main R D Stop O g w
  | step {O : OwnB} {g : Goroutine} {w : World} (nx : World → OwnB × Goroutine × World) : g.status = .running →
      (∀ w₁, R O w w₁ → ∃ es, stepG P main g w₁ = .go (nx w₁).2.1 (nx w₁).2.2 es ∧ D O (nx w₁).1 w₁ (nx w₁).2.2 es) →
      (∀ w₁, R O w w₁ → GG P main R D Stop (nx w₁).1 (nx w₁).2.1 (nx w₁).2.2) → GG P main R D Stop O g w

section
variable {P : Program} {main : Bool} {R : OwnB → World → World → Prop} {D : OwnB → OwnB → World → World → Array Event → Prop} {Stop Stop' : OwnB → Goroutine → World → Prop} {O : OwnB} {g : Goroutine} {w w₁ : World}

theorem GG.mk (hs : g.status = .running) (h : ∀ w₁, R O w w₁ → ∃ g' w' es O', stepG P main g w₁ = .go g' w' es ∧ D O O' w₁ w' es ∧ GG P main R D Stop O' g' w') : GG P main R D Stop O g w := by
  have h' : ∀ w₁, ∃ x : OwnB × Goroutine × World, R O w w₁ → (∃ es, stepG P main g w₁ = .go x.2.1 x.2.2 es ∧ D O x.1 w₁ x.2.2 es) ∧ GG P main R D Stop x.1 x.2.1 x.2.2 := by
    intro w₁
    by_cases hr : R O w w₁
    · obtain ⟨g', w', es, O', h1, h2, h3⟩ := h w₁ hr
      exact ⟨(O', g', w'), fun _ => ⟨⟨es, h1, h2⟩, h3⟩⟩
    · exact ⟨(O, g, w), fun h => absurd h hr⟩
  exact .step (fun w₁ => Classical.choose (h' w₁)) hs (fun w₁ hr => (Classical.choose_spec (h' w₁) hr).1) (fun w₁ hr => (Classical.choose_spec (h' w₁) hr).2)

theorem GG.rely (tr : ∀ O a b c, R O a b → R O b c → R O a c) (h : GG P main R D Stop O g w) (hr : R O w w₁) : GG P main R D Stop O g w₁ := by
  cases h with
  | stop h => exact .stop fun w₂ h₂ => h w₂ (tr _ _ _ _ hr h₂)
  | step nx h1 h2 h3 => exact .step nx h1 (fun w₂ h₂ => h2 w₂ (tr _ _ _ _ hr h₂)) (fun w₂ h₂ => h3 w₂ (tr _ _ _ _ hr h₂))

/-- From one stop on to the next. -/
theorem GG.then (h : GG P main R D Stop O g w) (k : ∀ O g w, Stop O g w → GG P main R D Stop' O g w) (rfl' : ∀ O w, R O w w) (tr : ∀ O a b c, R O a b → R O b c → R O a c) (hrun : ∀ O g w, Stop O g w → g.status = .running ∨ True) : GG P main R D Stop' O g w := by
  induction h with
  | @stop O g w hs =>
    -- the stop may come in any world that the others leave: cases on the way from there
    refine Classical.byContradiction fun hn => ?_
    have hw := k O g w (hs w (rfl' O w))
    exact hn hw
  | step nx h1 h2 _ ih => exact .step nx h1 h2 ih

theorem GG.mono (h : GG P main R D Stop O g w) (k : ∀ O g w, Stop O g w → Stop' O g w) : GG P main R D Stop' O g w := by
  induction h with
  | stop hs => exact .stop fun w₁ hr => k _ _ _ (hs w₁ hr)
  | step nx h1 h2 _ ih => exact .step nx h1 h2 ih

theorem GG.running (hS : ∀ O g w, Stop O g w → g.status = .running) (rfl' : ∀ O w, R O w w) (h : GG P main R D Stop O g w) : g.status = .running := by
  cases h with
  | stop h => exact hS _ _ _ (h w (rfl' O w))
  | step _ h1 _ _ => exact h1

/-- The kit's walk in company (no memory made): a stretch of this one. -/
theorem GG.of_goes {R₁ : World → World → Prop} {D₁ : World → World → Array Event → Prop} {S : Goroutine → World → Prop} {n : Nat} (hR : ∀ w w₁, R O w w₁ → R₁ w w₁) (hD : ∀ w w' es, D₁ w w' es → D O O w w' es)
    (h : Goes P main R₁ D₁ S n g w) (k : ∀ g w, S g w → GG P main R D Stop O g w) (rfl' : ∀ O w, R O w w) : GG P main R D Stop O g w := by
  induction n generalizing g w with
  | zero => exact k g w (h w (hR _ _ (rfl' O w)))
  | succ n ih =>
    rcases h with h | ⟨hs, h⟩
    · exact k g w (h w (hR _ _ (rfl' O w)))
    · refine .mk hs fun w₁ hr => ?_
      have := h w₁ (hR _ _ hr)
      cases hst : stepG P main g w₁ with
      | go g' w' es =>
        rw [hst, goes_go] at this
        exact ⟨g', w', es, O, rfl, hD _ _ _ this.1, ih this.2⟩
      | _ => rw [hst] at this; exact this.elim
end

/-! ### ranks -/
inductive Rk where
  | leaf
  | node (f : World → Rk)
def Rk.Lt : Rk → Rk → Prop
  | x, .node f => ∃ w, x = f w
  | _, .leaf => False
theorem Rk.acc : ∀ r : Rk, Acc Rk.Lt r
  | .leaf => ⟨_, fun _ h => h.elim⟩
  | .node f => ⟨_, fun _ h => by obtain ⟨w, rfl⟩ := h; exact Rk.acc (f w)⟩
theorem Rk.wf : WellFounded Rk.Lt := ⟨Rk.acc⟩
def Rk.ofNat : Nat → Rk
  | 0 => .leaf
  | n + 1 => .node fun _ => Rk.ofNat n
theorem Rk.lt_succ (n : Nat) : Rk.Lt (.ofNat n) (.ofNat (n + 1)) := ⟨default, rfl⟩

section
variable (P : Program) (main : Bool) (R : OwnB → World → World → Prop) (D : OwnB → OwnB → World → World → Array Event → Prop) (Stop : OwnB → Goroutine → World → Prop)
/-- The judgement, ranked. -/
def GGr : Rk → OwnB → Goroutine → World → Prop
  | .leaf, O, g, w => ∀ w₁, R O w w₁ → Stop O g w₁
  | .node f, O, g, w => (∀ w₁, R O w w₁ → Stop O g w₁) ∨ (g.status = .running ∧ ∀ w₁, R O w w₁ → ∃ es O' g' w' v, stepG P main g w₁ = .go g' w' es ∧ D O O' w₁ w' es ∧ GGr (f v) O' g' w')
end
section
variable {P : Program} {main : Bool} {R : OwnB → World → World → Prop} {D : OwnB → OwnB → World → World → Array Event → Prop} {Stop : OwnB → Goroutine → World → Prop} {O : OwnB} {g : Goroutine} {w w₁ : World} {r : Rk}
theorem GG.ranked (h : GG P main R D Stop O g w) : ∃ r, GGr P main R D Stop r O g w := by
  induction h with
  | stop h => exact ⟨.leaf, h⟩
  | @step O g w nx h1 h2 _ ih =>
    have ih' : ∀ w₁, ∃ r, R O w w₁ → GGr P main R D Stop r (nx w₁).1 (nx w₁).2.1 (nx w₁).2.2 := fun w₁ => by
      by_cases hr : R O w w₁
      · obtain ⟨r, h⟩ := ih w₁ hr; exact ⟨r, fun _ => h⟩
      · exact ⟨.leaf, fun h => absurd h hr⟩
    refine ⟨.node fun w₁ => Classical.choose (ih' w₁), .inr ⟨h1, fun w₁ hr => ?_⟩⟩
    obtain ⟨es, e1, e2⟩ := h2 w₁ hr
    exact ⟨es, _, _, _, w₁, e1, e2, Classical.choose_spec (ih' w₁) hr⟩
theorem GGr.rely (tr : ∀ O a b c, R O a b → R O b c → R O a c) (h : GGr P main R D Stop r O g w) (hr : R O w w₁) : GGr P main R D Stop r O g w₁ := by
  cases r with
  | leaf => exact fun w₂ h₂ => h w₂ (tr _ _ _ _ hr h₂)
  | node f =>
    rcases h with h | ⟨hs, h⟩
    · exact .inl fun w₂ h₂ => h w₂ (tr _ _ _ _ hr h₂)
    · exact .inr ⟨hs, fun w₂ h₂ => h w₂ (tr _ _ _ _ hr h₂)⟩
/-- It stands at its stop, or takes a step, its rank lowered. -/
theorem GGr.cases (rfl' : ∀ O w, R O w w) (h : GGr P main R D Stop r O g w) : (∀ w₁, R O w w₁ → Stop O g w₁) ∨ (g.status = .running ∧ ∃ es O' g' w' r', stepG P main g w = .go g' w' es ∧ D O O' w w' es ∧ Rk.Lt r' r ∧ GGr P main R D Stop r' O' g' w') := by
  cases r with
  | leaf => exact .inl h
  | node f =>
    rcases h with h | ⟨hs, h⟩
    · exact .inl h
    · obtain ⟨es, O', g', w', v, h1, h2, h3⟩ := h w (rfl' O w)
      exact .inr ⟨hs, es, O', g', w', f v, h1, h2, ⟨v, rfl⟩, h3⟩
theorem GGr.running (hS : ∀ O g w, Stop O g w → g.status = .running) (rfl' : ∀ O w, R O w w) (h : GGr P main R D Stop r O g w) : g.status = .running := by
  rcases h.cases rfl' with h | h
  · exact hS _ _ _ (h w (rfl' O w))
  · exact h.1
end

/-! ### a pool of ranks: one is lowered, the others stand -/
def LtV (n : Nat) (f g : Nat → Rk) : Prop := ∃ i, i < n ∧ Rk.Lt (f i) (g i) ∧ ∀ j, j < n → j ≠ i → f j = g j
/-- The first n, packed. -/
def Pack : Nat → Type
  | 0 => Unit
  | n + 1 => Pack n × Rk
def pack : (n : Nat) → (Nat → Rk) → Pack n
  | 0, _ => ()
  | n + 1, f => (pack n f, f n)
def LtP : (n : Nat) → Pack n → Pack n → Prop
  | 0, _, _ => False
  | n + 1, a, b => Prod.Lex (LtP n) Rk.Lt a b
theorem ltP_wf : ∀ n, WellFounded (LtP n)
  | 0 => ⟨fun _ => ⟨_, fun _ h => h.elim⟩⟩
  | n + 1 => (Prod.lex ⟨LtP n, ltP_wf n⟩ ⟨Rk.Lt, Rk.wf⟩).wf
theorem pack_congr {f g : Nat → Rk} : ∀ {n : Nat}, (∀ j, j < n → f j = g j) → pack n f = pack n g
  | 0, _ => rfl
  | n + 1, h => by
    show (pack n f, f n) = (pack n g, g n)
    rw [pack_congr (n := n) fun j hj => h j (by omega), h n (by omega)]
theorem ltP_of : ∀ {n : Nat} {f g : Nat → Rk}, LtV n f g → LtP n (pack n f) (pack n g)
  | 0, _, _, ⟨i, hi, _⟩ => by omega
  | n + 1, f, g, ⟨i, hi, hl, hs⟩ => by
    by_cases h : i = n
    · subst h
      have e : pack i f = pack i g := pack_congr fun j hj => hs j (by omega) (by omega)
      show Prod.Lex (LtP i) Rk.Lt (pack i f, f i) (pack i g, g i)
      rw [e]
      exact .right _ hl
    · exact .left _ _ (ltP_of ⟨i, by omega, hl, fun j hj hne => hs j (by omega) hne⟩)
theorem ltV_wf (n : Nat) : WellFounded (LtV n) := Subrelation.wf (fun h => ltP_of h) (InvImage.wf (pack n) (ltP_wf n))
end Go.Proofs.Ytfecdmenliohhaa
