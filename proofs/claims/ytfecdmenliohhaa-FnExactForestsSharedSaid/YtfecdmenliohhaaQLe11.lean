/- A goroutine in company that makes memory: rules of its walk. Plain. A worker's call, by the mirror: what the mirror says is a walk in company of this pool. Plain. Goroutine 0 alone beside goroutines that only leave: a judgement with the blocks that it owns; the machine carries it out, on whatever tape. Plain. A worker's walk: stretches, calls of closures, a call by the mirror. Plain. -/
import Derived.Test.YtfecdmenliohhaaQLe9
import Derived.Test.YtfecdmenliohhaaQLe5
import Derived.Conc.CompanyDraw
import Derived.Conc.Own4
set_option linter.unusedVariables false
set_option linter.unusedSimpArgs false
set_option linter.unusedSimpArgs false
set_option linter.unusedVariables false
namespace Go.Proofs.Ytfecdmenliohhaa
open Go Go.Conc
open Go.ConcR (Payload DC0)

section
variable {P : Program} {main : Bool} {R : OwnB → World → World → Prop} {D : OwnB → OwnB → World → World → Array Event → Prop} {Stop : OwnB → Goroutine → World → Prop} {O : OwnB} {g g' : Goroutine} {w : World}

/-- One step, by the kit's words for steps. -/
theorem GG.goes (hs : g.status = .running) (h : ∀ w₁, R O w w₁ → (stepG P main g w₁).goes (fun g' w' es => ∃ O', D O O' w₁ w' es ∧ GG P main R D Stop O' g' w')) : GG P main R D Stop O g w :=
  .mk hs fun w₁ hr => let ⟨g', w', es, e, O', hd, hg⟩ := goes_elim (h w₁ hr); ⟨g', w', es, O', e, hd, hg⟩

/-- A move of control. -/
theorem GG.ctl (hD : ∀ O w, D O O w w #[]) (tr : ∀ O a b c, R O a b → R O b c → R O a c) (hs : g.status = .running) (h : ∀ w, stepG P main g w = .go g' w #[]) (k : GG P main R D Stop O g' w) : GG P main R D Stop O g w :=
  .mk hs fun w₁ hr => ⟨_, _, _, O, h w₁, hD _ _, k.rely tr hr⟩

/-! ### a region that asks the tape for its order -/
section
variable {ops : Array Oper} {md : Region.Mode} {b : Frame} {k : List Item} {cs : List Frame}

theorem ready_of_none {L : Array Bool} (h : L.toList.count false = 0) : Region.ready md ops L = [] := by
  rw [List.eq_nil_iff_forall_not_mem]
  intro j hj
  have h1 := (mem_ready.1 hj).1
  rcases Nat.lt_or_ge j L.size with hlt | hge
  · have e : L[j] = false := by simpa [Array.getD, hlt] using h1
    have hm : false ∈ L.toList := by rw [← e]; simp
    have := List.count_pos_iff.2 hm
    omega
  · simp [Array.getD, Nat.not_lt.2 hge] at h1
theorem count_set {L : Array Bool} {i : Nat} (h : i ∈ Region.ready md ops L) : (L.setIfInBounds i true).toList.count false + 1 = L.toList.count false := by
  have h1 := (mem_ready.1 h).1
  rcases Nat.lt_or_ge i L.size with hlt | hge
  · have e : L[i] = false := by simpa [Array.getD, hlt] using h1
    have e2 : L.toList[i]'(by simpa using hlt) = false := by simpa using e
    have hm : false ∈ L.toList := by rw [← e]; simp
    have hp := List.count_pos_iff.2 hm
    rw [Array.toList_setIfInBounds, List.count_set (by simpa using hlt), e2]
    have e3 : (true == false) = false := rfl
    have e4 : (false == false) = true := rfl
    simp only [e3, e4, if_true, Bool.false_eq_true, if_false]
    omega
  · simp [Array.getD, Nat.not_lt.2 hge] at h1

/-- What is held when these operations have come up; each one that may come up leads on. -/
theorem GG.drawn (Inv : Array Bool → OwnB → Act → World → Prop) (hD : ∀ O w, D O O w w #[]) (tr : ∀ O a b c, R O a b → R O b c → R O a c) (rfl' : ∀ O w, R O w w)
    (hI : ∀ L O a w w₁, Inv L O a w → R O w w₁ → Inv L O a w₁)
    (hop : ∀ (L : Array Bool) (i : Nat) (rest : List Nat) (O : OwnB) (a : Act) (w : World), Inv L O a w → i ∈ Region.ready md ops L →
      (∀ O' a' w', Inv (L.setIfInBounds i true) O' a' w' → GG P main R D Stop O' (G (b.at a' (.inRegion ops rest :: k)) cs) w') → GG P main R D Stop O (G (b.at a (.inRegion ops (i :: rest) :: k)) cs) w)
    (hend : ∀ L O a w, Inv L O a w → Region.ready md ops L = [] → GG P main R D Stop O (G (b.at a k) cs) w) :
    ∀ (fuel t : Nat) (L : Array Bool) (O : OwnB) (a : Act) (w : World), Inv L O a w → L.toList.count false ≤ fuel →
      GG P main R D Stop O (G (b.at a (.inRegion ops (Region.linearise.go md ops fuel t L []) :: k)) cs) w := by
  intro fuel
  induction fuel with
  | zero =>
    intro t L O a w h hf
    simp only [Region.linearise.go, List.reverse_nil]
    exact .ctl hD tr rfl (fun _ => stepG_region_end) (hend L O a w h (ready_of_none (by omega)))
  | succ fuel ih =>
    intro t L O a w h hf
    simp only [Region.linearise.go]
    change GG P main R D Stop O (G (b.at a (.inRegion ops (match (Region.ready md ops L)[t % (Region.ready md ops L).length]? with
      | some i => Region.linearise.go md ops fuel (t / (Region.ready md ops L).length) (L.setIfInBounds i true) [i]
      | none => [].reverse) :: k)) cs) w
    cases hi : (Region.ready md ops L)[t % (Region.ready md ops L).length]? with
    | none =>
      have hnil : Region.ready md ops L = [] := by
        cases hr : Region.ready md ops L with
        | nil => rfl
        | cons x xs =>
          rw [hr] at hi
          have hlt : t % (x :: xs).length < (x :: xs).length := Nat.mod_lt _ (by simp)
          simp at hi
          simp at hlt
          omega
      exact .ctl hD tr rfl (fun _ => stepG_region_end) (hend L O a w h hnil)
    | some i =>
      simp only []
      rw [linearise_go_acc, List.reverse_singleton, List.singleton_append]
      have hmem := List.mem_of_getElem? hi
      refine hop L i _ O a w h hmem fun O' a' w' h' => ih _ _ O' a' w' h' ?_
      have := count_set hmem
      omega
end
end
end Go.Proofs.Ytfecdmenliohhaa

set_option linter.unusedSimpArgs false
set_option linter.unusedVariables false
namespace Go.Proofs.Ytfecdmenliohhaa
open Go Go.Conc Go.ConcN
open Go.ConcR (Payload DC0)

theorem RWk.sub {X : PX} {i : Nat} {O O' : OwnB} {w w₁ : World} (h : RWk X i O' w w₁) (hO : ∀ b, O b → O' b) : RWk X i O w w₁ := ⟨h.tape, h.size, fun b hb => h.held b (hb.imp id (hO b)), h.live, h.pay, h.cell⟩

theorem GG.of_RI {P : Program} {C : Cx} {X : PX} {i : Nat} {Stop0 : Ren → Goroutine → World → Prop} {Stop : OwnB → Goroutine → World → Prop} (hroC : ∀ b, X.Ro b → b ≠ X.C ∧ b ≠ X.Wg) {p : Ren} {g : Goroutine} {w : World} (h : RI P C false Stop0 p g w) {O : OwnB}
    (hOn : ∀ b, O b → ¬ X.Ro b) (hOC : ¬ O X.C) (hOW : ¬ O X.Wg) (hlt : ∀ b, X.Ro b ∨ O b → b < w.heap.size) (hCl : X.C < w.heap.size) (hWl : X.Wg < w.heap.size) (hp : ∀ b c, p b = some c → X.Ro c ∧ C.lock c)
    (k : ∀ q O' g w', Stop0 q g w' → RWk X i O w w' → (∀ b, O b → O' b) → (∀ b, O' b → O b ∨ w.heap.size ≤ b) → (∀ b, O' b → b < w'.heap.size) → GG P false (RWk X i) (GWk X i) Stop O' g w') : GG P false (RWk X i) (GWk X i) Stop O g w := by
  have key : ∀ {p : Ren} {g : Goroutine} {w₁ : World}, RI P C false Stop0 p g w₁ → ∀ O' : OwnB, RWk X i O w w₁ → (∀ b, O b → O' b) → (∀ b, O' b → O b ∨ w.heap.size ≤ b) → (∀ b, O' b → b < w₁.heap.size) → (∀ b c, p b = some c → (X.Ro c ∧ C.lock c) ∨ (O' c ∧ ¬ O c)) →
      GG P false (RWk X i) (GWk X i) Stop O' g w₁ := by
    intro p g w₁ h
    induction h with
    | @stop p g w₁ hs =>
      intro O' hR hO hO2 hO3 hp
      exact k p O' g w₁ (hs w₁ (.refl _ _)) hR hO hO2 hO3
    | @step p g w₁ nx hrun hstep _ ih =>
      intro O' hR hO hO2 hO3 hp
      refine .mk hrun fun w₂ h₂ => ?_
      have hX : RelyX p w₁ w₂ := ⟨h₂.tape, fun b c hb => h₂.held c ((hp b c hb).elim (fun x => .inl x.1) fun x => .inr x.1), h₂.size⟩
      obtain ⟨es, hgo, hle, hk, hes⟩ := hstep w₂ hX
      have hsz : w.heap.size ≤ w₂.heap.size := Nat.le_trans hR.size h₂.size
      have hnC : ∀ b, p b ≠ some X.C := fun b hb => (hp b _ hb).elim (fun x => (hroC _ x.1).1 rfl) fun x => (hO2 _ x.1).elim hOC fun y => by omega
      have hnW : ∀ b, p b ≠ some X.Wg := fun b hb => (hp b _ hb).elim (fun x => (hroC _ x.1).2 rfl) fun x => (hO2 _ x.1).elim hOW fun y => by omega
      have hC := hk.other X.C (by omega) hnC
      have hW := hk.other X.Wg (by omega) hnW
      have hro : ∀ c, X.Ro c → (nx w₂).2.2.heap[c]? = w₂.heap[c]? := fun c hc => by
        have hcl := hlt c (.inl hc)
        by_cases him : ∃ b, p b = some c
        · obtain ⟨b, hb⟩ := him
          rcases hp b c hb with x | x
          · exact hk.locked c x.2 (by omega)
          · exact ((hO2 c x.1).elim (fun y => absurd y x.2) fun y => by omega)
        · exact hk.other c (by omega) fun b hb => him ⟨b, hb⟩
      have hRw : RWk X i O w₂ (nx w₂).2.2 := by
        refine ⟨hk.tape, hk.size, fun b hb => ?_, live_of_block hW, pay_of_block hC, fun kk _ => cell_of_block hC kk⟩
        rcases hb with hb | hb
        · exact hro b hb
        · have := hlt b (.inr hb)
          refine hk.other b (by omega) fun b' hb' => ?_
          rcases hp b' b hb' with x | x
          · exact hOn b hb x.1
          · exact x.2 hb
      refine ⟨_, _, es, fun b => O' b ∨ (w₂.heap.size ≤ b ∧ b < (nx w₂).2.2.heap.size), hgo, ⟨hk.tape, hk.os, hk.output, hk.size, fun b hb hn hbC => ?_, pay_of_block hC, fun kk _ => cell_of_block hC kk, fun b hb => .inl hb, fun b hb => hb, fun e he => ?_⟩, ?_⟩
      · by_cases him : ∃ b', p b' = some b
        · obtain ⟨b', hb'⟩ := him
          rcases hp b' b hb' with x | x
          · exact hro b x.1
          · exact absurd x.1 hn
        · exact hk.other b hb fun b' hb' => him ⟨b', hb'⟩
      · rcases hes e he with ⟨hs, b, c, hb, hl, hw⟩ | h
        · refine .inl ⟨hs, ?_⟩
          have hpl : ∀ B : Nat → Prop, B c → placeIn B e.loc := fun B hB => by
            rcases hl with ⟨a, h1, h2⟩ | ⟨h1, _⟩
            · exact .inl ⟨a, h1, by rw [h2]; exact hB⟩
            · exact .inr ⟨c, h1, hB⟩
          rcases hk.fresh b c hb with h1 | h1
          · rcases hp b c h1 with x | x
            · refine .inr (.inl ⟨hpl _ x.1, ?_⟩)
              cases hwr : e.write with
              | false => rfl
              | true => exact absurd x.2 (hw hwr)
            · exact .inl (hpl _ (.inl x.1))
          · exact .inl (hpl _ (.inr h1))
        · exact .inr h
      · refine ih w₂ hX _ ((RWk.trans O _ _ _ hR (h₂.sub hO)).trans O _ _ _ hRw) (fun b hb => .inl (hO b hb)) (fun b hb => ?_) (fun b hb => ?_) (fun b c hb => ?_)
        · rcases hb with h1 | h1
          · exact hO2 b h1
          · exact .inr (by omega)
        · have := hk.size
          have := h₂.size
          rcases hb with h1 | h1
          · have := hO3 b h1; omega
          · exact h1.2
        · rcases hk.fresh b c hb with h1 | h1
          · exact (hp b c h1).imp id fun x => ⟨.inl x.1, x.2⟩
          · refine .inr ⟨.inr h1, fun ho => ?_⟩
            have := hlt c (.inr ho)
            omega
  exact key h O (RWk.refl O w) (fun _ h => h) (fun _ h => .inl h) (fun b hb => hlt b (.inr hb)) fun b c hb => .inl (hp b c hb)
end Go.Proofs.Ytfecdmenliohhaa

set_option linter.unusedSimpArgs false
set_option linter.unusedVariables false
namespace Go.Proofs.Ytfecdmenliohhaa
open Go Go.Conc
open Go.ConcN (sumTo upd sumTo_upd upd_ne upd_same)
open Go.ConcR (g_of_ofEvents)

/-- The others only draw. -/
def RL (_ : OwnB) (w w₁ : World) : Prop := ∃ d, w₁ = w.at d
theorem RL.refl (S : OwnB) (w : World) : RL S w w := ⟨w.drawn, rfl⟩
theorem RL.trans (S : OwnB) (a b c : World) (h : RL S a b) (k : RL S b c) : RL S a c := by
  obtain ⟨_, rfl⟩ := h
  obtain ⟨d, rfl⟩ := k
  exact ⟨d, rfl⟩
/-- What it lists: its own blocks; reads of those that it may read. -/
def EvLn (Rd : Nat → Prop) (S : OwnB) (e : Event) : Prop := (e.sync = false ∧ (placeIn S e.loc ∨ (placeIn Rd e.loc ∧ e.write = false))) ∨ e = ⟨.mark .noRoom, false, true⟩
structure GL (Rd : Nat → Prop) (S S' : OwnB) (w w' : World) (es : Array Event) : Prop where
  tape : w'.tape = w.tape
  os : w'.os = w.os
  output : w'.output = w.output
  size : w.heap.size ≤ w'.heap.size
  other : ∀ b, b < w.heap.size → ¬ S b → w'.heap[b]? = w.heap[b]?
  grow : ∀ b, S b → S' b
  fresh : ∀ b, S' b → S b ∨ (w.heap.size ≤ b ∧ b < w'.heap.size)
  ev : ∀ e ∈ es, EvLn Rd S' e
/-- What it has done since. -/
structure KL (S S' : OwnB) (w w' : World) : Prop where
  tape : w'.tape = w.tape
  os : w'.os = w.os
  output : w'.output = w.output
  size : w.heap.size ≤ w'.heap.size
  other : ∀ b, b < w.heap.size → ¬ S b → w'.heap[b]? = w.heap[b]?
  grow : ∀ b, S b → S' b
  fresh : ∀ b, S' b → S b ∨ (w.heap.size ≤ b ∧ b < w'.heap.size)
theorem KL.refl (S : OwnB) (w : World) : KL S S w w := ⟨rfl, rfl, rfl, Nat.le_refl _, fun _ _ _ => rfl, fun _ h => h, fun _ h => .inl h⟩
theorem KL.trans {S S₁ S₂ : OwnB} {a b c : World} (h : KL S S₁ a b) (k : KL S₁ S₂ b c) : KL S S₂ a c := by
  refine ⟨k.tape.trans h.tape, k.os.trans h.os, k.output.trans h.output, Nat.le_trans h.size k.size, fun x hx hn => ?_, fun x hx => k.grow x (h.grow x hx), fun x hx => ?_⟩
  · rw [k.other x (Nat.lt_of_lt_of_le hx h.size) fun hs => ?_]
    · exact h.other x hx hn
    · rcases h.fresh x hs with h1 | ⟨h1, _⟩
      · exact hn h1
      · omega
  · rcases k.fresh x hx with h1 | ⟨h1, h2⟩
    · exact (h.fresh x h1).imp id fun y => ⟨y.1, Nat.lt_of_lt_of_le y.2 k.size⟩
    · exact .inr ⟨Nat.le_trans h.size h1, h2⟩
theorem KL.at (S : OwnB) (w : World) (d : Nat) : KL S S w (w.at d) := ⟨rfl, rfl, rfl, Nat.le_refl _, fun _ _ _ => rfl, fun _ h => h, fun _ h => .inl h⟩
theorem GL.kl {Rd : Nat → Prop} {S S' : OwnB} {w w' : World} {es : Array Event} (h : GL Rd S S' w w' es) : KL S S' w w' := ⟨h.tape, h.os, h.output, h.size, h.other, h.grow, h.fresh⟩

/-- The machine: goroutine 0 stands as a in w; all others only leave. -/
def BesM (P : Program) (Shun : Loc → Prop) (a : Goroutine) (w : World) (m : Machine) (t : Trace) : Prop :=
  ∃ (gs : Array Goroutine) (sl : Option (Nat × Nat)) (q : Nat → Nat), m = crowd gs w sl ∧ gs[0]? = some a ∧ Leavers P t gs q ∧ Past Shun w.heap.size t ∧ ∀ c, w.heap.size ≤ c → NoShun Shun c
theorem BesM.fresh {P : Program} {Shun : Loc → Prop} {a : Goroutine} {w : World} {m : Machine} {t : Trace} (h : BesM P Shun a w m t) {ad : Addr} (hb : w.heap.size ≤ ad.block) : NoRelease ad t := by
  obtain ⟨gs, sl, q, rfl, h0, hL, hP, hf⟩ := h
  intro i hi
  obtain ⟨op, ho, ha⟩ := Option.map_eq_some_iff.1 (show Option.map MemOp.act t[i]? = some (.mark (.release ad)) from hi)
  have := hP.seen op (Array.mem_of_getElem? ho)
  rw [ha] at this
  have : ad.block < w.heap.size := this
  omega

theorem evL_of_ln {Rd : Nat → Prop} {S : OwnB} {Shun : Loc → Prop} {B : Nat} {e : Event} (h : EvLn Rd S e) (hq : ∀ c, Rd c ∨ S c → c < B ∧ NoShun Shun c) : EvL Shun B e := by
  obtain ⟨loc, wr, sy⟩ := e
  have key : ∀ {Q : Nat → Prop}, placeIn Q loc → (∀ c, Q c → c < B ∧ NoShun Shun c) → sy = false → EvL Shun B ⟨loc, wr, sy⟩ := by
    rintro Q (⟨a, rfl, h2⟩ | ⟨b, rfl, h2⟩) hQ rfl
    · exact evL_cell a wr ((hQ _ h2).2.1 a rfl) (hQ _ h2).1
    · refine ⟨fun x hx hsx => ?_, by simp, by simp, ?_⟩
      · cases wr <;>
        · simp only [MemAct.ofEvent, MemAct.touch?, Option.some.injEq] at hx
          subst hx
          exact absurd hsx (hQ _ h2).2.2
      · cases wr <;> exact (hQ _ h2).1
  rcases h with ⟨hs, hl | ⟨hl, _⟩⟩ | h
  · exact key hl (fun c hc => hq c (.inr hc)) hs
  · exact key hl (fun c hc => hq c (.inl hc)) hs
  · cases h
    exact ⟨fun x hx => by simp [MemAct.ofEvent, MemAct.touch?] at hx, by simp, by simp, trivial⟩

theorem norel_app {ad : Addr} {t : Trace} {g : Nat} {fn : FuncId} {pos : String} {es : Array Event} (h : NoRelease ad t) (he : ∀ e ∈ es, e.loc ≠ .mark (.release ad)) : NoRelease ad (t ++ MemOp.ofEvents g fn pos es) := by
  intro i hi
  obtain ⟨op, ho, ha⟩ := Option.map_eq_some_iff.1 (show Option.map MemOp.act (t ++ MemOp.ofEvents g fn pos es)[i]? = some (.mark (.release ad)) from hi)
  rcases getElem?_append_cases ho with ⟨hlt, h1⟩ | ⟨_, h1⟩
  · exact h i (show Option.map MemOp.act t[i]? = _ by rw [h1]; exact congrArg some ha)
  · rw [ofEvents_eq] at h1
    obtain ⟨e, hm, rfl⟩ := Array.mem_map.1 h1
    refine he e hm ?_
    obtain ⟨loc, wr, sy⟩ := e
    simp only at ha ⊢
    cases loc with
    | mark m => simp only [MemAct.ofEvent] at ha; simpa using ha
    | cell a => cases wr <;> cases sy <;> simp [MemAct.ofEvent] at ha
    | obj b => cases wr <;> cases sy <;> simp [MemAct.ofEvent] at ha
    | output => simp [MemAct.ofEvent] at ha
    | goroutines => simp [MemAct.ofEvent] at ha
theorem ln_norel {Rd : Nat → Prop} {S : OwnB} {e : Event} (h : EvLn Rd S e) (ad : Addr) : e.loc ≠ .mark (.release ad) := by
  rcases h with ⟨_, h | ⟨h, _⟩⟩ | rfl
  · rcases h with ⟨a, h, _⟩ | ⟨b, h, _⟩ <;> rw [h] <;> simp
  · rcases h with ⟨a, h, _⟩ | ⟨b, h, _⟩ <;> rw [h] <;> simp
  · simp
theorem mute_norel {e : Event} (h : e.mute = true) (ad : Addr) : e.loc ≠ .mark (.release ad) := by
  obtain ⟨loc, wr, sy⟩ := e
  rintro rfl
  cases h

section
variable {P : Program} {Rd : Nat → Prop} {Shun : Loc → Prop} {Stop : OwnB → Goroutine → World → Prop}
set_option maxHeartbeats 1000000 in
/-- ████ BESIDE LEAVERS, ON WHATEVER TAPE. ████ -/
theorem beside_GG {S : OwnB} {a : Goroutine} {w₀ : World} (hGG : GG P true RL (GL Rd) Stop S a w₀) :
    ∀ (M : Nat) (gs : Array Goroutine) (w : World) (sl : Option (Nat × Nat)) (t : Trace) (q : Nat → Nat), RL S w₀ w → sumTo gs.size q ≤ M → gs[0]? = some a → Leavers P t gs q → Past Shun w.heap.size t →
      (∀ c, Rd c ∨ S c → c < w.heap.size ∧ NoShun Shun c) → (∀ c, w.heap.size ≤ c → NoShun Shun c) →
      ∃ (N : Nat) (gs' : Array Goroutine) (a' : Goroutine) (w' : World) (sl' : Option (Nat × Nat)) (t' : Trace) (q' : Nat → Nat) (S' : OwnB),
        runNT P N (crowd gs w sl) t = (.next (crowd gs' w' sl'), t') ∧ gs'[0]? = some a' ∧ Stop S' a' w' ∧ Leavers P t' gs' q' ∧ Past Shun w'.heap.size t' ∧
        KL S S' w w' ∧ (∀ c, Rd c ∨ S' c → c < w'.heap.size ∧ NoShun Shun c) ∧ (∀ c, w'.heap.size ≤ c → NoShun Shun c) ∧ ∀ ad, NoRelease ad t → NoRelease ad t' := by
  induction hGG with
  | @stop S g w₀ hs =>
    intro M gs w sl t q hr hM h0 hL hP hp hf
    exact ⟨0, gs, g, w, sl, t, q, S, rfl, h0, hs w hr, hL, hP, .refl _ _, hp, hf, fun _ h => h⟩
  | @step S g w₀ nx hrun hstep _ ih =>
    intro M
    induction M using Nat.strongRecOn with
    | _ M ihM =>
      intro gs w sl t q hr hM h0 hL hP hp hf
      have haw : ∀ x ∈ gs, awake x := by
        intro x hx
        obtain ⟨i, hi, rfl⟩ := Array.mem_iff_getElem.1 hx
        rcases Nat.eq_zero_or_pos i with rfl | hpos
        · have : gs[0] = g := by simpa [Array.getElem?_eq_getElem hi] using h0
          rw [this]; exact awake_of (.inl hrun)
        · exact awake_of ((hL.old i _ hpos (Array.getElem?_eq_getElem hi)).status.elim .inl fun x => .inr (.inr x))
      obtain ⟨i, x, d, sl', hi, hx, hst⟩ := crowd_pick (P := P) (w := w) (sl := sl) haw ⟨0, g, h0, hrun⟩
      have hlt : i < gs.size := (Array.getElem?_eq_some_iff.1 hi).1
      have hrd : RL S w₀ (w.at d) := RL.trans S _ _ _ hr ⟨d, rfl⟩
      rcases Nat.eq_zero_or_pos i with rfl | hpos
      · -- goroutine 0 takes a step
        obtain rfl : x = g := by rw [h0] at hi; exact (Option.some.inj hi).symm
        obtain ⟨es, hgo, hk⟩ := hstep (w.at d) hrd
        have hrunT := runT_crowd_go (P := P) (sl := sl') (i := 0) hi (show stepG P (0 == 0) x (w.at d) = _ from hgo)
        have hsz : ((gs.map (woken P x (nx (w.at d)).2.1 (nx (w.at d)).2.2)).setIfInBounds 0 (nx (w.at d)).2.1).size = gs.size := by simp
        have hkl : KL S (nx (w.at d)).1 w (nx (w.at d)).2.2 := (KL.at S w d).trans hk.kl
        have hq' : ∀ c, Rd c ∨ (nx (w.at d)).1 c → c < (nx (w.at d)).2.2.heap.size ∧ NoShun Shun c := by
          intro c hc
          rcases hc with hc | hc
          · exact ⟨Nat.lt_of_lt_of_le (hp c (.inl hc)).1 hkl.size, (hp c (.inl hc)).2⟩
          · rcases hkl.fresh c hc with h | ⟨h1, h2⟩
            · exact ⟨Nat.lt_of_lt_of_le (hp c (.inr h)).1 hkl.size, (hp c (.inr h)).2⟩
            · exact ⟨h2, hf c h1⟩
        obtain ⟨N, gs', a'', w'', sl'', t', q', S', r1, r3, r4, r5, r6, r7, r8, r9, r10⟩ := ih (w.at d) hrd (sumTo gs.size q) _ (nx (w.at d)).2.2 sl' (t ++ MemOp.ofEvents 0 x.frame.fn x.frame.place es) q (RL.refl _ _) (by rw [hsz]; exact Nat.le_refl _) (by simp [hlt])
          (hL.own (a := x) (a' := (nx (w.at d)).2.1) (w' := (nx (w.at d)).2.2) hlt x.frame.fn x.frame.place es)
          ((hP.mono hkl.size).own fun e he => evL_of_ln (hk.ev e he) hq') hq' (fun c hc => hf c (Nat.le_trans hkl.size hc))
        exact ⟨N + 1, gs', a'', w'', sl'', t', q', S', by simp only [runNT, hst, hrunT]; exact r1, r3, r4, r5, r6, hkl.trans r7, r8, r9, fun ad h => r10 ad (norel_app h fun e he => ln_norel (hk.ev e he) ad)⟩
      · -- a leaver slips
        have hq := hL.old i x hpos hi
        have hi0 : (i == 0) = false := by simp; omega
        cases hqi : q i with
        | zero => rw [hqi] at hq; rw [hq.1] at hx; cases hx
        | succ k =>
          rw [hqi] at hq
          rcases hq with ⟨hff, _⟩ | ⟨_, g', es, hm, hstp, hq'⟩
          · rw [hff] at hx; cases hx
          have hrunT := runT_crowd_go (P := P) (sl := sl') (i := i) hi (by rw [hi0]; exact hstp (w.at d))
          have hsz : ((gs.map (woken P x g' (w.at d))).setIfInBounds i g').size = gs.size := by simp
          have hsum : sumTo gs.size (upd q i k) + (k + 1) = sumTo gs.size q + k := by
            have := sumTo_upd q k id hlt
            simpa [hqi] using this
          obtain ⟨N, gs', a'', w'', sl'', t', q', S', r1, r3, r4, r5, r6, r7, r8, r9, r10⟩ := ihM (sumTo gs.size (upd q i k)) (by omega) ((gs.map (woken P x g' (w.at d))).setIfInBounds i g') (w.at d) sl' (t ++ MemOp.ofEvents i x.frame.fn x.frame.place es) (upd q i k) hrd (by rw [hsz]; exact Nat.le_refl _)
            (by
              have hne : i ≠ 0 := by omega
              rw [Array.getElem?_setIfInBounds_ne hne, Array.getElem?_map, h0]
              simp [woken_run hrun])
            ⟨fun j y hj hy => by
              by_cases hji : i = j
              · subst hji
                rw [Array.getElem?_setIfInBounds_self_of_lt (by simpa using hlt)] at hy
                obtain rfl := Option.some.inj hy
                rw [upd_same, Deaf_own]
                exact hq'
              · rw [Array.getElem?_setIfInBounds_ne hji, Array.getElem?_map] at hy
                obtain ⟨z, hz, rfl⟩ := Option.map_eq_some_iff.1 hy
                have hqj := hL.old j z hj hz
                rw [woken_quitsD hqj, upd_ne q k (Ne.symm hji), Deaf_other t hji _ g_of_ofEvents]
                exact hqj, fun j hj => by
              rw [Deaf_other t (g' := i) (by simp at hj; omega) _ g_of_ofEvents]
              exact hL.above j (by simpa using hj)⟩
            (hP.mute (by omega) hm) hp hf
          exact ⟨N + 1, gs', a'', w'', sl'', t', q', S', by simp only [runNT, hst, hrunT]; exact r1, r3, r4, r5, r6, (KL.at S w d).trans r7, r8, r9, fun ad h => r10 ad (norel_app h fun e he => mute_norel (hm e he) ad)⟩

/-- The same, of the machine. -/
theorem BesM.walk {S : OwnB} {a : Goroutine} {w : World} {m : Machine} {t : Trace} (h : BesM P Shun a w m t) (hGG : GG P true RL (GL Rd) Stop S a w) (hp : ∀ c, Rd c ∨ S c → c < w.heap.size ∧ NoShun Shun c) :
    ∃ N m' t' a' w' S', runNT P N m t = (.next m', t') ∧ BesM P Shun a' w' m' t' ∧ Stop S' a' w' ∧ KL S S' w w' ∧ (∀ c, Rd c ∨ S' c → c < w'.heap.size ∧ NoShun Shun c) ∧ ∀ ad, NoRelease ad t → NoRelease ad t' := by
  obtain ⟨gs, sl, q, rfl, h0, hL, hP, hf⟩ := h
  obtain ⟨N, gs', a', w', sl', t', q', S', r1, r3, r4, r5, r6, r7, r8, r9, r10⟩ := beside_GG hGG _ gs w sl t q (RL.refl _ _) (Nat.le_refl _) h0 hL hP hp hf
  exact ⟨N, _, t', a', w', S', r1, ⟨gs', sl', q', rfl, r3, r5, r6, r9⟩, r4, r7, r8, r10⟩
end
end Go.Proofs.Ytfecdmenliohhaa

set_option linter.unusedSimpArgs false
set_option linter.unusedVariables false
namespace Go.Proofs.Ytfecdmenliohhaa
open Go Go.Conc Go.ConcN
open Go.ConcR (Payload DC0)

theorem GWk.read {X : PX} {i : Nat} {O : OwnB} {w : World} {es : Array Event} (h : ∀ e ∈ es, EvWk X i O e) : GWk X i O O w w es := ⟨rfl, rfl, rfl, Nat.le_refl _, fun _ _ _ _ => rfl, id, fun _ _ => rfl, fun _ h => h, fun _ h => .inl h, h⟩
theorem GWk.idle {X : PX} {i : Nat} (O : OwnB) (w : World) : GWk X i O O w w #[] := .read fun e he => by simp at he

theorem fl3 {F : World → Prop} {w w₁ : World} (h : F w) (r : F w → F w₁) : F w₁ := r h

section
variable {P : Program} {X : PX} {i : Nat} {O : OwnB} {Stop : OwnB → Goroutine → World → Prop} {g g' : Goroutine} {w : World} {F : World → Prop}

/-- A stretch that neither turns the world nor lists anything. -/
theorem stretchW {n : Nat} (hFS : ∀ w w₁, RWk X i O w w₁ → F w → F w₁) (h : Goes P false (fun w w₁ => F w → F w₁) DC0 (GG P false (RWk X i) (GWk X i) Stop O) n g w) : GG P false (RWk X i) (GWk X i) Stop O g w :=
  GG.of_goes (fun w w₁ hr h => hFS w w₁ hr h) (fun w w' es h => by obtain ⟨rfl, rfl⟩ := h; exact GWk.idle O _) h (fun g w hs => hs) RWk.refl

theorem run_call_clo {o : Oper} {f : FuncId} {fn : Func} {a : Act} {opd : Operand} {x y : Array Value} {args : Array Operand} {ats : Array TypeId} (hop : o.op = .call { callee := .value opd, args, argTypes := ats }) (hv : a.eval opd = .func (.func f) x y)
    (hf : P.funcs[f]? = some fn) (hname : (fn.name == "runtime.NumGoroutine") = false) (hb : fn.body.isNone = false) : (execOp a.eval o).run P w = .ok (.enter f (x ++ args.map a.eval ++ y)) w ∧ ∀ es, (execOp a.eval o).events P w es = es := by
  have h1 : ¬ fn.name = "runtime.NumGoroutine" := by simpa using hname
  have h2 : ¬ fn.body = none := by cases hx : fn.body <;> simp_all
  constructor
  · unfold execOp
    simp [hop, resolve, Deferred.ofValue, invoke, callFunc, hf, h1, h2, hv]
  · intro es
    unfold execOp
    simp [hop, resolve, Deferred.ofValue, invoke, callFunc, hf, h1, h2, hv]

section
variable {main : Bool} {R : OwnB → World → World → Prop} {D : OwnB → OwnB → World → World → Array Event → Prop} {b : Frame} {a : Act} {k : List Item} {cs : List Frame} {ops : Array Oper} {ix : Nat} {rest : List Nat} {o : Oper}
/-- A closure is entered. -/
theorem GG.callClo (hD : ∀ O w, D O O w w #[]) (tr : ∀ O a b c, R O a b → R O b c → R O a c) {f : FuncId} {fn : Func} {c : Code} {opd : Operand} {x y : Array Value} {args : Array Operand} {ats : Array TypeId}
    (ho : ops[ix]? = some o) (hw : Region.wanted o (yielded ops a.tmps) = true) (hk : b.kind ≠ .early) (hop : o.op = .call { callee := .value opd, args, argTypes := ats }) (hv : a.eval opd = .func (.func f) x y)
    (hf : P.funcs[f]? = some fn) (hname : (fn.name == "runtime.NumGoroutine") = false) (hb : fn.body = some c)
    (h : GG P main R D Stop O (G ((base f).at { tmps := (x ++ args.map a.eval ++ y) ++ Array.replicate (fn.ntmps - (x ++ args.map a.eval ++ y).size) undef, defers := [] } [.code c]) (b.at a (.inRegion ops (ix :: rest) :: k) :: cs)) w) :
    GG P main R D Stop O (G (b.at a (.inRegion ops (ix :: rest) :: k)) cs) w := by
  have hb' : fn.body.isNone = false := by rw [hb]; rfl
  refine .ctl hD tr rfl (fun w => ?_) h
  have hr := run_call_clo (P := P) (w := w) (a := a) hop hv hf hname hb'
  rw [stepG_enter ho hw hk hr.1, enter_at _ hf hb]
  unfold listed
  rw [hr.2, seen_none]

/-- A frame that has no result leaves. -/
theorem GG.leave0 (hD : ∀ O w, D O O w w #[]) (tr : ∀ O a b c, R O a b → R O b c → R O a c) {fn : Func} {b₀ : Frame} {a₀ : Act} {todo : List Item} (hn : b.kind = .normal) (hd : a.defers = []) (hf : P.funcs[b.fn]? = some fn) (hr : fn.results = #[])
    (h : GG P main R D Stop O (G (b₀.at (a₀.put ((ops[ix]?).bind (·.dst)) (.tuple #[])) (.inRegion ops rest :: k)) cs) w) :
    GG P main R D Stop O (G { b.at a todo with mode := .returning } (b₀.at a₀ (.inRegion ops (ix :: rest) :: k) :: cs)) w :=
  .ctl hD tr rfl (fun w => by rw [stepG_leave hn hd hf (results_none hr _ P w) (events_results_none hr _ _), Frame.finish_at]) h
end

theorem stepG_leaving {main : Bool} {cs : List Frame} {c f : Frame} {fn : Func} {v : Value} (h1 : f.mode = .returning) (h2 : f.defers = []) (h3 : f.kind = .normal) (h4 : P.funcs[f.fn]? = some fn) (h5 : (results fn f.tmps).runT P w #[] = (.ok v w, #[])) :
    stepG P main (rec' f (c :: cs)) w = .go (G (c.finish v) cs) w #[] := by
  have hr : (results fn f.tmps).run P w = .ok v w := by rw [← Sem.runT_fst P _ w #[], h5]
  have he : (results fn f.tmps).events P w #[] = #[] := by have := Sem.runT_eq P (results fn f.tmps) w #[]; rw [h5] at this; exact (Prod.mk.inj this).2.symm
  simp [G, rec', stepG, h1, unwind, doReturn, h2, h3, h4, hr, he, seen, GStep.after]

/-- A call of a function by its name, by its lone contract, in company. -/
theorem GG.callM {C : Cx} {L : List FuncId} (H : ListOk P C L) {Rv : Value → World → Prop} {f : FuncId} {fn : Func} {c : Code} (hF : C.F f) {b : Frame} {a : Act} {k : List Item} {cs : List Frame} {ops : Array Oper} {ix : Nat} {rest : List Nat} {o : Oper} {args : Array Operand} {ats : Array TypeId}
    (ho : ops[ix]? = some o) (hw : Region.wanted o (yielded ops a.tmps) = true) (hk : b.kind ≠ .early) (hop : o.op = .call { callee := .value (.func f), args, argTypes := ats })
    (hf : P.funcs[f]? = some fn) (hname : (fn.name == "runtime.NumGoroutine") = false) (hb : fn.body = some c)
    {wv : World} {p : Ren} {xv : Array Value} (hcl : ∀ T d, Calls P f xv (World.tp wv T d) (fun | .returned v, w₁ => Rv v w₁ | _, _ => False)) (ha : ASame C p xv (args.map a.eval))
    (hW : ∀ w₁, RWk X i O w w₁ → WRel C p wv w₁) (hroC : ∀ b, X.Ro b → b ≠ X.C ∧ b ≠ X.Wg) (hOn : ∀ b, O b → ¬ X.Ro b) (hOC : ¬ O X.C) (hOW : ¬ O X.Wg) (hlt : ∀ b, X.Ro b ∨ O b → b < w.heap.size) (hCl : X.C < w.heap.size) (hWl : X.Wg < w.heap.size)
    (hp : ∀ b c, p b = some c → X.Ro c ∧ C.lock c)
    (h : ∀ q v v' w₁ O' w', Rv v w₁ → VRel C q v v' → RWk X i O w w' → (∀ b, O b → O' b) → (∀ b, O' b → O b ∨ w.heap.size ≤ b) → (∀ b, O' b → b < w'.heap.size) → GG P false (RWk X i) (GWk X i) Stop O' (G (b.at (a.put o.dst v') (.inRegion ops rest :: k)) cs) w') :
    GG P false (RWk X i) (GWk X i) Stop O (G (b.at a (.inRegion ops (ix :: rest) :: k)) cs) w := by
  refine .goes rfl fun w₁ h₁ => goes_call ho hw hk hop hf hname hb ⟨O, .idle O _, ?_⟩
  have hsz := h₁.size
  have hRI := mirrorC (main := false) (ct := b.at a (.inRegion ops (ix :: rest) :: k) :: cs) H hF hcl ha (hW w₁ h₁)
  rw [show rec' (Frame.enter P f (args.map a.eval) .normal) (b.at a (.inRegion ops (ix :: rest) :: k) :: cs) = G ((base f).at { tmps := args.map a.eval ++ Array.replicate (fn.ntmps - (args.map a.eval).size) undef, defers := [] } [.code c]) (b.at a (.inRegion ops (ix :: rest) :: k) :: cs) by rw [enter_at _ hf hb]; rfl] at hRI
  refine GG.of_RI hroC hRI hOn hOC hOW (fun b hb => Nat.lt_of_lt_of_le (hlt b hb) hsz) (by omega) (by omega) hp ?_
  rintro q O' g w' ⟨v, v', wv', f', fn', hR, hv, hwr, rfl, h1, h2, h3, h4, h5⟩ hrw hO hO2 hO3
  refine .ctl GWk.idle RWk.trans rfl (g' := G (b.at (a.put o.dst v') (.inRegion ops rest :: k)) cs) (fun w₂ => ?_) (h q v v' wv' O' w' hR hv (RWk.trans O _ _ _ h₁ hrw) hO (fun b hb => (hO2 b hb).imp id fun x => Nat.le_trans hsz x) hO3)
  have hfin : (b.at a (.inRegion ops (ix :: rest) :: k)).finish v' = b.at (a.put o.dst v') (.inRegion ops rest :: k) := by rw [Frame.finish_at, ho]; rfl
  have h6 : (results fn' f'.tmps).runT P w₂ #[] = (.ok v' w₂, #[]) := h5 w₂ #[]
  have := stepG_leaving (P := P) (main := false) (cs := cs) (c := b.at a (.inRegion ops (ix :: rest) :: k)) h1 h2 h3 h4 h6
  rw [hfin] at this
  exact this
end
end Go.Proofs.Ytfecdmenliohhaa
