/- The starter's steps: reads, new blocks, writes. Plain. Goroutine 0 beside leavers: what the mirror says is such a walk; rules of a walk; the first and the last step; the pool's phase between. Plain. -/
import Derived.Test.YtfecdmenliohhaaQLe13
import Derived.Test.YtfecdmenliohhaaQLe14
import Derived.Test.YtfecdmenliohhaaQLe11
import Derived.Laws.World
set_option linter.unusedVariables false
set_option linter.unusedSimpArgs false
set_option linter.unusedSimpArgs false
set_option linter.unusedVariables false
namespace Go.Proofs.Ytfecdmenliohhaa
open Go Go.Conc Go.ConcN
open Go.ConcR (Payload DC0 WgAt)

section
variable {X : PX} {S : OwnB} {w w₁ : World} {es : Array Event}
theorem GSt.read (h : ∀ e ∈ es, EvSt X S e) : GSt X S S w w es := ⟨rfl, rfl, rfl, Nat.le_refl _, fun _ _ _ => rfl, fun _ h => h, fun _ h => .inl h, h⟩
theorem GSt.new (o : Obj) : GSt X S (fun b => S b ∨ b = w.heap.size) w (w.alloc o) #[] := by
  have hs : (w.alloc o).heap = w.heap.push o := rfl
  refine ⟨rfl, rfl, rfl, by rw [hs, Array.size_push]; omega, fun b hb _ => ?_, fun _ h => .inl h, fun b h => ?_, fun e he => by simp at he⟩
  · show (w.heap.push o)[b]? = _
    rw [Array.getElem?_push_lt hb, Array.getElem?_eq_getElem hb]
  · rcases h with h | h
    · exact .inl h
    · exact .inr ⟨by omega, by subst h; rw [hs, Array.size_push]; omega⟩
theorem GSt.congr {T : OwnB} (hT : ∀ b, T b ↔ S b) (h : GSt X S S w w₁ es) : GSt X S T w w₁ es :=
  ⟨h.tape, h.os, h.output, h.size, h.other, fun b hb => (hT b).2 hb, fun b hb => .inl ((hT b).1 hb), fun e he => by
    have : T = S := funext fun b => propext (hT b)
    rw [this]; exact h.ev e he⟩
theorem live_put {ty : TypeId} {Wg : Nat} {a : Addr} {v : Value} (hne : a.block ≠ Wg) (h : WgLive ty Wg w) : WgLive ty Wg (w.setCell a v) := by
  obtain ⟨st, sm, h⟩ := h
  refine ⟨st, sm, ?_⟩
  show (w.setCell a v).heap[Wg]? = _
  rw [heap_setCell, if_neg hne]; exact h
theorem GSt.put {a : Addr} {v : Value} (hS : S a.block) (h : ∀ e ∈ es, e = ⟨.cell a, true, false⟩) : GSt X S S w (w.setCell a v) es := by
  refine ⟨rfl, rfl, rfl, by simp [World.setCell], fun b hb hn => ?_, fun _ h => h, fun _ h => .inl h, fun e he => ?_⟩
  · rw [heap_setCell, if_neg]
    rintro rfl
    exact hn hS
  · rw [h e he]
    exact .inl ⟨rfl, .inl (.inl ⟨a, rfl, hS⟩)⟩
theorem RSt.cellRo (h : RSt X S w w₁) {a : Addr} {v : Value} (hb : X.Ro a.block ∨ S a.block) (hc : w.cell? a = some v) : w₁.cell? a = some v := by
  rw [← hc]; unfold World.cell?; rw [h.held _ hb]
theorem GSt.readRo {a : Addr} (hb : X.Ro a.block ∨ S a.block) (h : ∀ e ∈ es, e = ⟨.cell a, false, false⟩) : GSt X S S w w es :=
  .read fun e he => by
    rw [h e he]
    rcases hb with hb | hb
    · exact .inl ⟨rfl, .inr ⟨.inl ⟨a, rfl, hb⟩, rfl⟩⟩
    · exact .inl ⟨rfl, .inl (.inl ⟨a, rfl, hb⟩)⟩
theorem alloc_cell (w : World) (o : Obj) {a : Addr} (h : a.block < w.heap.size) : (w.alloc o).cell? a = w.cell? a := by
  have hs : (w.alloc o).heap = w.heap.push o := rfl
  unfold World.cell?
  simp only [hs, Array.getElem?_push_lt h, Array.getElem?_eq_getElem h]
theorem alloc_cell0 (w : World) (v : Value) (e : TypeId) (z : Nat × Nat) : (w.alloc (.cells #[v] e z)).cell? ⟨w.heap.size, 0, none⟩ = some v := by
  have hs : (w.alloc (.cells #[v] e z)).heap = w.heap.push (.cells #[v] e z) := rfl
  simp [World.cell?, hs]

theorem live_alloc {ty : TypeId} {Wg : Nat} (o : Obj) (h : WgLive ty Wg w) : WgLive ty Wg (w.alloc o) := by
  obtain ⟨st, sm, h⟩ := h
  refine ⟨st, sm, ?_⟩
  have hs : (w.alloc o).heap = w.heap.push o := rfl
  have hlt := (Array.getElem?_eq_some_iff.1 h).1
  show (w.alloc o).heap[Wg]? = _
  rw [hs, Array.getElem?_push_lt hlt, ← Array.getElem?_eq_getElem hlt]; exact h
/-- What the starter keeps. -/
structure Ks (X : PX) (S : OwnB) (w w₁ : World) : Prop where
  size : w.heap.size ≤ w₁.heap.size
  held : ∀ b, X.Ro b ∨ S b → w₁.heap[b]? = w.heap[b]?
  pay : X.Pay w → X.Pay w₁
theorem Ks.refl (S : OwnB) (w : World) : Ks X S w w := ⟨Nat.le_refl _, fun _ _ => rfl, id⟩
theorem Ks.trans {a b c : World} (h : Ks X S a b) (k : Ks X S b c) : Ks X S a c := ⟨Nat.le_trans h.size k.size, fun b hb => (k.held b hb).trans (h.held b hb), k.pay ∘ h.pay⟩
theorem RSt.ks {S' : OwnB} (h : RSt X S' w w₁) (hS : ∀ b, S b → S' b) : Ks X S w w₁ := ⟨h.size, fun b hb => h.held b (hb.imp id (hS b)), h.pay⟩
theorem Ks.cellRo (h : Ks X S w w₁) {a : Addr} {v : Value} (hb : X.Ro a.block ∨ S a.block) (hc : w.cell? a = some v) : w₁.cell? a = some v := by
  rw [← hc]; unfold World.cell?; rw [h.held _ hb]
theorem Ks.alloc (hlt : ∀ b, X.Ro b ∨ S b → b < w.heap.size) (hC : X.C < w.heap.size) (o : Obj) : Ks X S w (w.alloc o) := by
  have hs : (w.alloc o).heap = w.heap.push o := rfl
  have hb : ∀ b, b < w.heap.size → (w.alloc o).heap[b]? = w.heap[b]? := fun b h => by rw [hs, Array.getElem?_push_lt h, Array.getElem?_eq_getElem h]
  exact ⟨by rw [hs, Array.size_push]; omega, fun b h => hb b (hlt b h), pay_of_block (hb _ hC)⟩
theorem Ks.put {a : Addr} (v : Value) (h1 : ¬ X.Ro a.block) (h2 : ¬ S a.block) (h3 : a.block ≠ X.C) : Ks X S w (w.setCell a v) := by
  have hb : ∀ b, a.block ≠ b → (w.setCell a v).heap[b]? = w.heap[b]? := fun b h => by rw [heap_setCell, if_neg h]
  refine ⟨by simp [World.setCell], fun b h => hb b ?_, pay_of_block (hb _ h3)⟩
  rintro rfl
  exact h.elim h1 h2
theorem Ks.aside (h : Aside X.Wg w w₁) (hW : ∀ b, X.Ro b ∨ S b → b ≠ X.Wg) (hC : X.C ≠ X.Wg) : Ks X S w w₁ := ⟨Nat.le_of_eq h.size.symm, fun b hb => h.block b (hW b hb), pay_of_block (h.block _ hC)⟩

/-- Blocks that the starter has made since, one cell each. -/
def OS (S : OwnB) (cl : List (Nat × Value)) : OwnB := fun b => S b ∨ ∃ x ∈ cl, b = x.1
structure St4 (X : PX) (S : OwnB) (w₀ : World) (cl : List (Nat × Value)) (w : World) : Prop where
  ks : Ks X S w₀ w
  low : ∀ x ∈ cl, w₀.heap.size ≤ x.1 ∧ x.1 < w.heap.size
  blk : ∀ x ∈ cl, ∃ e, w.heap[x.1]? = some (.cells #[x.2] e (0, 0))
theorem St4.cell {w₀ : World} {cl : List (Nat × Value)} (h : St4 X S w₀ cl w) {n : Nat} {v : Value} (hx : (n, v) ∈ cl) : w.cell? ⟨n, 0, none⟩ = some v ∧ w.frozen? ⟨n, 0, none⟩ = false := by
  obtain ⟨e, he⟩ := h.blk _ hx
  simp only at he
  exact ⟨by simp [World.cell?, he], by simp [World.frozen?, he]⟩
theorem St4.st {w₀ : World} {cl : List (Nat × Value)} (h : St4 X S w₀ cl w) (r : RSt X (OS S cl) w w₁) : St4 X S w₀ cl w₁ :=
  ⟨h.ks.trans (r.ks fun _ h => .inl h), fun x hx => ⟨(h.low x hx).1, Nat.lt_of_lt_of_le (h.low x hx).2 r.size⟩, fun x hx => let ⟨e, he⟩ := h.blk x hx; ⟨e, (r.held x.1 (.inr (.inr ⟨x, hx, rfl⟩))).trans he⟩⟩
theorem St4.aside {w₀ : World} {cl : List (Nat × Value)} (h : St4 X S w₀ cl w) (a : Aside X.Wg w w₁) (hW : ∀ b, X.Ro b ∨ S b → b ≠ X.Wg) (hC : X.C ≠ X.Wg) (hWl : X.Wg < w₀.heap.size) : St4 X S w₀ cl w₁ := by
  refine ⟨h.ks.trans (.aside a hW hC), fun x hx => ⟨(h.low x hx).1, by rw [a.size]; exact (h.low x hx).2⟩, fun x hx => ?_⟩
  obtain ⟨e, he⟩ := h.blk x hx
  exact ⟨e, (a.block x.1 (by have := (h.low x hx).1; omega)).trans he⟩
theorem St4.alloc {w₀ : World} {cl : List (Nat × Value)} (h : St4 X S w₀ cl w) (hlt : ∀ b, X.Ro b ∨ S b → b < w₀.heap.size) (hC : X.C < w₀.heap.size) (v : Value) (e : TypeId) : St4 X S w₀ ((w.heap.size, v) :: cl) (w.alloc (.cells #[v] e (0, 0))) := by
  have hs : (w.alloc (.cells #[v] e (0, 0))).heap = w.heap.push (.cells #[v] e (0, 0)) := rfl
  have hsz := h.ks.size
  refine ⟨h.ks.trans (.alloc (fun b hb => Nat.lt_of_lt_of_le (hlt b hb) hsz) (by omega) _), fun x hx => ?_, fun x hx => ?_⟩
  · rw [hs, Array.size_push]
    rcases List.mem_cons.1 hx with rfl | hx
    · exact ⟨hsz, by simp⟩
    · have := h.low x hx; omega
  · rcases List.mem_cons.1 hx with rfl | hx
    · exact ⟨e, by rw [hs]; simp⟩
    · obtain ⟨e', he⟩ := h.blk x hx
      have hlt := (h.low x hx).2
      exact ⟨e', by rw [hs, Array.getElem?_push_lt hlt, ← Array.getElem?_eq_getElem hlt]; exact he⟩
theorem GSt.newOS {cl : List (Nat × Value)} (v : Value) (o : Obj) : GSt X (OS S cl) (OS S ((w.heap.size, v) :: cl)) w (w.alloc o) #[] := by
  have h := GSt.new (X := X) (S := OS S cl) (w := w) o
  refine ⟨h.tape, h.os, h.output, h.size, h.other, fun b hb => ?_, fun b hb => h.fresh b ?_, fun e he => by simp at he⟩
  · exact hb.imp id fun ⟨x, hx, e⟩ => ⟨x, List.mem_cons_of_mem _ hx, e⟩
  · rcases hb with hb | ⟨x, hx, rfl⟩
    · exact .inl (.inl hb)
    · rcases List.mem_cons.1 hx with rfl | hx
      · exact .inr rfl
      · exact .inl (.inr ⟨x, hx, rfl⟩)
theorem St4.put {w₀ : World} {n : Nat} {v v' : Value} (h : St4 X S w₀ [(n, v)] w) (hlt : ∀ b, X.Ro b ∨ S b → b < w₀.heap.size) (hC : X.C < w₀.heap.size) : St4 X S w₀ [(n, v')] (w.setCell ⟨n, 0, none⟩ v') := by
  have hl := h.low (n, v) (by simp)
  simp only at hl
  refine ⟨h.ks.trans (.put _ (fun hr => ?_) (fun hr => ?_) (by simp only; omega)), fun x hx => ?_, fun x hx => ?_⟩
  · have := hlt n (.inl hr); omega
  · have := hlt n (.inr hr); omega
  · simp only [List.mem_cons, List.not_mem_nil, or_false] at hx
    subst hx
    simpa [World.setCell] using hl
  · simp only [List.mem_cons, List.not_mem_nil, or_false] at hx
    subst hx
    obtain ⟨e, he⟩ := h.blk (n, v) (by simp)
    refine ⟨e, ?_⟩
    rw [heap_setCell, if_pos rfl]
    simp only at he ⊢
    rw [he]
    simp

variable [Payload] {P : Program} {AnchW : OwnB → Goroutine → World → Prop}
/-- Where the starter goes from the head of its loop. -/
def spStop (P : Program) (X : PX) (AnchW : OwnB → Goroutine → World → Prop) : Nat → OwnB → Goroutine → World → Prop
  | 0 => StKd P X AnchW
  | r + 1 => StKdS P X (X.W - (r + 1)) (SpawnsG P X AnchW r)
theorem spawns_eq (r : Nat) {g : Goroutine} : SpawnsG P X AnchW r S g w = GG P true (RSt X) (GSt X) (spStop P X AnchW r) S g w := by cases r <;> rfl
end
end Go.Proofs.Ytfecdmenliohhaa

set_option linter.unusedSimpArgs false
set_option linter.unusedVariables false
namespace Go.Proofs.Ytfecdmenliohhaa
open Go Go.Conc Go.ConcN
open Go.ConcR (Payload DC0 WgAt stA g_of_ofEvents)

section
variable {P : Program} {Rd : Nat → Prop} {C : Cx}
/-- The mirror's word. -/
theorem GG.of_RIL {Stop0 : Ren → Goroutine → World → Prop} {Stop : OwnB → Goroutine → World → Prop} {p : Ren} {g : Goroutine} {w : World} (h : RI P C true Stop0 p g w) {S : OwnB}
    (hlt : ∀ b, Rd b ∨ S b → b < w.heap.size) (hp : ∀ b c, p b = some c → (Rd c ∧ C.lock c) ∨ S c)
    (k : ∀ q S' g w', Stop0 q g w' → KL S S' w w' → (∀ b, S' b → b < w'.heap.size) → (∀ b c, q b = some c → (Rd c ∧ C.lock c) ∨ S' c) → (∀ c, C.lock c → c < w.heap.size → w'.heap[c]? = w.heap[c]?) → GG P true RL (GL Rd) Stop S' g w') : GG P true RL (GL Rd) Stop S g w := by
  have key : ∀ {p : Ren} {g : Goroutine} {w₁ : World}, RI P C true Stop0 p g w₁ → ∀ S' : OwnB, KL S S' w w₁ → (∀ b, S' b → b < w₁.heap.size) → (∀ b c, p b = some c → (Rd c ∧ C.lock c) ∨ S' c) → (∀ c, C.lock c → c < w.heap.size → w₁.heap[c]? = w.heap[c]?) → GG P true RL (GL Rd) Stop S' g w₁ := by
    intro p g w₁ h
    induction h with
    | @stop p g w₁ hs =>
      intro S' hK hS hp hsm
      exact k p S' g w₁ (hs w₁ (.refl _ _)) hK hS hp hsm
    | @step p g w₁ nx hrun hstep _ ih =>
      intro S' hK hS hp hsm
      refine .mk hrun fun w₂ h₂ => ?_
      obtain ⟨d, rfl⟩ := h₂
      have hX : RelyX p w₁ (w₁.at d) := .at p w₁ d
      obtain ⟨es, hgo, hle, hk, hes⟩ := hstep _ hX
      have hsz : w.heap.size ≤ w₁.heap.size := hK.size
      have hsz2 : w₁.heap.size ≤ (nx (w₁.at d)).2.2.heap.size := hk.size
      have hG : GL Rd S' (fun b => S' b ∨ (w₁.heap.size ≤ b ∧ b < (nx (w₁.at d)).2.2.heap.size)) (w₁.at d) (nx (w₁.at d)).2.2 es := by
        refine ⟨hk.tape, hk.os, hk.output, hk.size, fun b hb hn => ?_, fun b hb => .inl hb, fun b hb => hb, fun e he => ?_⟩
        · by_cases him : ∃ b', p b' = some b
          · obtain ⟨b', hb'⟩ := him
            rcases hp b' b hb' with x | x
            · exact hk.locked b x.2 hb
            · exact absurd x hn
          · exact hk.other b hb fun b' hb' => him ⟨b', hb'⟩
        · rcases hes e he with ⟨hs, b, c, hb, hl, hw⟩ | h
          · refine .inl ⟨hs, ?_⟩
            have hpl : ∀ B : Nat → Prop, B c → placeIn B e.loc := fun B hB => by
              rcases hl with ⟨a, h1, h2⟩ | ⟨h1, _⟩
              · exact .inl ⟨a, h1, by rw [h2]; exact hB⟩
              · exact .inr ⟨c, h1, hB⟩
            rcases hk.fresh b c hb with h1 | h1
            · rcases hp b c h1 with x | x
              · refine .inr ⟨hpl _ x.1, ?_⟩
                cases hwr : e.write with
                | false => rfl
                | true => exact absurd x.2 (hw hwr)
              · exact .inl (hpl _ (.inl x))
            · exact .inl (hpl _ (.inr h1))
          · exact .inr h
      refine ⟨_, _, es, _, hgo, hG, ih _ hX _ (hK.trans ((KL.at S' w₁ d).trans hG.kl)) (fun b hb => ?_) (fun b c hb => ?_) fun c hc hlt' => (hk.locked c hc (Nat.lt_of_lt_of_le hlt' hsz)).trans (hsm c hc hlt')⟩
      · rcases hb with hb | hb
        · have := hS b hb; omega
        · exact hb.2
      · rcases hk.fresh b c hb with h1 | h1
        · exact (hp b c h1).imp id .inl
        · exact .inr (.inr h1)
  exact key h S (KL.refl S w) (fun b hb => hlt b (.inr hb)) hp fun _ _ _ => rfl
end

/-! ### rules of a walk -/
section
variable {P : Program} {Rd : Nat → Prop} {S : OwnB} {w w₁ : World} {es : Array Event}
theorem GL.read (h : ∀ e ∈ es, EvLn Rd S e) : GL Rd S S w w es := ⟨rfl, rfl, rfl, Nat.le_refl _, fun _ _ _ => rfl, fun _ h => h, fun _ h => .inl h, h⟩
theorem GL.idle (S : OwnB) (w : World) : GL Rd S S w w #[] := .read fun e he => by simp at he
theorem GL.readAt {a : Addr} (hb : Rd a.block ∨ S a.block) (h : ∀ e ∈ es, e = ⟨.cell a, false, false⟩) : GL Rd S S w w es :=
  .read fun e he => by
    rw [h e he]
    rcases hb with hb | hb
    · exact .inl ⟨rfl, .inr ⟨.inl ⟨a, rfl, hb⟩, rfl⟩⟩
    · exact .inl ⟨rfl, .inl (.inl ⟨a, rfl, hb⟩)⟩
theorem GL.new (o : Obj) : GL Rd S (fun b => S b ∨ b = w.heap.size) w (w.alloc o) #[] := by
  have hs : (w.alloc o).heap = w.heap.push o := rfl
  refine ⟨rfl, rfl, rfl, by rw [hs, Array.size_push]; omega, fun b hb _ => ?_, fun _ h => .inl h, fun b h => ?_, fun e he => by simp at he⟩
  · rw [hs, Array.getElem?_push_lt hb, Array.getElem?_eq_getElem hb]
  · rcases h with h | h
    · exact .inl h
    · exact .inr ⟨by omega, by subst h; rw [hs, Array.size_push]; omega⟩
theorem GL.put {a : Addr} {v : Value} (hS : S a.block) (h : ∀ e ∈ es, e = ⟨.cell a, true, false⟩) : GL Rd S S w (w.setCell a v) es := by
  refine ⟨rfl, rfl, rfl, by simp [World.setCell], fun b hb hn => ?_, fun _ h => h, fun _ h => .inl h, fun e he => ?_⟩
  · rw [heap_setCell, if_neg]
    rintro rfl
    exact hn hS
  · rw [h e he]
    exact .inl ⟨rfl, .inl (.inl ⟨a, rfl, hS⟩)⟩
/-- A stretch that neither turns the world nor lists anything. -/
theorem stretchL {F : World → Prop} {Stop : OwnB → Goroutine → World → Prop} {g : Goroutine} {n : Nat} (hF : ∀ w d, F w → F (w.at d))
    (h : Goes P true (fun w w₁ => F w → F w₁) DC0 (GG P true RL (GL Rd) Stop S) n g w) : GG P true RL (GL Rd) Stop S g w :=
  GG.of_goes (fun w w₁ hr h => by obtain ⟨d, rfl⟩ := hr; exact hF w d h) (fun w w' es h => by obtain ⟨rfl, rfl⟩ := h; exact GL.idle S _) h (fun g w hs => hs) RL.refl
theorem fl4 {F : World → Prop} {w w₁ : World} (h : F w) (r : F w → F w₁) : F w₁ := r h
end

/-! ### the first step, the last, the pool -/
section
variable {P : Program} {Shun : Loc → Prop}
theorem BesM.begin (a : Goroutine) (w : World) : BesM P (fun _ => False) a w (crowd #[a] w none) #[] :=
  ⟨#[a], none, fun _ => 0, rfl, rfl, leavers_one P a, (past_nil).mono (Nat.zero_le _), fun c _ => ⟨fun _ _ h => h, fun h => h⟩⟩
theorem BesM.ends {Post : Value → World → Prop} {a : Goroutine} {w : World} {m : Machine} {t : Trace} (h : BesM P Shun a w m t) (he : ∀ d, AtEnd P Shun w.heap.size Post a (w.at d)) :
    ∃ N last o w' t', runNT P (N + 1) m t = (.ended o w', t') ∧ runN P N m = .next last ∧ step P last = .ended o w' ∧ Good P Post last o w' t' := by
  obtain ⟨gs, sl, q, rfl, h0, hL, hP, hf⟩ := h
  exact beside_ends (D := fun _ _ _ => False) (n := 0) (fun _ _ _ h => h.elim) h0 hL hP (fun w₁ hr => by obtain ⟨d, rfl⟩ := hr; exact he d)

variable [Payload] {X : PX} {AnchW End : OwnB → Goroutine → World → Prop} {S : OwnB}
/-- ████ The pool's phase. ████ -/
theorem BesM.pool (K : PXOk X) (hAr : ∀ S g w, AnchW S g w → g.status = .running) (hEr : ∀ S g w, End S g w → g.status = .running) (hAn : ∀ S g w, AnchW S g w → GG P true (RSt X) (GSt X) (StW1 P X AnchW End) S g w)
    {a : Goroutine} {w : World} {m : Machine} {t : Trace} (h : BesM P Shun a w m t) (hn : NoRelease (stA X.Wg) t) (hwg : WgAt X.ty X.Wg w 0 0) (hpay : X.Pay w) (hB : ∀ b, X.Ro b ∨ S b ∨ b = X.Wg ∨ b = X.C → b < w.heap.size ∧ NoShun Shun b) (hS : ∀ b, S b → b ≠ X.Wg ∧ b ≠ X.C ∧ ¬ X.Ro b) (hsp : SpawnsG P X AnchW X.W S a w) :
    ∃ N m' t' a' w' S', runNT P N m t = (.next m', t') ∧ BesM P (fun l => Shun l ∨ ShN X.Wg l) a' w' m' t' ∧ End S' a' w' ∧ Hist X w w' ∧ (∀ k, k < X.n → w'.cell? ⟨X.C, k, none⟩ = some (X.val k)) ∧ X.Pay w' ∧ (∀ b, S' b → b < w'.heap.size) := by
  obtain ⟨gs, sl, q, rfl, h0, hL, hP, hf⟩ := h
  have hpos : 0 < gs.size := (Array.getElem?_eq_some_iff.1 h0).1
  obtain ⟨μ, hI⟩ := pbegin (P := P) (X := X) (AnchW := AnchW) (End := End) (Shun := Shun) (c := gs.size) (q := q) (gs := gs) (w := w) (sl := sl) (S := S) (a := a) (t := t) K hpos h0 rfl hL hP hn hwg hpay
    ⟨fun i hi => by omega, fun b hb => (hB b (.inr (.inl hb))).1, fun b hb => (hB b (.inl hb)).1, (hB _ (.inr (.inr (.inl rfl)))).1, (hB _ (.inr (.inr (.inr rfl)))).1, fun i k b hi => by omega, fun i b hi => by omega, fun i b hi => by omega, hS⟩
    (fun b hb => (hB b hb).2) hsp
  obtain ⟨N, m', t', hrun, gs', a', w', sl', S', q', rfl, hsz, h0', hE, hL', hP', hH, hpay', hval, hwg', hSl⟩ := pruns K hpos hAr hEr hAn μ _ _ hI
  refine ⟨N, _, t', a', w', S', hrun, ⟨gs', sl', q', rfl, h0', hL', hP', fun c hc => ?_⟩, hE, hH, hval, hpay', hSl⟩
  have h1 := hf c (Nat.le_trans hH.size hc)
  have h2 : c ≠ X.Wg := fun e => by
    have := (hB X.Wg (.inr (.inr (.inl rfl)))).1
    have := hH.size
    omega
  refine ⟨fun ad hb hs => hs.elim (h1.1 ad hb) fun hs => ?_, fun hs => hs.elim h1.2 fun hs => ?_⟩
  · obtain ⟨a, e, ha⟩ := hs
    cases e
    exact h2 (hb.symm.trans ha)
  · obtain ⟨a, e, ha⟩ := hs
    cases e
end
end Go.Proofs.Ytfecdmenliohhaa
