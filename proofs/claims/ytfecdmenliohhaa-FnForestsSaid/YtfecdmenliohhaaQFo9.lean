/- A pool: what each suffers and does; the workers' and the starter's situations. Plain. A pool: what holds of the machine and the trace at every moment; how it is kept. Plain. A pool: what holds of the machine at every moment ('PCom'), kept by each kind of step. Plain. A pool: a worker's step keeps the invariant and lowers the measure. Plain. A pool: the starter's step; the whole phase, on whatever tape. Plain. -/
import Derived.Test.YtfecdmenliohhaaQFo7
import Derived.Conc.CrowdRun
import Derived.Conc.FxBegin
set_option linter.unusedVariables false
set_option linter.unusedSimpArgs false
set_option linter.unusedSimpArgs false
set_option linter.unusedVariables false
namespace Go.Proofs.Ytfecdmenliohhaa
open Go Go.Conc Go.ConcN
open Go.ConcR (KK wgBlock WgAt stA smA rd wr mk Payload DC0 Bk g_of_ofEvents again_blocked)
variable [Payload]

structure PX where
  ty : TypeId
  Wg : Nat
  C : Nat
  n : Nat
  ety : TypeId
  Ro : Nat → Prop
  mine : Nat → Nat → Prop
  val : Nat → Value
  W : Nat

def PX.Pay (X : PX) (w : World) : Prop := ∃ cs : Array Value, w.heap[X.C]? = some (.cells cs X.ety) ∧ cs.size = X.n
def PX.Done (X : PX) (i : Nat) (w : World) : Prop := ∀ k, k < X.n → X.mine i k → w.cell? ⟨X.C, k, none⟩ = some (X.val k)
def placeIn (B : Nat → Prop) (l : Loc) : Prop := (∃ a : Addr, l = .cell a ∧ B a.block) ∨ ∃ b, l = .obj b ∧ B b
def OwnL (X : PX) (i : Nat) (O : OwnB) (l : Loc) : Prop := placeIn O l ∨ ∃ a : Addr, l = .cell a ∧ a.block = X.C ∧ X.mine i a.off

structure RWk (X : PX) (i : Nat) (O : OwnB) (w w₁ : World) : Prop where
  tape : w₁.tape = w.tape
  size : w.heap.size ≤ w₁.heap.size
  held : ∀ b, X.Ro b ∨ O b → w₁.heap[b]? = w.heap[b]?
  live : WgLive X.ty X.Wg w → WgLive X.ty X.Wg w₁
  pay : X.Pay w → X.Pay w₁
  cell : ∀ k, X.mine i k → w₁.cell? ⟨X.C, k, none⟩ = w.cell? ⟨X.C, k, none⟩
structure RSt (X : PX) (S : OwnB) (w w₁ : World) : Prop where
  tape : w₁.tape = w.tape
  size : w.heap.size ≤ w₁.heap.size
  held : ∀ b, X.Ro b ∨ S b → w₁.heap[b]? = w.heap[b]?
  live : WgLive X.ty X.Wg w → WgLive X.ty X.Wg w₁
  pay : X.Pay w → X.Pay w₁

def EvWk (X : PX) (i : Nat) (O : OwnB) (e : Event) : Prop :=
  (e.sync = false ∧ (placeIn O e.loc ∨ (placeIn X.Ro e.loc ∧ e.write = false) ∨ ∃ a : Addr, e.loc = .cell a ∧ a.block = X.C ∧ X.mine i a.off)) ∨ e = ⟨.mark .noRoom, false, true⟩
def EvSt (X : PX) (S : OwnB) (e : Event) : Prop :=
  (e.sync = false ∧ (placeIn S e.loc ∨ (placeIn X.Ro e.loc ∧ e.write = false))) ∨ e = ⟨.mark .noRoom, false, true⟩ ∨ ∃ a : Addr, a.block = X.Wg ∧ (e.loc = .mark (.read a) ∨ e.loc = .mark (.write a))

structure GWk (X : PX) (i : Nat) (O O' : OwnB) (w w' : World) (es : Array Event) : Prop where
  tape : w'.tape = w.tape
  os : w'.os = w.os
  output : w'.output = w.output
  size : w.heap.size ≤ w'.heap.size
  other : ∀ b, b < w.heap.size → ¬ O b → b ≠ X.C → w'.heap[b]? = w.heap[b]?
  pay : X.Pay w → X.Pay w'
  cells : ∀ k, ¬ X.mine i k → w'.cell? ⟨X.C, k, none⟩ = w.cell? ⟨X.C, k, none⟩
  grow : ∀ b, O b → O' b
  fresh : ∀ b, O' b → O b ∨ (w.heap.size ≤ b ∧ b < w'.heap.size)
  ev : ∀ e ∈ es, EvWk X i O' e
structure GSt (X : PX) (S S' : OwnB) (w w' : World) (es : Array Event) : Prop where
  tape : w'.tape = w.tape
  os : w'.os = w.os
  output : w'.output = w.output
  size : w.heap.size ≤ w'.heap.size
  other : ∀ b, b < w.heap.size → ¬ S b → w'.heap[b]? = w.heap[b]?
  grow : ∀ b, S b → S' b
  fresh : ∀ b, S' b → S b ∨ (w.heap.size ≤ b ∧ b < w'.heap.size)
  ev : ∀ e ∈ es, EvSt X S' e

/-- Where the blocks lie. -/
structure PXOk (X : PX) : Prop where
  cw : X.C ≠ X.Wg
  roW : ∀ b, X.Ro b → b ≠ X.Wg ∧ b ≠ X.C
  dis : ∀ i i' k, X.mine i k → X.mine i' k → i = i'
  cover : ∀ k, k < X.n → ∃ i, i < X.W ∧ X.mine i k
  few : X.W < 2147483648
structure OwnOk (X : PX) (j : Nat) (Ow : Nat → OwnB) (S : OwnB) (B : Nat) : Prop where
  wlt : ∀ i, i < j → ∀ b, Ow i b → b < B
  slt : ∀ b, S b → b < B
  rlt : ∀ b, X.Ro b → b < B
  gW : X.Wg < B
  gC : X.C < B
  dis : ∀ i k b, i < j → k < j → Ow i b → Ow k b → i = k
  disS : ∀ i b, i < j → Ow i b → ¬ S b
  wno : ∀ i b, i < j → Ow i b → b ≠ X.Wg ∧ b ≠ X.C ∧ ¬ X.Ro b
  sno : ∀ b, S b → b ≠ X.Wg ∧ b ≠ X.C ∧ ¬ X.Ro b

section
variable {X : PX} {i j : Nat} {O O' S S' : OwnB} {Ow : Nat → OwnB} {w w₁ w₂ w' : World} {es : Array Event}
omit [Payload] in
theorem RWk.refl (O : OwnB) (w : World) : RWk X i O w w := ⟨rfl, Nat.le_refl _, fun _ _ => rfl, id, id, fun _ _ => rfl⟩
omit [Payload] in
theorem RWk.trans (O : OwnB) (a b c : World) (h : RWk X i O a b) (k : RWk X i O b c) : RWk X i O a c :=
  ⟨k.tape.trans h.tape, Nat.le_trans h.size k.size, fun b hb => (k.held b hb).trans (h.held b hb), k.live ∘ h.live, k.pay ∘ h.pay, fun x hx => (k.cell x hx).trans (h.cell x hx)⟩
omit [Payload] in
theorem RWk.at (O : OwnB) (w : World) (d : Nat) : RWk X i O w (w.at d) := ⟨rfl, Nat.le_refl _, fun _ _ => rfl, id, id, fun _ _ => rfl⟩
omit [Payload] in
theorem RSt.refl (S : OwnB) (w : World) : RSt X S w w := ⟨rfl, Nat.le_refl _, fun _ _ => rfl, id, id⟩
omit [Payload] in
theorem RSt.trans (S : OwnB) (a b c : World) (h : RSt X S a b) (k : RSt X S b c) : RSt X S a c :=
  ⟨k.tape.trans h.tape, Nat.le_trans h.size k.size, fun b hb => (k.held b hb).trans (h.held b hb), k.live ∘ h.live, k.pay ∘ h.pay⟩
omit [Payload] in
theorem RSt.at (S : OwnB) (w : World) (d : Nat) : RSt X S w (w.at d) := ⟨rfl, Nat.le_refl _, fun _ _ => rfl, id, id⟩
omit [Payload] in
theorem live_of_block (e : w₁.heap[X.Wg]? = w.heap[X.Wg]?) : WgLive X.ty X.Wg w → WgLive X.ty X.Wg w₁ := fun ⟨st, sm, h⟩ => ⟨st, sm, h.of_block e⟩
omit [Payload] in
theorem pay_of_block (e : w₁.heap[X.C]? = w.heap[X.C]?) : X.Pay w → X.Pay w₁ := fun ⟨cs, h, hn⟩ => ⟨cs, e.trans h, hn⟩

omit [Payload] in
/-- Another worker's step. -/
theorem RWk.of_worker {i' : Nat} (K : PXOk X) (hO : OwnOk X j Ow S w.heap.size) (hi : i < j) (hi' : i' < j) (hne : i' ≠ i) (h : GWk X i' (Ow i') O' w w' es) : RWk X i (Ow i) w w' := by
  refine ⟨h.tape, h.size, fun b hb => ?_, live_of_block (h.other _ hO.gW (fun ho => (hO.wno i' _ hi' ho).1 rfl) (Ne.symm K.cw)), h.pay, fun k hk => h.cells k fun hk' => hne (K.dis _ _ _ hk' hk)⟩
  rcases hb with hb | hb
  · exact h.other b (hO.rlt b hb) (fun ho => (hO.wno i' b hi' ho).2.2 hb) (K.roW b hb).2
  · exact h.other b (hO.wlt i hi b hb) (fun ho => hne (hO.dis i' i b hi' hi ho hb)) (hO.wno i b hi hb).2.1
omit [Payload] in
theorem RSt.of_worker {i' : Nat} (K : PXOk X) (hO : OwnOk X j Ow S w.heap.size) (hi' : i' < j) (h : GWk X i' (Ow i') O' w w' es) : RSt X S w w' := by
  refine ⟨h.tape, h.size, fun b hb => ?_, live_of_block (h.other _ hO.gW (fun ho => (hO.wno i' _ hi' ho).1 rfl) (Ne.symm K.cw)), h.pay⟩
  rcases hb with hb | hb
  · exact h.other b (hO.rlt b hb) (fun ho => (hO.wno i' b hi' ho).2.2 hb) (K.roW b hb).2
  · exact h.other b (hO.slt b hb) (fun ho => hO.disS i' b hi' ho hb) (hO.sno b hb).2.1
omit [Payload] in
/-- The starter's step. -/
theorem RWk.of_starter (K : PXOk X) (hO : OwnOk X j Ow S w.heap.size) (hi : i < j) (h : GSt X S S' w w' es) : RWk X i (Ow i) w w' := by
  have hC := h.other X.C hO.gC fun ho => (hO.sno _ ho).2.1 rfl
  refine ⟨h.tape, h.size, fun b hb => ?_, live_of_block (h.other _ hO.gW fun ho => (hO.sno _ ho).1 rfl), pay_of_block hC, fun k _ => cell_of_block hC k⟩
  rcases hb with hb | hb
  · exact h.other b (hO.rlt b hb) fun ho => (hO.sno b ho).2.2 hb
  · exact h.other b (hO.wlt i hi b hb) fun ho => hO.disS i b hi hb ho
omit [Payload] in
/-- A turn of the group's block. -/
theorem RWk.of_wg (K : PXOk X) (hO : OwnOk X j Ow S w.heap.size) (hi : i < j) (h : Aside X.Wg w w') (hl : WgLive X.ty X.Wg w') : RWk X i (Ow i) w w' := by
  refine ⟨h.tape, Nat.le_of_eq h.size.symm, fun b hb => h.block b ?_, fun _ => hl, pay_of_block (h.block _ K.cw), fun k _ => cell_of_block (h.block _ K.cw) k⟩
  rcases hb with hb | hb
  · exact (K.roW b hb).1
  · exact (hO.wno i b hi hb).1
omit [Payload] in
theorem RSt.of_wg (K : PXOk X) (hO : OwnOk X j Ow S w.heap.size) (h : Aside X.Wg w w') (hl : WgLive X.ty X.Wg w') : RSt X S w w' := by
  refine ⟨h.tape, Nat.le_of_eq h.size.symm, fun b hb => h.block b ?_, fun _ => hl, pay_of_block (h.block _ K.cw)⟩
  rcases hb with hb | hb
  · exact (K.roW b hb).1
  · exact (hO.sno b hb).1

/-! ### what a step does to the ownership -/
omit [Payload] in
theorem OwnOk.worker (hO : OwnOk X j Ow S w.heap.size) (hi : i < j) (h : GWk X i (Ow i) O' w w' es) : OwnOk X j (upd Ow i O') S w'.heap.size := by
  have hs := h.size
  have cs : ∀ k b, k < j → upd Ow i O' k b → Ow k b ∨ (k = i ∧ w.heap.size ≤ b ∧ b < w'.heap.size) := fun k b hk hb => by
    by_cases e : k = i
    · subst e; rw [upd_same] at hb; exact (h.fresh b hb).imp id fun x => ⟨rfl, x⟩
    · rw [upd_ne _ _ e] at hb; exact .inl hb
  refine ⟨fun k hk b hb => ?_, fun b hb => Nat.lt_of_lt_of_le (hO.slt b hb) hs, fun b hb => Nat.lt_of_lt_of_le (hO.rlt b hb) hs, Nat.lt_of_lt_of_le hO.gW hs, Nat.lt_of_lt_of_le hO.gC hs, fun k k' b hk hk' hb hb' => ?_, fun k b hk hb hsb => ?_, fun k b hk hb => ?_, hO.sno⟩
  · rcases cs k b hk hb with h1 | ⟨_, _, h1⟩
    · exact Nat.lt_of_lt_of_le (hO.wlt k hk b h1) hs
    · exact h1
  · rcases cs k b hk hb with h1 | ⟨rfl, h1, _⟩ <;> rcases cs k' b hk' hb' with h2 | ⟨rfl, h2, _⟩
    · exact hO.dis k k' b hk hk' h1 h2
    · have := hO.wlt k hk b h1; omega
    · have := hO.wlt k' hk' b h2; omega
    · rfl
  · rcases cs k b hk hb with h1 | ⟨rfl, h1, _⟩
    · exact hO.disS k b hk h1 hsb
    · have := hO.slt b hsb; omega
  · rcases cs k b hk hb with h1 | ⟨rfl, h1, _⟩
    · exact hO.wno k b hk h1
    · exact ⟨fun e => by have := hO.gW; omega, fun e => by have := hO.gC; omega, fun e => by have := hO.rlt b e; omega⟩
omit [Payload] in
theorem OwnOk.starter (hO : OwnOk X j Ow S w.heap.size) (h : GSt X S S' w w' es) : OwnOk X j Ow S' w'.heap.size := by
  have hs := h.size
  refine ⟨fun k hk b hb => Nat.lt_of_lt_of_le (hO.wlt k hk b hb) hs, fun b hb => ?_, fun b hb => Nat.lt_of_lt_of_le (hO.rlt b hb) hs, Nat.lt_of_lt_of_le hO.gW hs, Nat.lt_of_lt_of_le hO.gC hs, hO.dis, fun k b hk hb hsb => ?_, hO.wno, fun b hb => ?_⟩
  · rcases h.fresh b hb with h1 | ⟨_, h1⟩
    · exact Nat.lt_of_lt_of_le (hO.slt b h1) hs
    · exact h1
  · rcases h.fresh b hsb with h1 | ⟨h1, _⟩
    · exact hO.disS k b hk hb h1
    · have := hO.wlt k hk b hb; omega
  · rcases h.fresh b hb with h1 | ⟨h1, _⟩
    · exact hO.sno b h1
    · exact ⟨fun e => by have := hO.gW; omega, fun e => by have := hO.gC; omega, fun e => by have := hO.rlt b e; omega⟩
omit [Payload] in
/-- A go statement: the child is given some of the starter's. -/
theorem OwnOk.spawn {B : Nat} {Oc : OwnB} (hO : OwnOk X j Ow S B) (hc : ∀ b, Oc b → S b) : OwnOk X (j + 1) (upd Ow j Oc) (fun b => S b ∧ ¬ Oc b) B := by
  have cs : ∀ k b, k < j + 1 → upd Ow j Oc k b → (k < j ∧ Ow k b) ∨ (k = j ∧ Oc b) := fun k b hk hb => by
    by_cases e : k = j
    · subst e; rw [upd_same] at hb; exact .inr ⟨rfl, hb⟩
    · rw [upd_ne _ _ e] at hb; exact .inl ⟨by omega, hb⟩
  refine ⟨fun k hk b hb => ?_, fun b hb => hO.slt b hb.1, hO.rlt, hO.gW, hO.gC, fun k k' b hk hk' hb hb' => ?_, fun k b hk hb hsb => ?_, fun k b hk hb => ?_, fun b hb => hO.sno b hb.1⟩
  · rcases cs k b hk hb with ⟨h0, h1⟩ | ⟨_, h1⟩
    · exact hO.wlt k h0 b h1
    · exact hO.slt b (hc b h1)
  · rcases cs k b hk hb with ⟨h0, h1⟩ | ⟨rfl, h1⟩ <;> rcases cs k' b hk' hb' with ⟨k0, h2⟩ | ⟨rfl, h2⟩
    · exact hO.dis k k' b h0 k0 h1 h2
    · exact absurd (hc b h2) (hO.disS k b h0 h1)
    · exact absurd (hc b h1) (hO.disS k' b k0 h2)
    · rfl
  · rcases cs k b hk hb with ⟨h0, h1⟩ | ⟨rfl, h1⟩
    · exact hO.disS k b h0 h1 hsb.1
    · exact hsb.2 h1
  · rcases cs k b hk hb with ⟨h0, h1⟩ | ⟨_, h1⟩
    · exact hO.wno k b h0 h1
    · exact hO.sno b (hc b h1)
end

/-! ### a worker -/
section
variable (P : Program) (X : PX)
/-- It has done its cells, it stands at the library's release. -/
def StW (i : Nat) (O : OwnB) (g : Goroutine) (w : World) : Prop := ∃ Cd v, O Cd ∧ AtR0 P X.ty X.Wg Cd 1 0 1 v g w ∧ X.Done i w
def nil2 : Nat → Loc → Prop := fun _ _ => False
/-- stage, fuel, deafness, rank. -/
inductive WS (i : Nat) : Nat → Nat → Nat → Rk → OwnB → Goroutine → World → Prop
  | work {r : Rk} {O : OwnB} {g : Goroutine} {w : World} : GGr P false (RWk X i) (GWk X i) (StW P X i) r O g w → WS i 7 0 0 r O g w
  | rest {Cd : Nat} {s m d : Nat} {r : Rk} {O : OwnB} {g : Goroutine} {w : World} : O Cd → s ≤ 6 → WSit P X.ty X.Wg Cd 1 nil2 nil2 0 1 undef s m d g w → WS i s m d r O g w
end
section
variable {P : Program} {X : PX} {i : Nat} {s m d : Nat} {r : Rk} {O : OwnB} {g : Goroutine} {w w₁ : World}
theorem RW.of_RWk {Cd : Nat} (h : RWk X i O w w₁) (hC : O Cd) : RW X.ty X.Wg Cd 1 0 (1 - 1) w w₁ := by
  have e := h.held Cd (.inr hC)
  exact ⟨fun b hb => by omega, h.live, fun ⟨cs, hc, hn⟩ => ⟨cs, e.trans hc, hn⟩, cell_of_block e _⟩
theorem StW.running (i : Nat) (O : OwnB) (g : Goroutine) (w : World) (h : StW P X i O g w) : g.status = .running := by obtain ⟨_, _, _, h, _⟩ := h; exact h.1
theorem WS.rely (h : WS P X i s m d r O g w) (hr : RWk X i O w w₁) : WS P X i s m d r O g w₁ := by
  cases h with
  | work h => exact .work (h.rely RWk.trans hr)
  | rest hC hs h => exact .rest hC hs (h.rely (RW.of_RWk hr hC))
theorem WS.status (h : WS P X i s m d r O g w) : g.status = .running ∨ g.status = .finished := by
  cases h with
  | work h => exact .inl (h.running (StW.running i) RWk.refl)
  | rest _ _ h => exact h.status
theorem WS.woken (h : WS P X i s m d r O g w) (a a' : Goroutine) (w' : World) : woken P a a' w' g = g := by
  unfold Go.Conc.woken
  split
  · exact again_running _ h.status
  · rfl
theorem WS.running_of (h : WS P X i s m d r O g w) (hs : s ≠ 1) : g.status = .running := by
  cases h with
  | work h => exact h.running (StW.running i) RWk.refl
  | rest _ _ h => exact h.running_of hs
end

/-! ### the starter -/
section
variable (P : Program) (X : PX) (AnchW End : OwnB → Goroutine → World → Prop)
def StAcq (S : OwnB) (g : Goroutine) (w : World) : Prop := g.status = .running ∧ ∃ g', stepG P true g w = .go g' w #[mk (.acquire (stA X.Wg))] ∧ GG P true (RSt X) (GSt X) End S g' w
def StKe (S : OwnB) (g : Goroutine) (w : World) : Prop := g.status = .running ∧ ∃ g', stepG P true g w = .go g' w #[mk .enable] ∧ GG P true (RSt X) (GSt X) (StAcq P X End) S g' w
def StW4 (S : OwnB) (g : Goroutine) (w : World) : Prop := g.status = .running ∧ (WgAt X.ty X.Wg w 0 0 → ∃ g', stepG P true g w = .go g' w #[rd (stA X.Wg)] ∧ GG P true (RSt X) (GSt X) (StKe P X End) S g' w)
def StW3 (S : OwnB) (g : Goroutine) (w : World) : Prop :=
  g.status = .running ∧ g.offers = none ∧ ((∃ st, WgAt X.ty X.Wg w st 0) → stepG P true g w = .go { g with status := .blocked } w #[]) ∧
    (WgAt X.ty X.Wg w 0 1 → ∃ g', stepG P true g w = .go g' (w.setCell (smA X.Wg) (.int .u32 0)) (semEvents (smA X.Wg)) ∧ GG P true (RSt X) (GSt X) (StW4 P X End) S g' (w.setCell (smA X.Wg) (.int .u32 0)))
def StW2 (vs : Nat) (S : OwnB) (g : Goroutine) (w : World) : Prop :=
  g.status = .running ∧ ∀ v : Nat, v < 2147483648 → WgAt X.ty X.Wg w (v * KK) 0 →
    (v = vs → ∃ g', stepG P true g w = .go g' (w.setCell (stA X.Wg) (.int .u64 (v * KK + 1))) #[rd (stA X.Wg), wr (stA X.Wg)] ∧ GG P true (RSt X) (GSt X) (StW3 P X End) S g' (w.setCell (stA X.Wg) (.int .u64 (v * KK + 1)))) ∧
    (v ≠ vs → ∃ g', stepG P true g w = .go g' w #[rd (stA X.Wg)] ∧ GG P true (RSt X) (GSt X) AnchW S g' w)
def StW1 (S : OwnB) (g : Goroutine) (w : World) : Prop :=
  g.status = .running ∧ ∀ v : Nat, v < 2147483648 → WgAt X.ty X.Wg w (v * KK) 0 → ∃ g', stepG P true g w = .go g' w #[rd (stA X.Wg)] ∧
    (v = 0 → GG P true (RSt X) (GSt X) (StKe P X End) S g' w) ∧ (v ≠ 0 → GG P true (RSt X) (GSt X) (StW2 P X AnchW End v) S g' w)
def StKd (S : OwnB) (g : Goroutine) (w : World) : Prop := g.status = .running ∧ ∃ g', stepG P true g w = .go g' w #[mk .disable] ∧ GG P true (RSt X) (GSt X) AnchW S g' w
def StGoS (j : Nat) (Next : OwnB → Goroutine → World → Prop) (S : OwnB) (g : Goroutine) (w : World) : Prop :=
  g.status = .running ∧ (WgLive X.ty X.Wg w → X.Pay w → ∃ g' child Oc, stepG P true g w = .spawn g' child w #[] ∧ child.status = .running ∧ (∀ b, Oc b → S b) ∧ GG P false (RWk X j) (GWk X j) (StW P X j) Oc child w ∧ Next (fun b => S b ∧ ¬ Oc b) g' w)
def StKeS (j : Nat) (Next : OwnB → Goroutine → World → Prop) (S : OwnB) (g : Goroutine) (w : World) : Prop := g.status = .running ∧ ∃ g', stepG P true g w = .go g' w #[mk .enable] ∧ GG P true (RSt X) (GSt X) (StGoS P X j Next) S g' w
def StA1 (j : Nat) (Next : OwnB → Goroutine → World → Prop) (S : OwnB) (g : Goroutine) (w : World) : Prop :=
  g.status = .running ∧ ∀ v : Nat, v < 2147483647 → WgAt X.ty X.Wg w (v * KK) 0 →
    ∃ g', stepG P true g w = .go g' (w.setCell (stA X.Wg) (.int .u64 ((v + 1) * KK))) #[rd (stA X.Wg), wr (stA X.Wg)] ∧ GG P true (RSt X) (GSt X) (StKeS P X j Next) S g' (w.setCell (stA X.Wg) (.int .u64 ((v + 1) * KK)))
def StKdS (j : Nat) (Next : OwnB → Goroutine → World → Prop) (S : OwnB) (g : Goroutine) (w : World) : Prop := g.status = .running ∧ ∃ g', stepG P true g w = .go g' w #[mk .disable] ∧ GG P true (RSt X) (GSt X) (StA1 P X j Next) S g' w
/-- r workers are still to be started. -/
def SpawnsG : Nat → OwnB → Goroutine → World → Prop
  | 0 => GG P true (RSt X) (GSt X) (StKd P X AnchW)
  | r + 1 => GG P true (RSt X) (GSt X) (StKdS P X (X.W - (r + 1)) (SpawnsG r))

def StopAt : CTag → OwnB → Goroutine → World → Prop
  | .sp r 5 => StKdS P X (X.W - (r + 1)) (SpawnsG P X AnchW r)
  | .sp r 4 => StA1 P X (X.W - (r + 1)) (SpawnsG P X AnchW r)
  | .sp r 3 => StKeS P X (X.W - (r + 1)) (SpawnsG P X AnchW r)
  | .sp r 2 => StGoS P X (X.W - (r + 1)) (SpawnsG P X AnchW r)
  | .sp _ _ => fun _ _ _ => False
  | .kd => StKd P X AnchW
  | .anch => AnchW
  | .w1 => StW1 P X AnchW End
  | .w2 vs => StW2 P X AnchW End vs
  | .w3 => StW3 P X End
  | .blk => fun _ _ _ => False
  | .w4 => StW4 P X End
  | .ke => StKe P X End
  | .acq => StAcq P X End
  | .ret => End
def jOf (W : Nat) : CTag → Nat
  | .sp r _ => W - (r + 1)
  | _ => W
def okTag (W : Nat) : CTag → Prop
  | .sp r _ => r < W
  | _ => True
def deafOf : CTag → Nat
  | .sp _ 5 | .sp _ 2 | .kd | .acq | .ret => 0
  | _ => 1
def flOf : CTag → Nat
  | .w3 => 1
  | _ => 0

inductive CS : CTag → Rk → OwnB → Goroutine → World → Prop
  | go {tag : CTag} {r : Rk} {S : OwnB} {g : Goroutine} {w : World} : okTag X.W tag → GGr P true (RSt X) (GSt X) (StopAt P X AnchW End tag) r S g w → CS tag r S g w
  | blk {r : Rk} {S : OwnB} {g : Goroutine} {w : World} : (∀ w₁, RSt X S w w₁ → StW3 P X End S g w₁) → CS .blk r S { g with status := .blocked } w
end

section
variable {P : Program} {X : PX} {AnchW End : OwnB → Goroutine → World → Prop} {tag : CTag} {r : Rk} {S : OwnB} {a : Goroutine} {w w' : World}
theorem StopAt.running (hAr : ∀ S g w, AnchW S g w → g.status = .running) (hEr : ∀ S g w, End S g w → g.status = .running) (S : OwnB) (g : Goroutine) (w : World) (h : StopAt P X AnchW End tag S g w) : g.status = .running := by
  unfold StopAt at h
  split at h <;> first | exact h.1 | exact h.elim | exact hAr _ _ _ h | exact hEr _ _ _ h
theorem CS.rely (h : CS P X AnchW End tag r S a w) (hr : RSt X S w w') : CS P X AnchW End tag r S a w' := by
  cases h with
  | go ht h => exact .go ht (h.rely RSt.trans hr)
  | blk h => exact .blk fun w₁ h₁ => h w₁ (RSt.trans S _ _ _ hr h₁)
theorem CS.status (hAr : ∀ S g w, AnchW S g w → g.status = .running) (hEr : ∀ S g w, End S g w → g.status = .running) (h : CS P X AnchW End tag r S a w) : (a.status = .running ∧ tag ≠ .blk) ∨ (a.status = .blocked ∧ tag = .blk) := by
  cases h with
  | go ht h =>
    refine .inl ⟨h.running (StopAt.running hAr hEr) RSt.refl, ?_⟩
    rintro rfl
    -- no goroutine stands at the blocked tag but blocked
    induction r generalizing a w S with
    | leaf => exact (h w (RSt.refl S w)).elim
    | node f ih =>
      rcases h.cases RSt.refl with h' | ⟨_, es, O', g', w', r', _, _, ⟨v, rfl⟩, h'⟩
      · exact (h' w (RSt.refl S w)).elim
      · exact ih v h'
  | blk h => exact .inr ⟨rfl, rfl⟩
theorem CS.wokenBy (hAr : ∀ S g w, AnchW S g w → g.status = .running) (hEr : ∀ S g w, End S g w → g.status = .running) (h : CS P X AnchW End tag r S a w) (hr : RSt X S w w') (g g' : Goroutine) :
    ∃ tag', CS P X AnchW End tag' r S (woken P g g' w' a) w' ∧ flOf tag' ≤ flOf tag + 1 ∧ (tag' = tag ∨ (tag = .blk ∧ tag' = .w3)) ∧ (mayWake P g = true → g'.status = .running → tag' ≠ .blk) := by
  have h' := h.rely hr
  unfold Go.Conc.woken
  split
  · rcases h'.status hAr hEr with ⟨hs, hne⟩ | ⟨_, rfl⟩
    · exact ⟨tag, by rw [again_running _ (.inl hs)]; exact h', by omega, .inl rfl, fun _ _ => hne⟩
    · cases h' with
      | go ht h'' =>
        exfalso
        rcases (CS.go ht h'').status hAr hEr with ⟨_, h1⟩ | ⟨h1, _⟩
        · exact h1 rfl
        · rw [h''.running (StopAt.running hAr hEr) RSt.refl] at h1; cases h1
      | blk hb =>
        have h3 := hb w' (RSt.refl S w')
        have key : ∀ g0 : Goroutine, (∀ w₁, RSt X S w' w₁ → StW3 P X End S g0 w₁) → GGr P true (RSt X) (GSt X) (StopAt P X AnchW End .w3) r S g0 w' := fun g0 hb => by
          cases r with
          | leaf => exact hb
          | node f => exact .inl hb
        have hk := key _ hb
        exact ⟨.w3, by rw [again_blocked h3.1 h3.2.1]; exact .go trivial hk, by simp [flOf], .inr ⟨rfl, rfl⟩, fun _ _ => by simp⟩
  · rename_i hc
    exact ⟨tag, h', by omega, .inl rfl, fun h1 h2 => absurd (by simp [h1, h2]) hc⟩
end
end Go.Proofs.Ytfecdmenliohhaa

set_option linter.unusedSimpArgs false
set_option linter.unusedVariables false
namespace Go.Proofs.Ytfecdmenliohhaa
open Go Go.Conc Go.ConcN
open Go.ConcR (KK wgBlock WgAt stA smA rd wr mk Payload DC0 Bk g_of_ofEvents again_blocked ofEvent_loc_mark ofEvent_cell ofEvent_mk)
variable [Payload]

/-- Who alone touches what. -/
def MP (X : PX) (c j : Nat) (Ow : Nat → OwnB) (S : OwnB) (g : Nat) (l : Loc) : Prop :=
  if g = 0 then placeIn S l ∨ (∃ a : Addr, l = .cell a ∧ a.block = X.C ∧ ∀ i, i < j → ¬ X.mine i a.off) else OwnL X (g - c) (Ow (g - c)) l

structure Hist (X : PX) (w₀ w : World) : Prop where
  tape : w.tape = w₀.tape
  os : w.os = w₀.os
  output : w.output = w₀.output
  size : w₀.heap.size ≤ w.heap.size
  ro : ∀ b, X.Ro b → w.heap[b]? = w₀.heap[b]?

section
variable {X : PX} {i j c g : Nat} {O O' S S' : OwnB} {Ow : Nat → OwnB} {w₀ w w₁ w₂ w' : World} {es : Array Event} {t : Trace} {Shun : Loc → Prop} {fn : FuncId} {pos : String}
omit [Payload] in
theorem placeIn.cases {B : Nat → Prop} {l : Loc} (h : placeIn B l) : ∃ b, B b ∧ ((∃ a : Addr, l = .cell a ∧ a.block = b) ∨ l = .obj b) := by
  rcases h with ⟨a, h1, h2⟩ | ⟨b, h1, h2⟩
  · exact ⟨_, h2, .inl ⟨a, h1, rfl⟩⟩
  · exact ⟨b, h2, .inr h1⟩
omit [Payload] in
theorem placeIn.both {B B' : Nat → Prop} {l : Loc} (h : placeIn B l) (h' : placeIn B' l) : ∃ b, B b ∧ B' b := by
  rcases h with ⟨a, rfl, h2⟩ | ⟨b, rfl, h2⟩ <;> rcases h' with ⟨a', e, h3⟩ | ⟨b', e, h3⟩ <;> cases e <;> exact ⟨_, h2, h3⟩
omit [Payload] in
theorem placeIn.cell {B : Nat → Prop} {a : Addr} (h : placeIn B (.cell a)) : B a.block := by
  rcases h with ⟨a', e, h2⟩ | ⟨b, e, h2⟩ <;> cases e
  exact h2
omit [Payload] in
theorem placeIn.low {B : Nat → Prop} {l : Loc} {N : Nat} (h : placeIn B l) (hB : ∀ b, B b → b < N) : l.low N := by
  rcases h with ⟨a, rfl, h2⟩ | ⟨b, rfl, h2⟩ <;> exact hB _ h2
omit [Payload] in
theorem MP.zero {l : Loc} : MP X c j Ow S 0 l = (placeIn S l ∨ (∃ a : Addr, l = .cell a ∧ a.block = X.C ∧ ∀ i, i < j → ¬ X.mine i a.off)) := by simp [MP]
omit [Payload] in
theorem MP.worker (hc : 0 < c) {l : Loc} : MP X c j Ow S (c + i) l = OwnL X i (Ow i) l := by
  have h1 : ¬ c + i = 0 := by omega
  have h2 : c + i - c = i := by omega
  simp only [MP, h1, if_false, h2]

omit [Payload] in
theorem tapart (K : PXOk X) (hO : OwnOk X j Ow S w.heap.size) (hc : 0 < c) : TApart (ShN X.Wg) (placeIn X.Ro) c j (MP X c j Ow S) := by
  have w0 : ∀ i l, i < j → OwnL X i (Ow i) l → ¬ (placeIn S l ∨ ∃ a : Addr, l = .cell a ∧ a.block = X.C ∧ ∀ i, i < j → ¬ X.mine i a.off) := by
    rintro i l hi (h1 | ⟨a, rfl, h1, h2⟩) (h3 | ⟨a', e, h3, h4⟩)
    · obtain ⟨b, hb, hb'⟩ := h1.both h3; exact hO.disS i b hi hb hb'
    · subst e; exact (hO.wno i _ hi h1.cell).2.1 h3
    · exact (hO.sno _ h3.cell).2.1 h1
    · cases e; exact h4 i hi h2
  refine ⟨fun g g' l hg hg' h h' => ?_, fun g l hg h hs => ?_, fun g l hg h hr => ?_, fun l hr hs => ?_⟩
  · rcases hg with rfl | ⟨k, hk, rfl⟩ <;> rcases hg' with rfl | ⟨k', hk', rfl⟩
    · rfl
    · rw [MP.zero] at h; rw [MP.worker hc] at h'; exact absurd h (w0 k' l hk' h')
    · rw [MP.worker hc] at h; rw [MP.zero] at h'; exact absurd h' (w0 k l hk h)
    · rw [MP.worker hc] at h h'
      rcases h with h1 | ⟨a, rfl, h1, h2⟩ <;> rcases h' with h3 | ⟨a', e, h3, h4⟩
      · obtain ⟨b, hb, hb'⟩ := h1.both h3; rw [hO.dis k k' b hk hk' hb hb']
      · subst e; exact absurd h3 (hO.wno k _ hk h1.cell).2.1
      · exact absurd h1 (hO.wno k' _ hk' h3.cell).2.1
      · cases e; rw [K.dis _ _ _ h2 h4]
  · obtain ⟨a, rfl, ha⟩ := hs
    rcases hg with rfl | ⟨k, hk, rfl⟩
    · rw [MP.zero] at h
      rcases h with h | ⟨a', e, h1, _⟩
      · exact (hO.sno _ h.cell).1 ha
      · cases e; exact K.cw (h1.symm.trans ha)
    · rw [MP.worker hc] at h
      rcases h with h | ⟨a', e, h1, _⟩
      · exact (hO.wno k _ hk h.cell).1 ha
      · cases e; exact K.cw (h1.symm.trans ha)
  · rcases hg with rfl | ⟨k, hk, rfl⟩
    · rw [MP.zero] at h
      rcases h with h | ⟨a', rfl, h1, _⟩
      · obtain ⟨b, hb, hb'⟩ := h.both hr; exact (hO.sno b hb).2.2 hb'
      · exact (K.roW _ hr.cell).2 h1
    · rw [MP.worker hc] at h
      rcases h with h | ⟨a', rfl, h1, _⟩
      · obtain ⟨b, hb, hb'⟩ := h.both hr; exact (hO.wno k b hk hb).2.2 hb'
      · exact (K.roW _ hr.cell).2 h1
  · obtain ⟨a, rfl, ha⟩ := hs
    exact (K.roW _ hr.cell).1 ha

/-! ### which entries the trace's law admits -/
/-- An entry of a step's list. -/
def EvG (X : PX) (Mg : Loc → Prop) (g B : Nat) (e : Event) : Prop :=
  (MemAct.ofEvent e).low B ∧ ∀ x, (MemAct.ofEvent e).touch? = some x → (ShN X.Wg x.loc ∧ x.kind ≠ .plain ∧ (x.kind = .said → g = 0)) ∨ (Mg x.loc ∧ x.kind = .plain) ∨ (placeIn X.Ro x.loc ∧ x.write = false ∧ x.kind = .plain)
omit [Payload] in
theorem okP_of {Mg : Loc → Prop} {B : Nat} (h : ∀ e ∈ es, EvG X Mg g B e) : ∀ op ∈ MemOp.ofEvents g fn pos es, OkP (ShN X.Wg) (placeIn X.Ro) Mg g B op := by
  intro op hop
  rw [ofEvents_eq] at hop
  obtain ⟨e, he, rfl⟩ := Array.mem_map.1 hop
  exact ⟨rfl, (h e he).1, (h e he).2⟩
omit [Payload] in
theorem evG_plain {Mg : Loc → Prop} {B : Nat} {e : Event} (hs : e.sync = false) (hl : e.loc.low B) (h : Mg e.loc ∨ (placeIn X.Ro e.loc ∧ e.write = false)) (hm : (∃ a, e.loc = .cell a) ∨ ∃ b, e.loc = .obj b) : EvG X Mg g B e := by
  obtain ⟨loc, wr, sy⟩ := e
  simp only at hs hl h hm
  subst hs
  rcases hm with ⟨a, rfl⟩ | ⟨b, rfl⟩
  · refine ⟨hl, fun x hx => ?_⟩
    simp only [MemAct.ofEvent, MemAct.touch?, Option.some.injEq] at hx
    subst hx
    rcases h with h | ⟨h1, h2⟩
    · exact .inr (.inl ⟨h, rfl⟩)
    · exact .inr (.inr ⟨h1, h2, rfl⟩)
  · cases wr <;>
    · refine ⟨hl, fun x hx => ?_⟩
      simp only [MemAct.ofEvent, MemAct.touch?, Option.some.injEq] at hx
      subst hx
      rcases h with h | ⟨h1, h2⟩
      · exact .inr (.inl ⟨h, rfl⟩)
      · exact .inr (.inr ⟨h1, h2, rfl⟩)
omit [Payload] in
theorem placeIn.mem {B : Nat → Prop} {l : Loc} (h : placeIn B l) : (∃ a, l = .cell a) ∨ ∃ b, l = .obj b := by
  rcases h with ⟨a, h1, _⟩ | ⟨b, h1, _⟩
  · exact .inl ⟨a, h1⟩
  · exact .inr ⟨b, h1⟩
omit [Payload] in
theorem evG_room {Mg : Loc → Prop} {B : Nat} : EvG X Mg g B ⟨.mark .noRoom, false, true⟩ := ⟨trivial, fun x hx => by simp [MemAct.ofEvent, MemAct.touch?] at hx⟩
omit [Payload] in
theorem evG_wk {B : Nat} {e : Event} (hO : ∀ b, O b → b < B) (hR : ∀ b, X.Ro b → b < B) (hC : X.C < B) (h : EvWk X i O e) : EvG X (OwnL X i O) g B e := by
  rcases h with ⟨hs, h | ⟨h, hw⟩ | ⟨a, ha, h1, h2⟩⟩ | rfl
  · exact evG_plain hs (h.low hO) (.inl (.inl h)) h.mem
  · exact evG_plain hs (h.low hR) (.inr ⟨h, hw⟩) h.mem
  · exact evG_plain hs (by rw [ha]; show a.block < B; omega) (.inl (.inr ⟨a, ha, h1, h2⟩)) (.inl ⟨a, ha⟩)
  · exact evG_room
omit [Payload] in
theorem evG_st {B : Nat} {e : Event} {Mg : Loc → Prop} (hM : ∀ l, placeIn S l → Mg l) (hO : ∀ b, S b → b < B) (hR : ∀ b, X.Ro b → b < B) (hW : X.Wg < B) (h : EvSt X S e) : EvG X Mg 0 B e := by
  rcases h with ⟨hs, h | ⟨h, hw⟩⟩ | rfl | ⟨a, ha, h⟩
  · exact evG_plain hs (h.low hO) (.inl (hM _ h)) h.mem
  · exact evG_plain hs (h.low hR) (.inr ⟨h, hw⟩) h.mem
  · exact evG_room
  · obtain ⟨loc, wr, sy⟩ := e
    simp only at h
    rcases h with rfl | rfl <;>
    · refine ⟨by show a.block < B; omega, fun x hx => ?_⟩
      simp only [MemAct.ofEvent, MemAct.touch?, Option.some.injEq] at hx
      subst hx
      exact .inl ⟨⟨a, rfl, ha⟩, by simp, fun _ => rfl⟩
omit [Payload] in
theorem evG_bk {B : Nat} {e : Event} {Mg : Loc → Prop} (hW : X.Wg < B) (h : Bk X.Wg e) : EvG X Mg g B e := by
  rcases h with h1 | h1 | ⟨a, wr, rfl, ha⟩
  · obtain ⟨loc, w, s⟩ := e; simp only at h1; subst h1; exact ⟨trivial, fun x hx => by simp [MemAct.ofEvent, MemAct.touch?] at hx⟩
  · obtain ⟨loc, w, s⟩ := e; simp only at h1; subst h1; exact ⟨trivial, fun x hx => by simp [MemAct.ofEvent, MemAct.touch?] at hx⟩
  · rw [EvG, ofEvent_cell]
    refine ⟨by show a.block < B; omega, fun x hx => ?_⟩
    simp only [MemAct.touch?, Option.some.injEq] at hx
    subst hx
    exact .inl ⟨⟨a, rfl, ha⟩, by simp, by simp⟩
omit [Payload] in
theorem evG_rel {B : Nat} {Mg : Loc → Prop} (a : Addr) (h : a.block < B) : EvG X Mg g B (mk (.releaseMerge a)) := ⟨h, fun x hx => by simp [mk, MemAct.ofEvent, MemAct.touch?] at hx⟩
omit [Payload] in
theorem evG_acq {B : Nat} {Mg : Loc → Prop} (a : Addr) (h : a.block < B) : EvG X Mg g B (mk (.acquire a)) := ⟨h, fun x hx => by simp [mk, MemAct.ofEvent, MemAct.touch?] at hx⟩
omit [Payload] in
theorem evWk_quiet {e : Event} (h : EvWk X i O e) : e.loc ≠ .mark .disable ∧ e.loc ≠ .mark .enable ∧ e.loc ≠ .mark (.release (stA X.Wg)) := by
  rcases h with ⟨_, h | ⟨h, _⟩ | ⟨a, ha, _⟩⟩ | rfl
  · rcases h.mem with ⟨a, e⟩ | ⟨b, e⟩ <;> rw [e] <;> simp
  · rcases h.mem with ⟨a, e⟩ | ⟨b, e⟩ <;> rw [e] <;> simp
  · rw [ha]; simp
  · simp
omit [Payload] in
theorem evSt_quiet {e : Event} (h : EvSt X S e) : e.loc ≠ .mark .disable ∧ e.loc ≠ .mark .enable ∧ e.loc ≠ .mark (.release (stA X.Wg)) := by
  rcases h with ⟨_, h | ⟨h, _⟩⟩ | rfl | ⟨a, _, h | h⟩
  · rcases h.mem with ⟨a, e⟩ | ⟨b, e⟩ <;> rw [e] <;> simp
  · rcases h.mem with ⟨a, e⟩ | ⟨b, e⟩ <;> rw [e] <;> simp
  · simp
  · rw [h]; simp
  · rw [h]; simp

/-! ### the trace's law under each kind of step -/
omit [Payload] in
theorem touch_low {B : Nat} (hs : ∀ op ∈ t, op.act.low B) {k : Nat} {x : Touch} (h : touchAt t k = some x) : x.loc.low B := by
  obtain ⟨op, ho, hx⟩ := touch_of h
  have hl := hs op (Array.mem_of_getElem? ho)
  cases hop : op.act with
  | access e => rw [hop] at hx hl; simp only [MemAct.touch?, Option.some.injEq] at hx; subst hx; exact hl
  | mark m => rw [hop] at hx hl; cases m <;> simp only [MemAct.touch?, Option.some.injEq, reduceCtorEq] at hx <;> subst hx <;> exact hl
  | _ => rw [hop] at hx; simp [MemAct.touch?] at hx

omit [Payload] in
theorem fresh_place {B : Nat} (hs : ∀ op ∈ t, op.act.low B) {l : Loc} {b : Nat} (hb : B ≤ b) (hl : (∃ a : Addr, l = .cell a ∧ a.block = b) ∨ l = .obj b) : ∀ k x, touchAt t k = some x → x.loc ≠ l := by
  intro k x hx e
  have h := touch_low hs hx
  rw [e] at h
  rcases hl with ⟨a, rfl, h1⟩ | rfl
  · have : a.block < B := h; omega
  · have : b < B := h; omega

omit [Payload] in
theorem TL.worker (K : PXOk X) (hc : 0 < c) (hO : OwnOk X j Ow S w.heap.size) (hi : i < j) (hG : GWk X i (Ow i) O' w w' es) (h : TL (ShN X.Wg) (placeIn X.Ro) Shun c j (MP X c j Ow S) w.heap.size t) :
    TL (ShN X.Wg) (placeIn X.Ro) Shun c j (MP X c j (upd Ow i O') S) w'.heap.size (t ++ MemOp.ofEvents (c + i) fn pos es) := by
  have hO' := hO.worker hi hG
  have hm : ∀ l, MP X c j (upd Ow i O') S (c + i) l = OwnL X i O' l := fun l => by rw [MP.worker hc, upd_same]
  refine h.app (tapart K hO' hc) (.inr ⟨i, hi, rfl⟩) hG.size (okP_of fun e he => ?_) (fun g' hg hne l hl => ?_) (fun l hl => ?_)
  · have := evG_wk (g := c + i) (B := w'.heap.size) (fun b hb => hO'.wlt i hi b (by rw [upd_same]; exact hb)) hO'.rlt hO'.gC (hG.ev e he)
    exact ⟨this.1, fun x hx => by rw [hm]; exact this.2 x hx⟩
  · rcases hg with rfl | ⟨k, hk, rfl⟩
    · rw [MP.zero] at hl ⊢; exact hl
    · rw [MP.worker hc] at hl ⊢
      rw [upd_ne _ _ (by omega)] at hl
      exact hl
  · rw [hm] at hl
    rw [MP.worker hc]
    rcases hl with hl | hl
    · obtain ⟨b, hb, hlb⟩ := hl.cases
      rcases hG.fresh b hb with h1 | ⟨h1, _⟩
      · refine .inl (.inl ?_)
        rcases hlb with ⟨a, rfl, rfl⟩ | rfl
        · exact .inl ⟨a, rfl, h1⟩
        · exact .inr ⟨b, rfl, h1⟩
      · exact .inr (fresh_place h.seen h1 hlb)
    · exact .inl (.inr hl)
omit [Payload] in
theorem TL.starter (K : PXOk X) (hc : 0 < c) (hO : OwnOk X j Ow S w.heap.size) (hG : GSt X S S' w w' es) (h : TL (ShN X.Wg) (placeIn X.Ro) Shun c j (MP X c j Ow S) w.heap.size t) :
    TL (ShN X.Wg) (placeIn X.Ro) Shun c j (MP X c j Ow S') w'.heap.size (t ++ MemOp.ofEvents 0 fn pos es) := by
  have hO' := hO.starter hG
  refine h.app (tapart K hO' hc) (.inl rfl) hG.size (okP_of fun e he => evG_st (S := S') (fun l hl => ?_) hO'.slt hO'.rlt hO'.gW (hG.ev e he)) (fun g' hg hne l hl => ?_) (fun l hl => ?_)
  · rw [MP.zero]; exact .inl hl
  · rcases hg with rfl | ⟨k, hk, rfl⟩
    · exact absurd rfl hne
    · rw [MP.worker hc] at hl ⊢; exact hl
  · rw [MP.zero] at hl ⊢
    rcases hl with hl | hl
    · obtain ⟨b, hb, hlb⟩ := hl.cases
      rcases hG.fresh b hb with h1 | ⟨h1, _⟩
      · refine .inl (.inl ?_)
        rcases hlb with ⟨a, rfl, rfl⟩ | rfl
        · exact .inl ⟨a, rfl, h1⟩
        · exact .inr ⟨b, rfl, h1⟩
      · exact .inr (fresh_place h.seen h1 hlb)
    · exact .inl (.inr hl)
omit [Payload] in
/-- A step that leaves the ownership. -/
theorem TL.still (K : PXOk X) (hc : 0 < c) (hO : OwnOk X j Ow S w.heap.size) (hg : Live c j g) (hev : ∀ e ∈ es, ∀ Mg, EvG X Mg g w.heap.size e) (hs : w'.heap.size = w.heap.size) (h : TL (ShN X.Wg) (placeIn X.Ro) Shun c j (MP X c j Ow S) w.heap.size t) :
    TL (ShN X.Wg) (placeIn X.Ro) Shun c j (MP X c j Ow S) w'.heap.size (t ++ MemOp.ofEvents g fn pos es) := by
  rw [hs]
  exact h.app (tapart K hO hc) hg (Nat.le_refl _) (okP_of fun e he => hev e he _) (fun _ _ _ _ hl => hl) (fun _ hl => .inl hl)
omit [Payload] in
theorem TL.spawn {Oc : OwnB} {x y : MemOp} (hc : 0 < c) (hx : x.g = 0 ∧ x.act = .go (c + j)) (hy : y.g = c + j ∧ y.act = .start) (h0 : Deaf t 0 = 0) (hk : Deaf t (c + j) = 0) (K : PXOk X) (hOc : ∀ b, Oc b → S b)
    (h : TL (ShN X.Wg) (placeIn X.Ro) Shun c j (MP X c j Ow S) w.heap.size t) : TL (ShN X.Wg) (placeIn X.Ro) Shun c (j + 1) (MP X c (j + 1) (upd Ow j Oc) (fun b => S b ∧ ¬ Oc b)) w.heap.size (t ++ #[x, y]) := by
  refine h.fork hx hy hc h0 hk (fun g hg l hl => ?_) (fun l hl => ?_)
  · rcases hg with rfl | ⟨k, hk, rfl⟩
    · rw [MP.zero] at hl ⊢
      rcases hl with hl | ⟨a, h1, h2, h3⟩
      · left
        rcases hl with ⟨a, e, h1⟩ | ⟨b, e, h1⟩
        · exact .inl ⟨a, e, h1.1⟩
        · exact .inr ⟨b, e, h1.1⟩
      · exact .inr ⟨a, h1, h2, fun i hi => h3 i (by omega)⟩
    · rw [MP.worker hc] at hl ⊢
      rwa [upd_ne _ _ (by omega)] at hl
  · rw [MP.worker hc, upd_same] at hl
    rw [MP.zero]
    rcases hl with hl | ⟨a, h1, h2, h3⟩
    · left
      rcases hl with ⟨a, e, h1⟩ | ⟨b, e, h1⟩
      · exact .inl ⟨a, e, hOc _ h1⟩
      · exact .inr ⟨b, e, hOc _ h1⟩
    · exact .inr ⟨a, h1, h2, fun i hi hm => by have := K.dis _ _ _ hm h3; omega⟩
end
end Go.Proofs.Ytfecdmenliohhaa

set_option linter.unusedSimpArgs false
set_option linter.unusedVariables false
namespace Go.Proofs.Ytfecdmenliohhaa
open Go Go.Conc Go.ConcN
open Go.ConcR (KK wgBlock WgAt stA smA rd wr mk Payload DC0 Bk g_of_ofEvents)
variable [Payload]

structure PCom (P : Program) (X : PX) (Shun : Loc → Prop) (c : Nat) (w₀ : World) (q : Nat → Nat) (j : Nat) (gs : Array Goroutine) (w : World) (t : Trace) (D : Nat → WD) (rk : Nat → Rk) (Ow : Nat → OwnB) (S : OwnB) (d0 : Nat) : Prop where
  size : gs.size = c + j
  old : ∀ i g, 0 < i → i < c → gs[i]? = some g → QuitsD P (q i) (Deaf t i) g
  wk : ∀ i, i < j → ∃ g, gs[c + i]? = some g ∧ WS P X i (D i).stage (D i).fuel (D i).deaf (rk i) (Ow i) g w
  tl : TL (ShN X.Wg) (placeIn X.Ro) Shun c j (MP X c j Ow S) w.heap.size t
  own : OwnOk X j Ow S w.heap.size
  norel : NoRelease (stA X.Wg) t
  deaf0 : Deaf t 0 = d0
  deafW : ∀ i, i < j → Deaf t (c + i) = (D i).deaf
  above : ∀ g, c + j ≤ g → Deaf t g = 0
  rel : ∀ i, i < j → (D i).stage ≤ 6 → ∃ r, RelBy (stA X.Wg) t (c + i) r
  has : ∀ i, i < j → (D i).stage ≤ 6 → X.Done i w
  pay : X.Pay w
  hist : Hist X w₀ w

omit [Payload] in
theorem PX.Done.cells {X : PX} {i : Nat} {w w' : World} (h : X.Done i w) (e : ∀ k, X.mine i k → w'.cell? ⟨X.C, k, none⟩ = w.cell? ⟨X.C, k, none⟩) : X.Done i w' := fun k hk hm => (e k hm).trans (h k hk hm)

section
variable {P : Program} {X : PX} {Shun : Loc → Prop} {c : Nat} {w₀ : World} {q : Nat → Nat} {j : Nat} {gs : Array Goroutine} {w w' : World} {t : Trace} {D : Nat → WD} {rk : Nat → Rk} {Ow : Nat → OwnB} {S S' : OwnB} {d0 : Nat}

theorem PCom.at (h : PCom P X Shun c w₀ q j gs w t D rk Ow S d0) (d : Nat) : PCom P X Shun c w₀ q j gs (w.at d) t D rk Ow S d0 :=
  ⟨h.size, h.old, fun i hi => let ⟨g, hg, hs⟩ := h.wk i hi; ⟨g, hg, hs.rely (RWk.at _ w d)⟩, h.tl, h.own, h.norel, h.deaf0, h.deafW, h.above, h.rel, h.has, h.pay, ⟨h.hist.tape, h.hist.os, h.hist.output, h.hist.size, h.hist.ro⟩⟩

/-- A step of worker number i. -/
theorem PCom.worker (hc : 0 < c) (h : PCom P X Shun c w₀ q j gs w t D rk Ow S d0) {i : Nat} (hi : i < j) {g g' : Goroutine} {fn : FuncId} {pos : String} {es : Array Event} {s' m' dd' : Nat} {r' : Rk} {O' : OwnB}
    (hrw : ∀ k, k < j → k ≠ i → RWk X k (Ow k) w w') (hs' : WS P X i s' m' dd' r' O' g' w')
    (htl : TL (ShN X.Wg) (placeIn X.Ro) Shun c j (MP X c j (upd Ow i O') S) w'.heap.size (t ++ MemOp.ofEvents (c + i) fn pos es)) (hown : OwnOk X j (upd Ow i O') S w'.heap.size)
    (hnr : ∀ e ∈ es, e.loc ≠ .mark (.release (stA X.Wg))) (hdeaf : deafBehind (D i).deaf es = dd')
    (hrel : s' ≤ 6 → ∃ r, RelBy (stA X.Wg) (t ++ MemOp.ofEvents (c + i) fn pos es) (c + i) r) (hhas : s' ≤ 6 → X.Done i w') (hpay : X.Pay w') (hist : Hist X w₀ w') :
    PCom P X Shun c w₀ q j ((gs.map (woken P g g' w')).setIfInBounds (c + i) g') w' (t ++ MemOp.ofEvents (c + i) fn pos es) (upd D i ⟨s', m', dd'⟩) (upd rk i r') (upd Ow i O') S d0 := by
  refine ⟨by simp [h.size], fun k x hk hkc hx => ?_, fun k hk => ?_, htl, hown, h.norel.app (norel_of hnr), by rw [Deaf_other t (by omega) _ g_of_ofEvents, h.deaf0], fun k hk => ?_, fun k hk => by rw [Deaf_other t (by omega) _ g_of_ofEvents]; exact h.above k hk, fun k hk hst => ?_, fun k hk hst => ?_, hpay, hist⟩
  · rw [get_map_set _ _ _ _ (by omega)] at hx
    obtain ⟨y, hy, rfl⟩ := Option.map_eq_some_iff.1 hx
    have hq := h.old k y hk hkc hy
    rw [woken_quitsD hq, Deaf_other t (by omega) _ g_of_ofEvents]
    exact hq
  · by_cases e : k = i
    · subst e
      exact ⟨g', get_map_set_same _ _ _ (by rw [h.size]; omega), by rw [upd_same, upd_same, upd_same]; exact hs'⟩
    · obtain ⟨x, hx, hsx⟩ := h.wk k hk
      refine ⟨x, by rw [get_map_set _ _ _ _ (by omega), hx, Option.map_some, hsx.woken], ?_⟩
      rw [upd_ne D _ e, upd_ne rk _ e, upd_ne Ow _ e]
      exact hsx.rely (hrw k hk e)
  · by_cases e : k = i
    · subst e; rw [Deaf_own, h.deafW k hk, upd_same]; exact hdeaf
    · rw [Deaf_other t (by omega) _ g_of_ofEvents, h.deafW k hk, upd_ne D _ e]
  · by_cases e : k = i
    · subst e; rw [upd_same] at hst; exact hrel hst
    · rw [upd_ne D _ e] at hst
      obtain ⟨r, hr⟩ := h.rel k hk hst
      exact ⟨r, hr.appOther g_of_ofEvents (by omega)⟩
  · by_cases e : k = i
    · subst e; rw [upd_same] at hst; exact hhas hst
    · rw [upd_ne D _ e] at hst
      exact (h.has k hk hst).cells (hrw k hk e).cell

/-- A step of the starter's. -/
theorem PCom.starter (hc : 0 < c) (h : PCom P X Shun c w₀ q j gs w t D rk Ow S d0) {a a' : Goroutine} {fn : FuncId} {pos : String} {es : Array Event}
    (hrw : ∀ k, k < j → RWk X k (Ow k) w w') (htl : TL (ShN X.Wg) (placeIn X.Ro) Shun c j (MP X c j Ow S') w'.heap.size (t ++ MemOp.ofEvents 0 fn pos es)) (hown : OwnOk X j Ow S' w'.heap.size)
    (hnr : ∀ e ∈ es, e.loc ≠ .mark (.release (stA X.Wg))) (hpay : X.Pay w') (hist : Hist X w₀ w') :
    PCom P X Shun c w₀ q j ((gs.map (woken P a a' w')).setIfInBounds 0 a') w' (t ++ MemOp.ofEvents 0 fn pos es) D rk Ow S' (deafBehind d0 es) := by
  refine ⟨by simp [h.size], fun k x hk hkc hx => ?_, fun k hk => ?_, htl, hown, h.norel.app (norel_of hnr), by rw [Deaf_own, h.deaf0], fun k hk => by rw [Deaf_other t (by omega) _ g_of_ofEvents, h.deafW k hk], fun k hk => by rw [Deaf_other t (by omega) _ g_of_ofEvents]; exact h.above k hk, fun k hk hst => ?_, fun k hk hst => (h.has k hk hst).cells (hrw k hk).cell, hpay, hist⟩
  · rw [get_map_set _ _ _ _ (by omega)] at hx
    obtain ⟨y, hy, rfl⟩ := Option.map_eq_some_iff.1 hx
    have hq := h.old k y hk hkc hy
    rw [woken_quitsD hq, Deaf_other t (by omega) _ g_of_ofEvents]
    exact hq
  · obtain ⟨x, hx, hsx⟩ := h.wk k hk
    exact ⟨x, by rw [get_map_set _ _ _ _ (by omega), hx, Option.map_some, hsx.woken], hsx.rely (hrw k hk)⟩
  · obtain ⟨r, hr⟩ := h.rel k hk hst
    exact ⟨r, hr.appOther g_of_ofEvents (by omega)⟩

/-- A step of an old leaver's. -/
theorem PCom.leaver (hc : 0 < c) (h : PCom P X Shun c w₀ q j gs w t D rk Ow S d0) {i k : Nat} (h0 : 0 < i) (hic : i < c) {g g' : Goroutine} {fn : FuncId} {pos : String} {es : Array Event}
    (hm : ∀ e ∈ es, Event.mute e = true) (hq : QuitsD P k (deafBehind (Deaf t i) es) g') :
    PCom P X Shun c w₀ (upd q i k) j ((gs.map (woken P g g' w)).setIfInBounds i g') w (t ++ MemOp.ofEvents i fn pos es) D rk Ow S d0 := by
  have hnr : ∀ e ∈ es, e.loc ≠ .mark (.release (stA X.Wg)) := fun e he hl => by
    have := hm e he
    obtain ⟨loc, wr, sy⟩ := e
    simp only at hl
    subst hl
    simp [Event.mute] at this
  refine ⟨by simp [h.size], fun k' x hk hkc hx => ?_, fun k' hk => ?_, h.tl.mute (g := i) fun op hop => ?_, h.own, h.norel.app (norel_of hnr), by rw [Deaf_other t (by omega) _ g_of_ofEvents, h.deaf0], fun k hk => by rw [Deaf_other t (by omega) _ g_of_ofEvents, h.deafW k hk], fun k hk => by rw [Deaf_other t (by omega) _ g_of_ofEvents]; exact h.above k hk, fun k hk hst => ?_, h.has, h.pay, h.hist⟩
  · by_cases e : k' = i
    · subst e
      rw [get_map_set_same _ _ _ (by rw [h.size]; omega)] at hx
      cases hx
      rw [upd_same, Deaf_own]
      exact hq
    · rw [get_map_set _ _ _ _ (Ne.symm e)] at hx
      obtain ⟨y, hy, rfl⟩ := Option.map_eq_some_iff.1 hx
      have hq := h.old k' y hk hkc hy
      rw [woken_quitsD hq, Deaf_other t (Ne.symm e) _ g_of_ofEvents, upd_ne _ _ e]
      exact hq
  · obtain ⟨x, hx, hsx⟩ := h.wk k' hk
    exact ⟨x, by rw [get_map_set _ _ _ _ (by omega), hx, Option.map_some, hsx.woken], hsx⟩
  · rw [ofEvents_eq] at hop
    obtain ⟨e, he, rfl⟩ := Array.mem_map.1 hop
    exact ⟨rfl, touch_mute (hm e he), low_mute (hm e he) _⟩
  · obtain ⟨r, hr⟩ := h.rel k hk hst
    exact ⟨r, hr.appOther g_of_ofEvents (by omega)⟩

/-- A go statement. -/
theorem PCom.spawn (K : PXOk X) (hc : 0 < c) (h : PCom P X Shun c w₀ q j gs w t D rk Ow S 0) {a' child : Goroutine} {x y : MemOp} {r : Rk} {Oc : OwnB} (hx : x.g = 0 ∧ x.act = .go (c + j)) (hy : y.g = c + j ∧ y.act = .start)
    (hOc : ∀ b, Oc b → S b) (hw : GGr P false (RWk X j) (GWk X j) (StW P X j) r Oc child w) :
    PCom P X Shun c w₀ q (j + 1) ((gs.setIfInBounds 0 a').push child) w (t ++ #[x, y]) (upd D j ⟨7, 0, 0⟩) (upd rk j r) (upd Ow j Oc) (fun b => S b ∧ ¬ Oc b) 0 := by
  have hm : ∀ op ∈ #[x, y], op = x ∨ op = y := by intro op hop; simpa using hop
  have hst : ∀ op ∈ #[x, y], op.act ≠ .mark .disable ∧ op.act ≠ .mark .enable := by
    intro op hop
    rcases hm op hop with rfl | rfl
    · rw [hx.2]; exact ⟨by simp, by simp⟩
    · rw [hy.2]; exact ⟨by simp, by simp⟩
  have hk : Deaf t (c + j) = 0 := h.above _ (Nat.le_refl _)
  refine ⟨by simp [h.size]; omega, fun i g hi hic hg => ?_, fun i hi => ?_, h.tl.spawn hc hx hy h.deaf0 hk K hOc, h.own.spawn hOc, h.norel.app fun op hop => ?_, by rw [Deaf_still t 0 _ hst, h.deaf0], fun i hi => ?_, fun g hg => by rw [Deaf_still t _ _ hst]; exact h.above g (by omega), fun i hi hs => ?_, fun i hi hs => ?_, h.pay, h.hist⟩
  · rw [Array.getElem?_push, if_neg (by simp [h.size]; omega), Array.getElem?_setIfInBounds_ne (by omega)] at hg
    rw [Deaf_still t _ _ hst]
    exact h.old i g hi hic hg
  · rcases Nat.lt_or_ge i j with hlt | hge
    · obtain ⟨g, hg, hsg⟩ := h.wk i hlt
      refine ⟨g, ?_, by rw [upd_ne D _ (by omega), upd_ne rk _ (by omega), upd_ne Ow _ (by omega)]; exact hsg⟩
      rw [Array.getElem?_push, if_neg (by simp [h.size]; omega), Array.getElem?_setIfInBounds_ne (by omega)]
      exact hg
    · obtain rfl : i = j := by omega
      refine ⟨child, ?_, by rw [upd_same, upd_same, upd_same]; exact .work hw⟩
      rw [show c + i = (gs.setIfInBounds 0 a').size by simp [h.size], Array.getElem?_push_size]
  · rcases hm op hop with rfl | rfl
    · rw [hx.2]; simp
    · rw [hy.2]; simp
  · rw [Deaf_still t _ _ hst]
    rcases Nat.lt_or_ge i j with hlt | hge
    · rw [h.deafW i hlt, upd_ne D _ (by omega)]
    · obtain rfl : i = j := by omega
      rw [upd_same]; exact hk
  · rcases Nat.lt_or_ge i j with hlt | hge
    · rw [upd_ne D _ (by omega)] at hs
      obtain ⟨r, hr⟩ := h.rel i hlt hs
      refine ⟨r, hr.appNot fun op hop => ?_⟩
      rcases hm op hop with rfl | rfl
      · rw [hx.1]; omega
      · rw [hy.1]; omega
    · obtain rfl : i = j := by omega
      rw [upd_same] at hs; simp at hs
  · rcases Nat.lt_or_ge i j with hlt | hge
    · rw [upd_ne D _ (by omega)] at hs
      exact h.has i hlt hs
    · obtain rfl : i = j := by omega
      rw [upd_same] at hs; simp at hs
end

/-! ### the invariant -/
/-- The starter has said 'acquire', hearing, behind every worker's release. -/
def AcqC (Wg c j : Nat) (t : Trace) : Prop :=
  ∃ q, t.act? q = some (.mark (.acquire (stA Wg))) ∧ t.g? q = some 0 ∧ t.heard q ∧ ∀ i, i < j → ∃ r, RelBy (stA Wg) t (c + i) r ∧ r < q
omit [Payload] in
theorem AcqC.app {Wg c j : Nat} {t u : Trace} (h : AcqC Wg c j t) (hu : ∀ i r, i < j → RelBy (stA Wg) t (c + i) r → RelBy (stA Wg) (t ++ u) (c + i) r) : AcqC Wg c j (t ++ u) := by
  obtain ⟨q, h1, h2, h3, h4⟩ := h
  have hq := lt_of_act? h1
  exact ⟨q, by rw [act?_old hq]; exact h1, by rw [g?_old hq]; exact h2, (heard_old hq).2 h3, fun i hi => let ⟨r, hr, hrq⟩ := h4 i hi; ⟨r, hu i r hi hr, hrq⟩⟩

abbrev Mu := Nat × ((Nat → Rk) × (Nat × Rk))
def LtMu (W : Nat) : Mu → Mu → Prop := Prod.Lex (· < ·) (Prod.Lex (LtV W) (Prod.Lex (· < ·) Rk.Lt))
omit [Payload] in
theorem ltMu_wf (W : Nat) : WellFounded (LtMu W) := (Prod.lex ⟨(· < ·), Nat.lt_wfRel.wf⟩ (Prod.lex ⟨LtV W, ltV_wf W⟩ (Prod.lex ⟨(· < ·), Nat.lt_wfRel.wf⟩ ⟨Rk.Lt, Rk.wf⟩))).wf

section
variable (P : Program) (X : PX) (AnchW End : OwnB → Goroutine → World → Prop) (Shun : Loc → Prop) (c : Nat) (w₀ : World)
def muOf (q : Nat → Nat) (j : Nat) (D : Nat → WD) (rk : Nat → Rk) (tag : CTag) (r0 : Rk) : Mu := (phi X.W (Vc j D) tag + Ssum j D, rk, 2 * Fsum j D + 2 * sumTo c q + flOf tag, r0)
def PInv (μ : Mu) (m : Machine) (t : Trace) : Prop :=
  ∃ (gs : Array Goroutine) (w : World) (sl : Option (Nat × Nat)) (D : Nat → WD) (rk : Nat → Rk) (Ow : Nat → OwnB) (S : OwnB) (q : Nat → Nat) (tag : CTag) (r0 : Rk) (a : Goroutine) (st sm : Int),
    m = crowd gs w sl ∧ gs[0]? = some a ∧ okTag X.W tag ∧ CS P X AnchW End tag r0 S a w ∧ PCom P X Shun c w₀ q (jOf X.W tag) gs w t D rk Ow S (deafOf tag) ∧ WgAt X.ty X.Wg w st sm ∧ Go.ConcN.Mode (jOf X.W tag) D tag st sm ∧
    (tag = .ret → AcqC X.Wg c X.W t) ∧ μ = muOf X c q (jOf X.W tag) D rk tag r0
end

section
variable {P : Program} {X : PX} {AnchW End : OwnB → Goroutine → World → Prop} {Shun : Loc → Prop} {c : Nat} {w₀ : World} {q : Nat → Nat} {gs : Array Goroutine} {w w' : World} {sl : Option (Nat × Nat)} {D : Nat → WD} {rk : Nat → Rk} {Ow : Nat → OwnB} {S S' : OwnB} {tag : CTag} {r0 : Rk} {a : Goroutine} {t : Trace}

omit [Payload] in
theorem jOf_retag {W : Nat} {tag tag' : CTag} (e : tag' = tag ∨ (tag = .blk ∧ tag' = .w3)) : jOf W tag' = jOf W tag ∧ deafOf tag' = deafOf tag ∧ (okTag W tag → okTag W tag') := by
  rcases e with rfl | ⟨rfl, rfl⟩
  · exact ⟨rfl, rfl, id⟩
  · exact ⟨rfl, rfl, fun _ => trivial⟩

omit [Payload] in
theorem jOf_le {W : Nat} (tag : CTag) : jOf W tag ≤ W := by cases tag <;> simp [jOf]

/-- WHATEVER STEP OF WORKER NUMBER i. -/
theorem pworker (hc : 0 < c) (hAr : ∀ S g w, AnchW S g w → g.status = .running) (hEr : ∀ S g w, End S g w → g.status = .running)
    (ha : gs[0]? = some a) (hok : okTag X.W tag) (hcs : CS P X AnchW End tag r0 S a w) (hcom : PCom P X Shun c w₀ q (jOf X.W tag) gs w t D rk Ow S (deafOf tag))
    {i : Nat} (hi : i < jOf X.W tag) {g g' : Goroutine} {es : Array Event} {s' m' dd' : Nat} {r' : Rk} {O' : OwnB} {st' sm' : Int} (hg : gs[c + i]? = some g) (hgo : stepG P false g w = .go g' w' es)
    (hst : RSt X S w w') (hrw : ∀ k, k < jOf X.W tag → k ≠ i → RWk X k (Ow k) w w') (hs' : WS P X i s' m' dd' r' O' g' w')
    (htl : TL (ShN X.Wg) (placeIn X.Ro) Shun c (jOf X.W tag) (MP X c (jOf X.W tag) (upd Ow i O') S) w'.heap.size (t ++ MemOp.ofEvents (c + i) g.frame.fn g.frame.place es)) (hown : OwnOk X (jOf X.W tag) (upd Ow i O') S w'.heap.size)
    (hnr : ∀ e ∈ es, e.loc ≠ .mark (.release (stA X.Wg))) (hdeaf : deafBehind (D i).deaf es = dd')
    (hrel : s' ≤ 6 → ∃ r, RelBy (stA X.Wg) (t ++ MemOp.ofEvents (c + i) g.frame.fn g.frame.place es) (c + i) r) (hhas : s' ≤ 6 → X.Done i w') (hpay : X.Pay w') (hist : Hist X w₀ w') (hwg : WgAt X.ty X.Wg w' st' sm')
    (hmode : ∀ tag', (tag' = tag ∨ (tag = .blk ∧ tag' = .w3)) → (mayWake P g = true → g'.status = .running → tag' ≠ .blk) → Go.ConcN.Mode (jOf X.W tag) (upd D i ⟨s', m', dd'⟩) tag' st' sm')
    (hacq : tag = .ret → AcqC X.Wg c X.W (t ++ MemOp.ofEvents (c + i) g.frame.fn g.frame.place es))
    (hlt : (s' < (D i).stage ∧ cnt ⟨s', m', dd'⟩ ≤ cnt (D i)) ∨ (s' = (D i).stage ∧ Rk.Lt r' (rk i)) ∨ (s' = (D i).stage ∧ r' = rk i ∧ m' + 1 = (D i).fuel)) :
    ∃ m₁ ops μ', runT P (crowd gs w sl) (c + i) = (.next m₁, ops) ∧ LtMu X.W μ' (muOf X c q (jOf X.W tag) D rk tag r0) ∧ PInv P X AnchW End Shun c w₀ μ' m₁ (t ++ ops) := by
  obtain ⟨tag', hcs', hfl, htag, hwk⟩ := hcs.wokenBy hAr hEr hst g g'
  obtain ⟨ej, ed, eo⟩ := jOf_retag (W := X.W) htag
  have hrun := runT_crowd_go (P := P) (sl := sl) (i := c + i) hg (by rw [show (c + i == 0) = false by simp; omega]; exact hgo)
  have e1 := sumTo_upd D (⟨s', m', dd'⟩ : WD) cnt hi
  have e2 := sumTo_upd D (⟨s', m', dd'⟩ : WD) WD.stage hi
  have e3 := sumTo_upd D (⟨s', m', dd'⟩ : WD) WD.fuel hi
  simp only at e1 e2 e3
  refine ⟨_, _, muOf X c q (jOf X.W tag') (upd D i ⟨s', m', dd'⟩) (upd rk i r') tag' r0, hrun, ?_,
    _, w', sl, upd D i ⟨s', m', dd'⟩, upd rk i r', upd Ow i O', S, q, tag', r0, woken P g g' w' a, st', sm', rfl, by rw [get_map_set _ _ _ _ (by omega), ha]; rfl, eo hok, hcs', by rw [ej, ed]; exact hcom.worker hc hi hrw hs' htl hown hnr hdeaf hrel hhas hpay hist, hwg, by rw [ej]; exact hmode tag' htag hwk, ?_, rfl⟩
  · rw [ej]
    unfold muOf
    rw [phi_retag X.W _ htag]
    rcases hlt with ⟨h1, h2⟩ | ⟨h1, h2⟩ | ⟨h1, rfl, h2⟩
    · refine Prod.Lex.left _ _ ?_
      have := phi_mono X.W (v' := Vc (jOf X.W tag) (upd D i ⟨s', m', dd'⟩)) (v := Vc (jOf X.W tag) D) (by simp only [Vc]; omega) tag
      simp only [Ssum] at *
      omega
    all_goals
      have ec : cnt (⟨s', m', dd'⟩ : WD) = cnt (D i) := by simp only [cnt, h1]
      have ev : Vc (jOf X.W tag) (upd D i ⟨s', m', dd'⟩) = Vc (jOf X.W tag) D := by simp only [Vc]; omega
      have es' : Ssum (jOf X.W tag) (upd D i ⟨s', m', dd'⟩) = Ssum (jOf X.W tag) D := by simp only [Ssum]; omega
      rw [ev, es']
      refine Prod.Lex.right _ ?_
    · exact Prod.Lex.left _ _ ⟨i, Nat.lt_of_lt_of_le hi (jOf_le tag), by rw [upd_same]; exact h2, fun k _ hk => upd_ne rk r' hk⟩
    · have er : upd rk i (rk i) = rk := by funext k; by_cases e : k = i <;> simp [upd, e]
      rw [er]
      refine Prod.Lex.right _ (Prod.Lex.left _ _ ?_)
      simp only [Fsum]
      omega
  · intro e
    rcases htag with rfl | ⟨_, rfl⟩
    · exact hacq e
    · cases e

/-- WHATEVER STEP OF THE STARTER's THAT IS NO go STATEMENT. -/
theorem pstarter (hc : 0 < c) (ha : gs[0]? = some a) (hcom : PCom P X Shun c w₀ q (jOf X.W tag) gs w t D rk Ow S (deafOf tag))
    {a' : Goroutine} {es : Array Event} {tag' : CTag} {r' : Rk} {st' sm' : Int} (hgo : stepG P true a w = .go a' w' es) (ej : jOf X.W tag' = jOf X.W tag) (hok : okTag X.W tag')
    (hrw : ∀ k, k < jOf X.W tag → RWk X k (Ow k) w w') (htl : TL (ShN X.Wg) (placeIn X.Ro) Shun c (jOf X.W tag) (MP X c (jOf X.W tag) Ow S') w'.heap.size (t ++ MemOp.ofEvents 0 a.frame.fn a.frame.place es)) (hown : OwnOk X (jOf X.W tag) Ow S' w'.heap.size)
    (hnr : ∀ e ∈ es, e.loc ≠ .mark (.release (stA X.Wg))) (hpay : X.Pay w') (hist : Hist X w₀ w') (hd : deafBehind (deafOf tag) es = deafOf tag')
    (hcs' : CS P X AnchW End tag' r' S' a' w') (hwg : WgAt X.ty X.Wg w' st' sm') (hmode : Go.ConcN.Mode (jOf X.W tag) D tag' st' sm') (hacq : tag' = .ret → AcqC X.Wg c X.W (t ++ MemOp.ofEvents 0 a.frame.fn a.frame.place es))
    (hlt : phi X.W (Vc (jOf X.W tag) D) tag' < phi X.W (Vc (jOf X.W tag) D) tag ∨ (tag' = tag ∧ Rk.Lt r' r0) ∨ (phi X.W (Vc (jOf X.W tag) D) tag' = phi X.W (Vc (jOf X.W tag) D) tag ∧ flOf tag' < flOf tag)) :
    ∃ m₁ ops μ', runT P (crowd gs w sl) 0 = (.next m₁, ops) ∧ LtMu X.W μ' (muOf X c q (jOf X.W tag) D rk tag r0) ∧ PInv P X AnchW End Shun c w₀ μ' m₁ (t ++ ops) := by
  have hrun := runT_crowd_go (P := P) (sl := sl) (i := 0) ha (by simpa using hgo)
  refine ⟨_, _, muOf X c q (jOf X.W tag') D rk tag' r', hrun, ?_,
    _, w', sl, D, rk, Ow, S', q, tag', r', a', st', sm', rfl, get_map_set_same _ _ _ (by rw [hcom.size]; omega), hok, hcs', by rw [ej, ← hd]; exact hcom.starter hc hrw htl hown hnr hpay hist, hwg, by rw [ej]; exact hmode, hacq, rfl⟩
  rw [ej]
  unfold muOf
  rcases hlt with h | ⟨rfl, h⟩ | ⟨h1, h2⟩
  · exact Prod.Lex.left _ _ (by omega)
  · exact Prod.Lex.right _ (Prod.Lex.right _ (Prod.Lex.right _ h))
  · rw [h1]; exact Prod.Lex.right _ (Prod.Lex.right _ (Prod.Lex.left _ _ (by omega)))

/-- A step of an old leaver's. -/
theorem pleaver (hc : 0 < c) (hAr : ∀ S g w, AnchW S g w → g.status = .running) (hEr : ∀ S g w, End S g w → g.status = .running)
    (ha : gs[0]? = some a) (hok : okTag X.W tag) (hcs : CS P X AnchW End tag r0 S a w) (hcom : PCom P X Shun c w₀ q (jOf X.W tag) gs w t D rk Ow S (deafOf tag)) {st sm : Int} (hwg : WgAt X.ty X.Wg w st sm) (hmode : Go.ConcN.Mode (jOf X.W tag) D tag st sm) (hacq : tag = .ret → AcqC X.Wg c X.W t)
    (hnw : ∀ tag' st sm, Go.ConcN.Mode (jOf X.W tag) D tag st sm → (tag' = tag ∨ (tag = .blk ∧ tag' = .w3)) → Go.ConcN.Mode (jOf X.W tag) D tag' st sm)
    {i : Nat} (h0 : 0 < i) (hic : i < c) {g : Goroutine} (hg : gs[i]? = some g) (hrun : g.status = .running) :
    ∃ m₁ ops μ', runT P (crowd gs w sl) i = (.next m₁, ops) ∧ LtMu X.W μ' (muOf X c q (jOf X.W tag) D rk tag r0) ∧ PInv P X AnchW End Shun c w₀ μ' m₁ (t ++ ops) := by
  have hq := hcom.old i g h0 hic hg
  cases hqi : q i with
  | zero => rw [hqi] at hq; rw [hq.1] at hrun; cases hrun
  | succ k =>
    rw [hqi] at hq
    rcases hq with ⟨hf, _⟩ | ⟨_, g', es, hm, hstp, hq'⟩
    · rw [hf] at hrun; cases hrun
    have hgo := hstp w
    obtain ⟨tag', hcs', hfl, htag, hwk⟩ := hcs.wokenBy hAr hEr (RSt.refl S w) g g'
    obtain ⟨ej, ed, eo⟩ := jOf_retag (W := X.W) htag
    have hrunT := runT_crowd_go (P := P) (sl := sl) (i := i) hg (by rw [show (i == 0) = false by simp; omega]; exact hgo)
    have hs := sumTo_upd q k id hic
    simp only [id] at hs
    refine ⟨_, _, muOf X c (upd q i k) (jOf X.W tag') D rk tag' r0, hrunT, ?_,
      _, w, sl, D, rk, Ow, S, upd q i k, tag', r0, woken P g g' w a, st, sm, rfl, by rw [get_map_set _ _ _ _ (by omega), ha]; rfl, eo hok, hcs', by rw [ej, ed]; exact hcom.leaver hc h0 hic hm hq', hwg, by rw [ej]; exact hnw tag' st sm hmode htag, ?_, rfl⟩
    · rw [ej]
      unfold muOf
      rw [phi_retag X.W _ htag]
      refine Prod.Lex.right _ (Prod.Lex.right _ (Prod.Lex.left _ _ ?_))
      have : sumTo c (upd q i k) + q i = sumTo c q + k := hs
      omega
    · intro e
      rcases htag with rfl | ⟨_, rfl⟩
      · exact (hacq e).app fun i' r hi' hr => hr.appOther g_of_ofEvents (by omega)
      · cases e
end
end Go.Proofs.Ytfecdmenliohhaa

set_option linter.unusedSimpArgs false
set_option linter.unusedVariables false
namespace Go.Proofs.Ytfecdmenliohhaa
open Go Go.Conc Go.ConcN
open Go.ConcR (KK wgBlock WgAt stA smA rd wr mk Payload DC0 Bk g_of_ofEvents bk_of_mute ofEvent_loc_mark)
variable [Payload]

omit [Payload] in
theorem upd_self {α : Type} (f : Nat → α) (i : Nat) : upd f i (f i) = f := by funext k; by_cases e : k = i <;> simp [upd, e]

omit [Payload] in
theorem Hist.trans_wg {X : PX} (K : PXOk X) {w₀ w w' : World} (h : Hist X w₀ w) (ha : Aside X.Wg w w') : Hist X w₀ w' :=
  ⟨ha.tape.trans h.tape, ha.os.trans h.os, ha.output.trans h.output, by rw [ha.size]; exact h.size, fun b hb => (ha.block b (K.roW b hb).1).trans (h.ro b hb)⟩
omit [Payload] in
theorem Hist.trans_wk {X : PX} (K : PXOk X) {i j : Nat} {Ow : Nat → OwnB} {S O' : OwnB} {w₀ w w' : World} {es : Array Event} (hO : OwnOk X j Ow S w.heap.size) (hi : i < j) (h : Hist X w₀ w) (g : GWk X i (Ow i) O' w w' es) : Hist X w₀ w' :=
  ⟨g.tape.trans h.tape, g.os.trans h.os, g.output.trans h.output, Nat.le_trans h.size g.size, fun b hb => (g.other b (hO.rlt b hb) (fun ho => (hO.wno i b hi ho).2.2 hb) (K.roW b hb).2).trans (h.ro b hb)⟩
omit [Payload] in
theorem Hist.trans_st {X : PX} {j : Nat} {Ow : Nat → OwnB} {S S' : OwnB} {w₀ w w' : World} {es : Array Event} (hO : OwnOk X j Ow S w.heap.size) (h : Hist X w₀ w) (g : GSt X S S' w w' es) : Hist X w₀ w' :=
  ⟨g.tape.trans h.tape, g.os.trans h.os, g.output.trans h.output, Nat.le_trans h.size g.size, fun b hb => (g.other b (hO.rlt b hb) fun ho => (hO.sno b ho).2.2 hb).trans (h.ro b hb)⟩

section
variable {P : Program} {X : PX} {AnchW End : OwnB → Goroutine → World → Prop} {Shun : Loc → Prop} {c : Nat} {w₀ : World} {q : Nat → Nat} {gs : Array Goroutine} {w w' : World} {sl : Option (Nat × Nat)} {D : Nat → WD} {rk : Nat → Rk} {Ow : Nat → OwnB} {S S' : OwnB} {tag : CTag} {r0 : Rk} {a : Goroutine} {t : Trace} {st sm : Int}

set_option maxHeartbeats 1600000 in
theorem pstepWorker (K : PXOk X) (hc : 0 < c) (hAr : ∀ S g w, AnchW S g w → g.status = .running) (hEr : ∀ S g w, End S g w → g.status = .running)
    (ha : gs[0]? = some a) (hok : okTag X.W tag) (hcs : CS P X AnchW End tag r0 S a w) (hcom : PCom P X Shun c w₀ q (jOf X.W tag) gs w t D rk Ow S (deafOf tag)) (hwg : WgAt X.ty X.Wg w st sm) (hmode : Go.ConcN.Mode (jOf X.W tag) D tag st sm)
    (hacq : tag = .ret → AcqC X.Wg c X.W t) {i : Nat} (hi : i < jOf X.W tag) {g : Goroutine} (hg : gs[c + i]? = some g) (hrun : g.status = .running) :
    ∃ m₁ ops μ', runT P (crowd gs w sl) (c + i) = (.next m₁, ops) ∧ LtMu X.W μ' (muOf X c q (jOf X.W tag) D rk tag r0) ∧ PInv P X AnchW End Shun c w₀ μ' m₁ (t ++ ops) := by
  obtain ⟨g₁, hg₁, hs⟩ := hcom.wk i hi
  obtain rfl : g = g₁ := by rw [hg] at hg₁; exact Option.some.inj hg₁
  generalize hst : (D i).stage = s at hs
  generalize hfu : (D i).fuel = m at hs
  generalize hde : (D i).deaf = dd at hs
  generalize hrk : rk i = rr at hs
  have hVj := Vc_le (jOf X.W tag) D
  have hjW := jOf_le (W := X.W) tag
  have hfew := K.few
  have hdk : Deaf t (c + i) = dd := by rw [hcom.deafW i hi, hde]
  have hpt : pend tag ≤ 1 := by cases tag <;> simp only [pend] <;> (try split) <;> omega
  have hOu : OwnOk X (jOf X.W tag) (upd Ow i (Ow i)) S w.heap.size := by rw [upd_self]; exact hcom.own
  -- A STEP OF THE LIBRARY's BOOKKEEPING: at most the group's block turns
  have bookG : ∀ {g' : Goroutine} {w' : World} {es : Array Event} {s' m' dd' : Nat} {st' sm' : Int}, stepG P false g w = .go g' w' es → Aside X.Wg w w' → WgAt X.ty X.Wg w' st' sm' → (∀ e ∈ es, Bk X.Wg e) →
      (∀ jx e, es[jx]? = some e → (MemAct.ofEvent e).touch? = none ∨ 0 < deafBehind dd (es.extract 0 jx)) → WS P X i s' m' dd' rr (Ow i) g' w' → deafBehind dd es = dd' → s ≤ 6 →
      (∀ tag', (tag' = tag ∨ (tag = .blk ∧ tag' = .w3)) → (mayWake P g = true → g'.status = .running → tag' ≠ .blk) → Go.ConcN.Mode (jOf X.W tag) (upd D i ⟨s', m', dd'⟩) tag' st' sm') → (tag = .ret → AcqC X.Wg c X.W (t ++ MemOp.ofEvents (c + i) g.frame.fn g.frame.place es)) → ((s' < s ∧ cnt ⟨s', m', dd'⟩ ≤ cnt (D i)) ∨ (s' = s ∧ m' + 1 = m)) →
      ∃ m₁ ops μ', runT P (crowd gs w sl) (c + i) = (.next m₁, ops) ∧ LtMu X.W μ' (muOf X c q (jOf X.W tag) D rk tag r0) ∧ PInv P X AnchW End Shun c w₀ μ' m₁ (t ++ ops) := by
    intro g' w' es s' m' dd' st' sm' hgo hAs hwg' hbk hd hs' hdd h6 hmode' hacq' hlt
    refine pworker hc hAr hEr ha hok hcs hcom hi hg hgo (RSt.of_wg K hcom.own hAs ⟨_, _, hwg'⟩) (fun k hk _ => RWk.of_wg K hcom.own hk hAs ⟨_, _, hwg'⟩) hs'
      ?_ (by rw [hAs.size]; exact hOu) (norel_of_Bk hbk) (by rw [hde]; exact hdd)
      (fun _ => let ⟨r, hr⟩ := hcom.rel i hi (by omega); ⟨r, hr.book hdk _ _ hbk hd⟩) (fun _ => (hcom.has i hi (by omega)).cells fun k _ => cell_of_block (hAs.block _ K.cw) k) (pay_of_block (hAs.block _ K.cw) hcom.pay) (hcom.hist.trans_wg K hAs) hwg' hmode' hacq' ?_
    · rw [upd_self]
      exact TL.still K hc hcom.own (.inr ⟨i, hi, rfl⟩) (fun e he _ => evG_bk hcom.own.gW (hbk e he)) hAs.size hcom.tl
    · rw [hst, hfu, hrk]
      rcases hlt with h | ⟨h1, h2⟩
      · exact .inl h
      · exact .inr (.inr ⟨h1, rfl, h2⟩)
  have book : ∀ {g' : Goroutine} {w' : World} {es : Array Event} {s' m' dd' : Nat} {st' sm' : Int}, stepG P false g w = .go g' w' es → Aside X.Wg w w' → WgAt X.ty X.Wg w' st' sm' → (∀ e ∈ es, Bk X.Wg e) →
      (∀ jx e, es[jx]? = some e → (MemAct.ofEvent e).touch? = none ∨ 0 < deafBehind dd (es.extract 0 jx)) → WS P X i s' m' dd' rr (Ow i) g' w' → deafBehind dd es = dd' → s ≤ 6 →
      Go.ConcN.Mode (jOf X.W tag) (upd D i ⟨s', m', dd'⟩) tag st' sm' → (tag = .ret → AcqC X.Wg c X.W (t ++ MemOp.ofEvents (c + i) g.frame.fn g.frame.place es)) → ((s' < s ∧ cnt ⟨s', m', dd'⟩ ≤ cnt (D i)) ∨ (s' = s ∧ m' + 1 = m)) →
      ∃ m₁ ops μ', runT P (crowd gs w sl) (c + i) = (.next m₁, ops) ∧ LtMu X.W μ' (muOf X c q (jOf X.W tag) D rk tag r0) ∧ PInv P X AnchW End Shun c w₀ μ' m₁ (t ++ ops) :=
    fun hgo hAs hwg' hbk hd hs' hdd h6 hmode' hacq' hlt => bookG hgo hAs hwg' hbk hd hs' hdd h6 (fun _ ht _ => hmode'.retag ht) hacq' hlt
  -- AN IDLE STEP BEHIND THE RELEASE
  have idle : ∀ {g' : Goroutine} {m' : Nat}, stepG P false g w = .go g' w #[] → WS P X i s m' dd rr (Ow i) g' w → m' + 1 = m → s ≤ 6 → s ≠ 1 →
      ∃ m₁ ops μ', runT P (crowd gs w sl) (c + i) = (.next m₁, ops) ∧ LtMu X.W μ' (muOf X c q (jOf X.W tag) D rk tag r0) ∧ PInv P X AnchW End Shun c w₀ μ' m₁ (t ++ ops) := by
    intro g' m' hgo hs' hm h6 h1
    exact book hgo (.refl X.Wg w) hwg (by simp) (by simp) hs' rfl h6 (by have := hmode.same (i := i) m' dd; rwa [hst] at this) (fun e => absurd e (hmode.not_ret hi (by omega))) (.inr ⟨rfl, hm⟩)
  have nr : s ≠ 1 → tag ≠ .ret := fun h => hmode.not_ret hi (by omega)
  cases hs with
  | work h =>
    rcases h.cases RWk.refl with hstop | ⟨_, es, O', g', w', r', hgo, hG, hlt, h'⟩
    · -- IT SAYS 'release and merge'
      obtain ⟨Cd, v, hCd, ⟨_, _, g', hgo, m₂, hk⟩, hdone⟩ := hstop w (RWk.refl _ w)
      refine pworker hc hAr hEr ha hok hcs hcom hi hg hgo (RSt.refl S w) (fun k _ _ => RWk.refl _ w) (.rest (r := rr) hCd (by omega) (.k1 hk)) ?_ hOu (by intro e he; simp at he; subst he; simp [mk]) (by rw [hde]; rfl)
        (fun _ => ⟨t.size, RelBy.new hdk _ _⟩) (fun _ => hdone) hcom.pay hcom.hist hwg (fun _ ht _ => (hmode.counted hi (by omega) (.inl rfl) _ _).retag ht) (fun e => absurd e (nr (by omega))) (.inl ⟨by omega, by simp [cnt, hst]⟩)
      rw [upd_self]
      exact TL.still K hc hcom.own (.inr ⟨i, hi, rfl⟩) (fun e he _ => by simp at he; subst he; exact evG_rel _ hcom.own.gW) rfl hcom.tl
    · -- IT WORKS
      refine pworker hc hAr hEr ha hok hcs hcom hi hg hgo (RSt.of_worker K hcom.own hi hG) (fun k hk e => RWk.of_worker K hcom.own hk hi (Ne.symm e) hG) (.work h') (hcom.tl.worker K hc hcom.own hi hG) (hcom.own.worker hi hG) (fun e he => (evWk_quiet (hG.ev e he)).2.2)
        (by rw [hde]; exact deafBehind_idle (fun e he => ⟨(evWk_quiet (hG.ev e he)).1, (evWk_quiet (hG.ev e he)).2.1⟩) 0) (fun h => by omega) (fun h => by omega) (hG.pay hcom.pay) (hcom.hist.trans_wk K hcom.own hi hG)
        (hwg.of_block (hG.other _ hcom.own.gW (fun ho => (hcom.own.wno i _ hi ho).1 rfl) (Ne.symm K.cw))) (fun _ ht _ => Mode.retag (by have := hmode.same (i := i) 0 0; rwa [hst] at this) ht) (fun e => absurd e (nr (by omega))) (.inr (.inl ⟨hst.symm, by rw [hrk]; exact hlt⟩))
  | rest hCd h6 h =>
  cases h with
  | r0 h => omega
  | k1 h =>
    rcases Goes.cases h with hstop | ⟨m', rfl, hstep⟩
    · obtain ⟨_, g', hgo, m₂, hk⟩ := hstop w (RW.refl w)
      exact book hgo (.refl X.Wg w) hwg (by intro e he; simp at he; subst he; exact .inl rfl) (by intro jx e he; exact .inl (by have := Array.mem_of_getElem? he; simp at this; subst this; rfl)) (.rest hCd (by omega) (.d1 hk)) rfl (by omega)
        (hmode.counted hi (by omega) (.inr rfl) _ _) (fun e => absurd e (nr (by omega))) (.inl ⟨by omega, by simp [cnt, hst]⟩)
    · obtain ⟨g', w', es, hgo, ⟨rfl, rfl⟩, hg'⟩ := hstep w (RW.refl w)
      exact idle hgo (.rest hCd h6 (.k1 hg')) rfl (by omega) (by omega)
  | d1 h =>
    rcases Goes.cases h with hstop | ⟨m', rfl, hstep⟩
    · obtain ⟨_, hall⟩ := hstop w (RW.refl w)
      have hc1 : cnt (D i) = 1 := by simp [cnt, hst]
      have hV1 : 1 ≤ Vc (jOf X.W tag) D := by have := le_sumTo (f := fun x => cnt (D x)) hi; simp only [Vc]; omega
      have bk2 : ∀ e ∈ #[rd (stA X.Wg), wr (stA X.Wg)], Bk X.Wg e := by intro e he; simp at he; rcases he with rfl | rfl <;> exact bk_cell _ _ rfl
      have df2 : ∀ jx e, (#[rd (stA X.Wg), wr (stA X.Wg)] : Array Event)[jx]? = some e → (MemAct.ofEvent e).touch? = none ∨ 0 < deafBehind 1 ((#[rd (stA X.Wg), wr (stA X.Wg)] : Array Event).extract 0 jx) := by
        intro jx e he
        match jx, he with
        | 0, _ => exact .inr (by simp [deafBehind])
        | 1, _ => exact .inr (by simp [deafBehind, rd])
        | jx + 2, he => simp at he
      have hq0 : ∀ q, cnt (⟨1, q, 1⟩ : WD) = 0 := fun _ => rfl
      have opq : ∀ q, OpenSt (jOf X.W tag) D → OpenSt (jOf X.W tag) (upd D i ⟨1, q, 1⟩) := fun q h a ha => by
        by_cases e : a = i
        · subst e; rw [upd_same]; simp
        · rw [upd_ne D _ e]; exact h a ha
      cases hmode with
      | opn h1 h2 h3 =>
        obtain ⟨v, hv⟩ : ∃ v, Vc (jOf X.W tag) D + pend tag = v + 1 := ⟨Vc (jOf X.W tag) D + pend tag - 1, by omega⟩
        rw [hv] at hwg
        have hw1 : WgAt X.ty X.Wg w (((v : Nat) + 1) * KK + ((0 : Nat) : Int)) 0 := by simpa using hwg
        have hv2 : v < 2147483647 := by
          have hb : jOf X.W tag + pend tag ≤ X.W := by cases tag <;> simp only [jOf, pend, okTag] at hok ⊢ <;> (try split) <;> omega
          omega
        obtain ⟨g', hgo, _, hq⟩ := hall v 0 (by omega) hv2 hw1
        obtain ⟨q', hq⟩ := hq (by omega)
        have hv' : Vc (jOf X.W tag) (upd D i ⟨1, q', 1⟩) + pend tag = v := by have := Vc_upd D (⟨1, q', 1⟩ : WD) hi; have := hq0 q'; omega
        refine book hgo (aside_setCell w (stA X.Wg) _) (hwg.setSt _) bk2 df2 (.rest hCd (by omega) (.quit hq)) rfl (by omega) ?_ (fun e => absurd e (nr (by omega))) (.inl ⟨by omega, by simp [cnt]⟩)
        have e : ((v : Nat) : Int) * KK + ((0 : Nat) : Int) = ((Vc (jOf X.W tag) (upd D i ⟨1, q', 1⟩) + pend tag : Nat) : Int) * KK := by rw [hv']; simp
        rw [e]
        exact .opn h1 (opq q' h2) (fun vs ev => by have := h3 vs ev; omega)
      | reg h1 h2 h3 =>
        obtain ⟨v, hv⟩ : ∃ v, Vc (jOf X.W tag) D = v + 1 := ⟨Vc (jOf X.W tag) D - 1, by omega⟩
        rw [hv] at hwg
        have hp : pend tag = 0 := by cases tag <;> first | rfl | exact h1.elim
        have hw1 : WgAt X.ty X.Wg w (((v : Nat) + 1) * KK + ((1 : Nat) : Int)) 0 := by simpa using hwg
        obtain ⟨g', hgo, hl, hq⟩ := hall v 1 (by omega) (by omega) hw1
        by_cases hv0 : v = 0
        · subst hv0
          obtain ⟨m₂, hk⟩ := hl ⟨rfl, rfl⟩
          refine book hgo (aside_setCell w (stA X.Wg) _) (hwg.setSt _) bk2 df2 (.rest hCd (by omega) (.d2 hk)) rfl (by omega) ?_ (fun e => absurd e (nr (by omega))) (.inl ⟨by omega, by simp [cnt]⟩)
          have hoth : ∀ a, a < jOf X.W tag → a ≠ i → (D a).stage = 1 := fun a ha e => by
            have c0 := others_uncounted hi hv hc1 a ha e
            have := h2 a ha
            simp only [cnt] at c0
            split at c0 <;> omega
          have := Mode.last (j := jOf X.W tag) (D := upd D i ⟨4, m₂, 1⟩) (tag := tag) i h1 hi (by rw [upd_same]; simp) (fun a ha e => by rw [upd_ne D _ e]; exact hoth a ha e)
          rw [upd_same] at this
          simpa using this
        · obtain ⟨q', hq⟩ := hq (by omega)
          have hv' : Vc (jOf X.W tag) (upd D i ⟨1, q', 1⟩) = v := by have := Vc_upd D (⟨1, q', 1⟩ : WD) hi; have := hq0 q'; omega
          refine book hgo (aside_setCell w (stA X.Wg) _) (hwg.setSt _) bk2 df2 (.rest hCd (by omega) (.quit hq)) rfl (by omega) ?_ (fun e => absurd e (nr (by omega))) (.inl ⟨by omega, by simp [cnt]⟩)
          have e : ((v : Nat) : Int) * KK + ((1 : Nat) : Int) = ((Vc (jOf X.W tag) (upd D i ⟨1, q', 1⟩) : Nat) : Int) * KK + 1 := by rw [hv']; simp
          rw [e]
          exact .reg h1 (opq q' h2) (by omega)
      | last L _ h2 h3 h4 =>
        by_cases e : i = L
        · subst e; omega
        · have := h4 i hi e; omega
      | sema h2 => have := h2 i hi; omega
      | fin _ h2 => have := h2 i hi; omega
    · obtain ⟨g', w', es, hgo, ⟨rfl, rfl⟩, hg'⟩ := hstep w (RW.refl w)
      exact idle hgo (.rest hCd h6 (.d1 hg')) rfl (by omega) (by omega)
  | d2 h =>
    rcases Goes.cases h with hstop | ⟨m', rfl, hstep⟩
    · obtain ⟨_, hx⟩ := hstop w (RW.refl w)
      obtain ⟨hW3, hoth, rfl, rfl⟩ := hmode.isLast hi (by omega)
      simp only [hst] at hwg
      obtain ⟨g', hgo, m₂, hk⟩ := hx (by simpa using hwg)
      refine book hgo (.refl X.Wg w) hwg (by intro e he; simp at he; subst he; exact bk_cell _ _ rfl) (by intro jx e he; match jx, he with | 0, _ => exact .inr (by simp [deafBehind]) | jx + 1, he => simp at he) (.rest hCd (by omega) (.d3 hk)) rfl (by omega) ?_ (fun e => absurd e (nr (by omega))) (.inl ⟨by omega, by simp [cnt]⟩)
      have := Mode.last (j := jOf X.W tag) (D := upd D i ⟨3, m₂, 1⟩) (tag := tag) i hW3 hi (by rw [upd_same]; simp) (fun a ha e => by rw [upd_ne D _ e]; exact hoth a ha e)
      rw [upd_same] at this
      simpa using this
    · obtain ⟨g', w', es, hgo, ⟨rfl, rfl⟩, hg'⟩ := hstep w (RW.refl w)
      exact idle hgo (.rest hCd h6 (.d2 hg')) rfl (by omega) (by omega)
  | d3 h =>
    rcases Goes.cases h with hstop | ⟨m', rfl, hstep⟩
    · obtain ⟨_, hx⟩ := hstop w (RW.refl w)
      obtain ⟨hW3, hoth, rfl, rfl⟩ := hmode.isLast hi (by omega)
      simp only [hst] at hwg
      obtain ⟨g', hgo, m₂, hk⟩ := hx (by simpa using hwg)
      refine book hgo (aside_setCell w (stA X.Wg) _) (hwg.setSt 0) (by intro e he; simp at he; subst he; exact bk_cell _ _ rfl) (by intro jx e he; match jx, he with | 0, _ => exact .inr (by simp [deafBehind]) | jx + 1, he => simp at he) (.rest hCd (by omega) (.d4 hk)) rfl (by omega) ?_ (fun e => absurd e (nr (by omega))) (.inl ⟨by omega, by simp [cnt]⟩)
      have := Mode.last (j := jOf X.W tag) (D := upd D i ⟨2, m₂, 1⟩) (tag := tag) i hW3 hi (by rw [upd_same]; simp) (fun a ha e => by rw [upd_ne D _ e]; exact hoth a ha e)
      rw [upd_same] at this
      simpa using this
    · obtain ⟨g', w', es, hgo, ⟨rfl, rfl⟩, hg'⟩ := hstep w (RW.refl w)
      exact idle hgo (.rest hCd h6 (.d3 hg')) rfl (by omega) (by omega)
  | d4 h =>
    rcases Goes.cases h with hstop | ⟨m', rfl, hstep⟩
    · obtain ⟨_, hmw, hx⟩ := hstop w (RW.refl w)
      obtain ⟨hW3, hoth, rfl, rfl⟩ := hmode.isLast hi (by omega)
      simp only [hst] at hwg
      obtain ⟨g', hgo, q', hq⟩ := hx (by simpa using hwg)
      have hrun' : g'.status = .running := by
        cases q' with
        | zero => exact absurd hq.2 (by decide)
        | succ q => exact hq.elim (fun x => absurd x.2 (by decide)) (fun x => x.1)
      refine bookG hgo (aside_setCell w (smA X.Wg) _) (hwg.setSm 1) (es := semEvents (smA X.Wg)) bk_sem ?_ (.rest hCd (by omega) (.quit hq)) (by simp [deafBehind, semEvents]) (by omega) ?_ (fun e => absurd e (nr (by omega))) (.inl ⟨by omega, by simp [cnt]⟩)
      · intro jx e he
        match jx, he with
        | 0, he => simp [semEvents] at he; subst he; exact .inl rfl
        | 1, _ => exact .inr (by simp [deafBehind, semEvents])
        | 2, _ => exact .inr (by simp [deafBehind, semEvents])
        | 3, he => simp [semEvents] at he; subst he; exact .inl rfl
        | jx + 4, he => simp [semEvents] at he
      · intro tag' ht hw
        have hnb := hw hmw hrun'
        have e3 : tag' = .w3 := by
          rcases ht with rfl | ⟨_, rfl⟩
          · cases tag' <;> first | rfl | exact hW3.elim | exact absurd rfl hnb
          · rfl
        subst e3
        simp only [if_true]
        exact .sema fun a ha => by
          by_cases e : a = i
          · subst e; rw [upd_same]
          · rw [upd_ne D _ e]; exact hoth a ha e
    · obtain ⟨g', w', es, hgo, ⟨rfl, rfl⟩, hg'⟩ := hstep w (RW.refl w)
      exact idle hgo (.rest hCd h6 (.d4 hg')) rfl (by omega) (by omega)
  | quit h =>
    cases m with
    | zero => rw [h.1] at hrun; cases hrun
    | succ q' =>
      rcases h with ⟨hf, _⟩ | ⟨_, g', es, hmute, hstep, hq⟩
      · rw [hf] at hrun; cases hrun
      · have hbk : ∀ e ∈ es, Bk X.Wg e := fun e he => bk_of_mute (hmute e he)
        have hno : ∀ jx e, es[jx]? = some e → (MemAct.ofEvent e).touch? = none ∨ 0 < deafBehind dd (es.extract 0 jx) := fun jx e he => .inl (touch_mute (hmute e (Array.mem_of_getElem? he)))
        refine book (hstep w) (.refl X.Wg w) hwg hbk hno (.rest hCd h6 (.quit hq)) rfl (by omega) (by have := hmode.same (i := i) q' (deafBehind dd es); rwa [hst] at this) (fun e => (hacq e).app fun i' r hi' hr => ?_) (.inr ⟨rfl, rfl⟩)
        by_cases e' : i' = i
        · subst e'; exact hr.book hdk _ _ hbk hno
        · exact hr.appOther g_of_ofEvents (by omega)
end
end Go.Proofs.Ytfecdmenliohhaa

set_option linter.unusedSimpArgs false
set_option linter.unusedVariables false
namespace Go.Proofs.Ytfecdmenliohhaa
open Go Go.Conc Go.ConcN
open Go.ConcR (KK wgBlock WgAt stA smA rd wr mk Payload DC0 Bk g_of_ofEvents ofEvent_mk)
variable [Payload]

section
variable {P : Program} {X : PX} {AnchW End : OwnB → Goroutine → World → Prop} {Shun : Loc → Prop} {c : Nat} {w₀ : World} {q : Nat → Nat} {gs : Array Goroutine} {w w' : World} {sl : Option (Nat × Nat)} {D : Nat → WD} {rk : Nat → Rk} {Ow : Nat → OwnB} {S S' : OwnB} {tag tag' : CTag} {r0 : Rk} {a a' : Goroutine} {t : Trace} {st sm st' sm' : Int} {es : Array Event}

/-- A step of the library's bookkeeping, by the starter. -/
theorem pbook (K : PXOk X) (hc : 0 < c) (ha : gs[0]? = some a) (hcom : PCom P X Shun c w₀ q (jOf X.W tag) gs w t D rk Ow S (deafOf tag))
    (hgo : stepG P true a w = .go a' w' es) (hAs : Aside X.Wg w w') (hwg' : WgAt X.ty X.Wg w' st' sm') (hbk : ∀ e ∈ es, Bk X.Wg e)
    (ej : jOf X.W tag' = jOf X.W tag) (hok : okTag X.W tag') (hd : deafBehind (deafOf tag) es = deafOf tag') (hcs' : ∃ r', CS P X AnchW End tag' r' S a' w') (hmode' : Go.ConcN.Mode (jOf X.W tag) D tag' st' sm') (hne : tag' ≠ .ret)
    (hlt : phi X.W (Vc (jOf X.W tag) D) tag' < phi X.W (Vc (jOf X.W tag) D) tag ∨ (phi X.W (Vc (jOf X.W tag) D) tag' = phi X.W (Vc (jOf X.W tag) D) tag ∧ flOf tag' < flOf tag)) :
    ∃ m₁ ops μ', runT P (crowd gs w sl) 0 = (.next m₁, ops) ∧ LtMu X.W μ' (muOf X c q (jOf X.W tag) D rk tag r0) ∧ PInv P X AnchW End Shun c w₀ μ' m₁ (t ++ ops) := by
  obtain ⟨r', hcs'⟩ := hcs'
  refine pstarter hc ha hcom hgo ej hok (fun k hk => RWk.of_wg K hcom.own hk hAs ⟨_, _, hwg'⟩) (TL.still K hc hcom.own (.inl rfl) (fun e he _ => evG_bk hcom.own.gW (hbk e he)) hAs.size hcom.tl) (by rw [hAs.size]; exact hcom.own) (norel_of_Bk hbk)
    (pay_of_block (hAs.block _ K.cw) hcom.pay) (hcom.hist.trans_wg K hAs) hd hcs' hwg' hmode' (fun e => absurd e hne) (hlt.imp id .inr)

/-- An idle step of the starter's. -/
theorem pidle (K : PXOk X) (hc : 0 < c) (ha : gs[0]? = some a) (hok : okTag X.W tag) (hcom : PCom P X Shun c w₀ q (jOf X.W tag) gs w t D rk Ow S (deafOf tag)) (hwg : WgAt X.ty X.Wg w st sm) (hmode : Go.ConcN.Mode (jOf X.W tag) D tag st sm) (hacq : tag = .ret → AcqC X.Wg c X.W t)
    {r' : Rk} (hgo : stepG P true a w = .go a' w' es) (hG : GSt X S S' w w' es) (hlt : Rk.Lt r' r0) (h' : GGr P true (RSt X) (GSt X) (StopAt P X AnchW End tag) r' S' a' w') :
    ∃ m₁ ops μ', runT P (crowd gs w sl) 0 = (.next m₁, ops) ∧ LtMu X.W μ' (muOf X c q (jOf X.W tag) D rk tag r0) ∧ PInv P X AnchW End Shun c w₀ μ' m₁ (t ++ ops) := by
  have hC := hG.other X.C hcom.own.gC fun ho => (hcom.own.sno _ ho).2.1 rfl
  have hW := hG.other X.Wg hcom.own.gW fun ho => (hcom.own.sno _ ho).1 rfl
  exact pstarter hc ha hcom hgo rfl hok (fun k hk => RWk.of_starter K hcom.own hk hG) (hcom.tl.starter K hc hcom.own hG) (hcom.own.starter hG) (fun e he => (evSt_quiet (hG.ev e he)).2.2) (pay_of_block hC hcom.pay) (hcom.hist.trans_st hcom.own hG)
    (deafBehind_idle (fun e he => ⟨(evSt_quiet (hG.ev e he)).1, (evSt_quiet (hG.ev e he)).2.1⟩) _) (.go hok h') (hwg.of_block hW) hmode (fun e => (hacq e).app fun i r _ hr => hr.appOther g_of_ofEvents (by omega)) (.inr (.inl ⟨rfl, hlt⟩))

omit [Payload] in
theorem CS.of_GG [Payload] (hok : okTag X.W tag) (h : GG P true (RSt X) (GSt X) (StopAt P X AnchW End tag) S a w) : ∃ r, CS P X AnchW End tag r S a w := by
  obtain ⟨r, h⟩ := h.ranked
  exact ⟨r, .go hok h⟩

/-- The load in Wait. -/
theorem pw1 (K : PXOk X) (hc : 0 < c) (ha : gs[0]? = some a) (hcom : PCom P X Shun c w₀ q X.W gs w t D rk Ow S 1) (hwg : WgAt X.ty X.Wg w st sm) (hmode : Go.ConcN.Mode X.W D .w1 st sm) {r : Rk} (h : GGr P true (RSt X) (GSt X) (StW1 P X AnchW End) r S a w)
    {r1 : Rk} (hr : r1 = r ∨ True) : ∃ m₁ ops μ', runT P (crowd gs w sl) 0 = (.next m₁, ops) ∧ LtMu X.W μ' (muOf X c q X.W D rk .w1 r) ∧ PInv P X AnchW End Shun c w₀ μ' m₁ (t ++ ops) := by
  have hfew := K.few
  rcases h.cases RSt.refl with hstop | ⟨_, es, O', g', w', r', hgo, hG, hlt, h'⟩
  · obtain ⟨_, hall⟩ := hstop w (RSt.refl S w)
    obtain ⟨ho, rfl, rfl, _⟩ := hmode.open_inv trivial
    have hV := Vc_le X.W D
    obtain ⟨a', hgo, h0, hne⟩ := hall (Vc X.W D) (by omega) (by simpa [pend] using hwg)
    by_cases hv : Vc X.W D = 0
    · refine pbook (tag := .w1) (tag' := .ke) (st' := 0) (sm' := 0) K hc ha hcom hgo (.refl X.Wg w) (by simpa [hv, pend] using hwg) bk_rd rfl trivial rfl (CS.of_GG trivial (h0 hv)) (.fin trivial (allQuit_of ho hv)) (by simp) (.inl ?_)
      simp only [phi, jOf]; omega
    · refine pbook (tag := .w1) (tag' := .w2 (Vc X.W D)) K hc ha hcom hgo (.refl X.Wg w) hwg bk_rd rfl trivial rfl (CS.of_GG trivial (hne hv)) (hmode.reopen trivial trivial rfl (fun vs e => by cases e; omega)) (by simp) (.inl ?_)
      simp only [phi, jOf]; omega
  · exact pidle (tag := .w1) K hc ha trivial hcom hwg hmode (by simp) hgo hG hlt h'

omit [Payload] in
theorem ltMu_trans_left {W : Nat} {x y z : Mu} (h : LtMu W x y) (h' : y.1 < z.1) : LtMu W x z := by
  obtain ⟨x1, x2⟩ := x
  obtain ⟨y1, y2⟩ := y
  obtain ⟨z1, z2⟩ := z
  rcases Prod.lex_def.1 h with h | ⟨h, _⟩
  · exact Prod.Lex.left _ _ (Nat.lt_trans h h')
  · simp only at h; subst h; exact Prod.Lex.left _ _ h'

/-- The phase is over: goroutine 0 stands at the end, all others only leave. -/
def PDone (P : Program) (X : PX) (End : OwnB → Goroutine → World → Prop) (Shun : Loc → Prop) (c : Nat) (w₀ : World) (m : Machine) (t : Trace) : Prop :=
  ∃ (gs : Array Goroutine) (a : Goroutine) (w : World) (sl : Option (Nat × Nat)) (S : OwnB) (q : Nat → Nat), m = crowd gs w sl ∧ gs.size = c + X.W ∧ gs[0]? = some a ∧ End S a w ∧ Leavers P t gs q ∧
    Past (fun l => Shun l ∨ ShN X.Wg l) w.heap.size t ∧ Hist X w₀ w ∧ X.Pay w ∧ (∀ k, k < X.n → w.cell? ⟨X.C, k, none⟩ = some (X.val k)) ∧ (∃ st sm, WgAt X.ty X.Wg w st sm) ∧ ∀ b, S b → b < w.heap.size

theorem WS.quits {i : Nat} {s m d : Nat} {r : Rk} {O : OwnB} {g : Goroutine} (h : WS P X i s m d r O g w) (hs : s = 1) : QuitsD P m d g := by
  cases h with
  | work h => exact absurd hs (by decide)
  | rest _ _ h => exact h.quits hs

/-- At its end. -/
theorem pdone (K : PXOk X) (hc : 0 < c) (ha : gs[0]? = some a) (hcom : PCom P X Shun c w₀ q X.W gs w t D rk Ow S 0) (hwg : WgAt X.ty X.Wg w st sm) (hmode : Go.ConcN.Mode X.W D .ret st sm)
    (hacq : AcqC X.Wg c X.W t) (hs : End S a w) : PDone P X End Shun c w₀ (crowd gs w sl) t := by
  obtain ⟨hq, rfl, rfl⟩ := hmode.fin_inv trivial
  obtain ⟨qa, h1, h2, h3, h4⟩ := hacq
  refine ⟨gs, a, w, sl, S, fun i => if i < c then q i else (D (i - c)).fuel, rfl, hcom.size, ha, hs, ⟨fun i g hi hg => ?_, fun g hg => hcom.above g (by rw [hcom.size] at hg; exact hg)⟩, hcom.tl.past hcom.deaf0 hcom.norel h1 h2 h3 h4, hcom.hist, hcom.pay, fun k hk => ?_, ⟨_, _, hwg⟩, hcom.own.slt⟩
  · by_cases hic : i < c
    · simp only [hic, if_true]
      exact hcom.old i g hi hic hg
    · simp only [hic, if_false]
      obtain ⟨i', rfl⟩ : ∃ i', i = c + i' := ⟨i - c, by omega⟩
      have hlt : i' < X.W := by have := (Array.getElem?_eq_some_iff.1 hg).1; rw [hcom.size] at this; omega
      obtain ⟨g', hg', hs'⟩ := hcom.wk i' hlt
      rw [hg] at hg'
      cases hg'
      rw [show c + i' - c = i' by omega, hcom.deafW i' hlt]
      exact hs'.quits (hq i' hlt)
  · obtain ⟨i, hi, hm⟩ := K.cover k hk
    exact hcom.has i hi (by rw [hq i hi]; omega) k hk hm

set_option maxHeartbeats 1600000 in
theorem pstepStarter (K : PXOk X) (hc : 0 < c) (hAn : ∀ S g w, AnchW S g w → GG P true (RSt X) (GSt X) (StW1 P X AnchW End) S g w)
    (ha : gs[0]? = some a) (hok : okTag X.W tag) (hcs : CS P X AnchW End tag r0 S a w) (hcom : PCom P X Shun c w₀ q (jOf X.W tag) gs w t D rk Ow S (deafOf tag)) (hwg : WgAt X.ty X.Wg w st sm) (hmode : Go.ConcN.Mode (jOf X.W tag) D tag st sm)
    (hacq : tag = .ret → AcqC X.Wg c X.W t) (hrun : a.status = .running) :
    (tag = .ret ∧ ∀ w₁, RSt X S w w₁ → End S a w₁) ∨
    (∃ m₁ ops μ', runT P (crowd gs w sl) 0 = (.next m₁, ops) ∧ LtMu X.W μ' (muOf X c q (jOf X.W tag) D rk tag r0) ∧ PInv P X AnchW End Shun c w₀ μ' m₁ (t ++ ops)) := by
  have hVj := Vc_le (jOf X.W tag) D
  have hjW := jOf_le (W := X.W) tag
  have hfew := K.few
  cases hcs with
  | blk h => simp at hrun
  | go _ h =>
  rcases h.cases RSt.refl with hstop | ⟨_, es, O', g', w', r', hgo, hG, hlt, h'⟩
  · have hs := hstop w (RSt.refl S w)
    match tag, hok, hcom, hmode, hacq, hVj, hjW, hstop, hs with
    | .sp r 5, hok, hcom, hmode, hacq, hVj, hjW, hstop, hs =>
      obtain ⟨_, a', hgo, hk⟩ := hs
      refine .inr (pbook (tag := .sp r 5) (tag' := .sp r 4) K hc ha hcom hgo (.refl X.Wg w) hwg bk_dis rfl hok rfl (CS.of_GG hok hk) (hmode.reopen trivial trivial rfl (by simp)) (by simp) (.inl ?_))
      simp only [phi]; omega
    | .sp r 4, hok, hcom, hmode, hacq, hVj, hjW, hstop, hs =>
      obtain ⟨_, hall⟩ := hs
      obtain ⟨ho, rfl, rfl, _⟩ := hmode.open_inv trivial
      obtain ⟨a', hgo, hk⟩ := hall (Vc (jOf X.W (.sp r 4)) D) (by simp only [okTag, jOf] at *; omega) (by simpa [pend] using hwg)
      refine .inr (pbook (tag := .sp r 4) (tag' := .sp r 3) K hc ha hcom hgo (aside_setCell w (stA X.Wg) _) (hwg.setSt _) bk_rw rfl hok rfl (CS.of_GG hok hk) ?_ (by simp) (.inl ?_))
      · have e : (((Vc (jOf X.W (.sp r 4)) D : Nat) : Int) + 1) * KK = ((Vc (jOf X.W (.sp r 4)) D + pend (.sp r 3) : Nat) : Int) * KK := by simp [pend]
        rw [e]
        exact .opn trivial ho (by simp)
      · simp only [phi]; omega
    | .sp r 3, hok, hcom, hmode, hacq, hVj, hjW, hstop, hs =>
      obtain ⟨_, a', hgo, hk⟩ := hs
      refine .inr (pbook (tag := .sp r 3) (tag' := .sp r 2) K hc ha hcom hgo (.refl X.Wg w) hwg bk_en rfl hok rfl (CS.of_GG hok hk) (hmode.reopen trivial trivial rfl (by simp)) (by simp) (.inl ?_))
      simp only [phi]; omega
    | .sp r 2, hok, hcom, hmode, hacq, hVj, hjW, hstop, hs =>
      obtain ⟨_, hs⟩ := hs
      obtain ⟨a', child, Oc, hsp, _, hOc, hwk, hnext⟩ := hs ⟨_, _, hwg⟩ hcom.pay
      obtain ⟨rw', hwk⟩ := hwk.ranked
      obtain ⟨ho, rfl, rfl, _⟩ := hmode.open_inv trivial
      have hrun' := runT_crowd_spawn (P := P) (sl := sl) (i := 0) ha (by simpa using hsp)
      rw [hcom.size] at hrun'
      simp only [jOf, okTag] at hok hcom hVj hjW ho hrun' hwg
      have hcom' := hcom.spawn K hc (a' := a') (x := { g := 0, fn := a.frame.fn, pos := a.frame.place, act := .go (c + (X.W - (r + 1))) }) (y := { g := c + (X.W - (r + 1)), fn := child.frame.fn, pos := a.frame.place, act := .start }) ⟨rfl, rfl⟩ ⟨rfl, rfl⟩ hOc hwk
      have eV : Vc (X.W - (r + 1) + 1) (upd D (X.W - (r + 1)) ⟨7, 0, 0⟩) = Vc (X.W - (r + 1)) D + 1 := by
        simp only [Vc, sumTo, upd_same]
        rw [sumTo_upd_out D _ cnt (Nat.le_refl _)]; rfl
      have eS : Ssum (X.W - (r + 1) + 1) (upd D (X.W - (r + 1)) ⟨7, 0, 0⟩) = Ssum (X.W - (r + 1)) D + 7 := by
        simp only [Ssum, sumTo, upd_same]
        rw [sumTo_upd_out D _ WD.stage (Nat.le_refl _)]
      have ho' : OpenSt (X.W - (r + 1) + 1) (upd D (X.W - (r + 1)) ⟨7, 0, 0⟩) := fun i hi => by
        by_cases e : i = X.W - (r + 1)
        · subst e; rw [upd_same]; simp
        · rw [upd_ne D _ e]; exact ho i (by omega)
      have ha' : ((gs.setIfInBounds 0 a').push child)[0]? = some a' := by
        have : 0 < gs.size := by rw [hcom.size]; omega
        rw [Array.getElem?_push, if_neg (by simp; omega)]
        simp [this]
      have ej : X.W - (r + 1) + 1 = X.W - r := by omega
      rw [ej] at hcom' eV eS ho'
      have est : ∀ tag', pend tag' = 0 → ((Vc (X.W - (r + 1)) D + pend (.sp r 2) : Nat) : Int) * KK = ((Vc (X.W - r) (upd D (X.W - (r + 1)) ⟨7, 0, 0⟩) + pend tag' : Nat) : Int) * KK := fun tag' hp => by rw [eV, hp]; simp [pend]
      cases r with
      | zero =>
        obtain ⟨r3, hk⟩ := CS.of_GG (P := P) (AnchW := AnchW) (End := End) (tag := .kd) trivial hnext
        simp only [Nat.sub_zero] at hcom' eV eS ho' est
        refine .inr ⟨_, _, muOf X c q X.W (upd D (X.W - (0 + 1)) ⟨7, 0, 0⟩) (upd rk (X.W - (0 + 1)) rw') .kd r3, hrun', Prod.Lex.left _ _ ?_, _, w, sl, _, _, _, _, q, .kd, r3, a', _, _, rfl, ha', trivial, hk, hcom', hwg, ?_, by simp, rfl⟩
        · simp only [phi, jOf]; omega
        · show Go.ConcN.Mode X.W _ _ _ _
          rw [est .kd rfl]
          exact .opn trivial ho' (by simp)
      | succ r' =>
        obtain ⟨r3, hk⟩ := CS.of_GG (P := P) (AnchW := AnchW) (End := End) (tag := .sp r' 5) (show r' < X.W by omega) hnext
        refine .inr ⟨_, _, muOf X c q (X.W - (r' + 1)) (upd D (X.W - (r' + 1 + 1)) ⟨7, 0, 0⟩) (upd rk (X.W - (r' + 1 + 1)) rw') (.sp r' 5) r3, hrun', Prod.Lex.left _ _ ?_, _, w, sl, _, _, _, _, q, .sp r' 5, r3, a', _, _, rfl, ha', (show r' < X.W by omega), hk, hcom', hwg, ?_, by simp, rfl⟩
        · simp only [phi, jOf]; omega
        · show Go.ConcN.Mode (X.W - (r' + 1)) _ _ _ _
          rw [est (.sp r' 5) rfl]
          exact .opn trivial ho' (by simp)
    | .sp r 0, _, _, _, _, _, _, _, hs => exact hs.elim
    | .sp r 1, _, _, _, _, _, _, _, hs => exact hs.elim
    | .sp r (n + 6), _, _, _, _, _, _, _, hs => exact hs.elim
    | .kd, hok, hcom, hmode, hacq, hVj, hjW, hstop, hs =>
      obtain ⟨_, a', hgo, hk⟩ := hs
      refine .inr (pbook (tag := .kd) (tag' := .anch) K hc ha hcom hgo (.refl X.Wg w) hwg bk_dis rfl trivial rfl (CS.of_GG trivial hk) (hmode.reopen trivial trivial rfl (by simp)) (by simp) (.inl ?_))
      simp only [phi, jOf] at *; omega
    | .anch, hok, hcom, hmode, hacq, hVj, hjW, hstop, hs =>
      obtain ⟨r1, hk⟩ := (hAn S a w hs).ranked
      obtain ⟨m₁, ops, μ', h1, h2, h3⟩ := pw1 (sl := sl) (rk := rk) (r1 := r1) K hc ha hcom hwg (hmode.reopen trivial trivial rfl (by simp)) hk (.inr trivial)
      exact .inr ⟨m₁, ops, μ', h1, ltMu_trans_left h2 (by simp only [muOf, phi, jOf]; omega), h3⟩
    | .w1, hok, hcom, hmode, hacq, hVj, hjW, hstop, hs =>
      exact .inr (pw1 (r1 := r0) K hc ha hcom hwg hmode h (.inr trivial))
    | .w2 vs, hok, hcom, hmode, hacq, hVj, hjW, hstop, hs =>
      obtain ⟨_, hall⟩ := hs
      obtain ⟨ho, rfl, rfl, hw2⟩ := hmode.open_inv trivial
      obtain ⟨hle, h1⟩ := hw2 vs rfl
      simp only [jOf] at *
      obtain ⟨hhit, hmiss⟩ := hall (Vc X.W D) (by omega) (by simpa [pend] using hwg)
      by_cases e : Vc X.W D = vs
      · obtain ⟨a', hgo, hk⟩ := hhit e
        refine .inr (pbook (tag := .w2 vs) (tag' := .w3) K hc ha hcom hgo (aside_setCell w (stA X.Wg) _) (hwg.setSt _) bk_rw rfl trivial rfl (CS.of_GG trivial hk) (.reg trivial ho (by show 1 ≤ Vc X.W D; omega)) (by simp) (.inl ?_))
        simp only [phi, jOf]; omega
      · obtain ⟨a', hgo, hk⟩ := hmiss e
        refine .inr (pbook (tag := .w2 vs) (tag' := .anch) K hc ha hcom hgo (.refl X.Wg w) hwg bk_rd rfl trivial rfl (CS.of_GG trivial hk) (hmode.reopen trivial trivial rfl (by simp)) (by simp) (.inl ?_))
        simp only [phi, jOf]; omega
    | .w3, hok, hcom, hmode, hacq, hVj, hjW, hstop, hs =>
      obtain ⟨_, hoff, hblk, htake⟩ := hs
      cases hmode with
      | opn h1 _ _ => exact h1.elim
      | reg h1 h2 h3 => exact .inr (pbook (tag := .w3) (tag' := .blk) K hc ha hcom (hblk ⟨_, hwg⟩) (.refl X.Wg w) hwg (by simp) rfl trivial rfl ⟨r0, .blk hstop⟩ (.reg trivial h2 h3) (by simp) (.inr ⟨rfl, by simp [flOf]⟩))
      | last L h1 h2 h3 h4 => exact .inr (pbook (tag := .w3) (tag' := .blk) K hc ha hcom (hblk ⟨_, hwg⟩) (.refl X.Wg w) hwg (by simp) rfl trivial rfl ⟨r0, .blk hstop⟩ (.last L trivial h2 h3 h4) (by simp) (.inr ⟨rfl, by simp [flOf]⟩))
      | sema h2 =>
        obtain ⟨a', hgo, hk⟩ := htake hwg
        refine .inr (pbook (tag := .w3) (tag' := .w4) K hc ha hcom hgo (aside_setCell w (smA X.Wg) _) (hwg.setSm 0) bk_sem rfl trivial rfl (CS.of_GG trivial hk) (.fin trivial h2) (by simp) (.inl ?_))
        simp only [phi]; omega
      | fin h1 _ => exact h1.elim
    | .blk, hok, hcom, hmode, hacq, hVj, hjW, hstop, hs => exact hs.elim
    | .w4, hok, hcom, hmode, hacq, hVj, hjW, hstop, hs =>
      obtain ⟨_, hx⟩ := hs
      obtain ⟨hq, rfl, rfl⟩ := hmode.fin_inv trivial
      obtain ⟨a', hgo, hk⟩ := hx hwg
      refine .inr (pbook (tag := .w4) (tag' := .ke) K hc ha hcom hgo (.refl X.Wg w) hwg bk_rd rfl trivial rfl (CS.of_GG trivial hk) (.fin trivial hq) (by simp) (.inl ?_))
      simp only [phi]; omega
    | .ke, hok, hcom, hmode, hacq, hVj, hjW, hstop, hs =>
      obtain ⟨_, a', hgo, hk⟩ := hs
      obtain ⟨hq, rfl, rfl⟩ := hmode.fin_inv trivial
      refine .inr (pbook (tag := .ke) (tag' := .acq) K hc ha hcom hgo (.refl X.Wg w) hwg bk_en rfl trivial rfl (CS.of_GG trivial hk) (.fin trivial hq) (by simp) (.inl ?_))
      simp only [phi]; omega
    | .acq, hok, hcom, hmode, hacq, hVj, hjW, hstop, hs =>
      obtain ⟨_, a', hgo, hk⟩ := hs
      obtain ⟨hq, rfl, rfl⟩ := hmode.fin_inv trivial
      obtain ⟨r', hk⟩ := CS.of_GG (P := P) (AnchW := AnchW) (End := End) (tag := .ret) trivial hk
      refine .inr (pstarter (tag := .acq) (tag' := .ret) hc ha hcom hgo rfl trivial (fun k _ => RWk.refl _ w) (TL.still K hc hcom.own (.inl rfl) (fun e he _ => by simp at he; subst he; exact evG_acq _ hcom.own.gW) rfl hcom.tl) hcom.own
        (by intro e he; simp at he; subst he; simp [mk]) hcom.pay hcom.hist rfl hk hwg (.fin trivial hq) (fun _ => ?_) (.inl (by simp only [phi]; omega)))
      have e1 : MemOp.ofEvents 0 a.frame.fn a.frame.place #[mk (.acquire (stA X.Wg))] = #[{ g := 0, fn := a.frame.fn, pos := a.frame.place, act := .mark (.acquire (stA X.Wg)) }] := by rw [ofEvents_eq]; simp [ofEvent_mk]
      have hy : (t ++ #[({ g := 0, fn := a.frame.fn, pos := a.frame.place, act := .mark (.acquire (stA X.Wg)) } : MemOp)])[t.size]? = some { g := 0, fn := a.frame.fn, pos := a.frame.place, act := .mark (.acquire (stA X.Wg)) } := by simp
      refine ⟨t.size, by rw [e1, act?_of hy], by rw [e1]; simp [Trace.g?], by rw [e1]; exact ⟨0, by simp [Trace.g?], by rw [deaf_old (Nat.le_refl _)]; exact hcom.deaf0⟩, fun i hi => ?_⟩
      obtain ⟨r, hr⟩ := hcom.rel i hi (by rw [hq i hi]; omega)
      exact ⟨r, hr.appOther g_of_ofEvents (by omega), lt_of_act? hr.act⟩
    | .ret, hok, hcom, hmode, hacq, hVj, hjW, hstop, hs => exact .inl ⟨rfl, hstop⟩
  · exact .inr (pidle K hc ha hok hcom hwg hmode hacq hgo hG hlt h')

/-! ### the machine -/
theorem psomeone (hAr : ∀ S g w, AnchW S g w → g.status = .running) (hEr : ∀ S g w, End S g w → g.status = .running) (ha : gs[0]? = some a) (hcs : CS P X AnchW End tag r0 S a w) (hcom : PCom P X Shun c w₀ q (jOf X.W tag) gs w t D rk Ow S (deafOf tag)) (hmode : Go.ConcN.Mode (jOf X.W tag) D tag st sm) :
    ∃ (i : Nat) (g : Goroutine), gs[i]? = some g ∧ g.status = .running := by
  rcases hcs.status hAr hEr with ⟨hs, _⟩ | ⟨_, rfl⟩
  · exact ⟨0, a, ha, hs⟩
  · cases hmode with
    | opn h1 _ _ => exact h1.elim
    | reg _ _ h3 =>
      obtain ⟨i, hi, h5⟩ := exists_counted h3
      obtain ⟨g, hg, hs⟩ := hcom.wk i hi
      exact ⟨c + i, g, hg, hs.running_of (by omega)⟩
    | last L _ h2 h3 _ =>
      obtain ⟨g, hg, hs⟩ := hcom.wk L h2
      exact ⟨c + L, g, hg, hs.running_of (by omega)⟩
    | fin h1 _ => exact h1.elim

theorem pawake (hAr : ∀ S g w, AnchW S g w → g.status = .running) (hEr : ∀ S g w, End S g w → g.status = .running) (ha : gs[0]? = some a) (hcs : CS P X AnchW End tag r0 S a w) (hcom : PCom P X Shun c w₀ q (jOf X.W tag) gs w t D rk Ow S (deafOf tag)) : ∀ g ∈ gs, awake g := by
  intro g hg tm
  obtain ⟨i, hi⟩ := Array.mem_iff_getElem?.1 hg
  rcases Nat.eq_zero_or_pos i with rfl | hpos
  · rw [ha] at hi; cases hi
    rcases hcs.status hAr hEr with ⟨hs, _⟩ | ⟨hs, _⟩ <;> rw [hs] <;> simp
  · by_cases hic : i < c
    · rcases (hcom.old i g hpos hic hi).status with h | h <;> rw [h] <;> simp
    · obtain ⟨i', rfl⟩ : ∃ i', i = c + i' := ⟨i - c, by omega⟩
      have hlt : i' < jOf X.W tag := by have := (Array.getElem?_eq_some_iff.1 hi).1; rw [hcom.size] at this; omega
      obtain ⟨g', hg', hs⟩ := hcom.wk i' hlt
      rw [hi] at hg'; cases hg'
      rcases hs.status with h | h <;> rw [h] <;> simp

theorem pstep (K : PXOk X) (hc : 0 < c) (hAr : ∀ S g w, AnchW S g w → g.status = .running) (hEr : ∀ S g w, End S g w → g.status = .running) (hAn : ∀ S g w, AnchW S g w → GG P true (RSt X) (GSt X) (StW1 P X AnchW End) S g w) :
    ∀ μ m t, PInv P X AnchW End Shun c w₀ μ m t → (∃ N m' t', runNT P N m t = (.next m', t') ∧ PDone P X End Shun c w₀ m' t') ∨ (∃ m' ops μ', stepT P m = (.next m', ops) ∧ LtMu X.W μ' μ ∧ PInv P X AnchW End Shun c w₀ μ' m' (t ++ ops)) := by
  rintro μ m t ⟨gs, w, sl, D, rk, Ow, S, q, tag, r0, a, st, sm, rfl, ha, hok, hcs, hcom, hwg, hmode, hacq, rfl⟩
  by_cases hret : PDone P X End Shun c w₀ (crowd gs w sl) t
  · exact .inl ⟨0, _, _, rfl, hret⟩
  obtain ⟨i, g, d, sl', hg, hrun, hstep⟩ := crowd_pick (P := P) (w := w) (sl := sl) (pawake hAr hEr ha hcs hcom) (psomeone hAr hEr ha hcs hcom hmode)
  have hcs' := hcs.rely (RSt.at S w d)
  have hcom' := hcom.at d
  have hwg' : WgAt X.ty X.Wg (w.at d) st sm := hwg
  rcases Nat.eq_zero_or_pos i with rfl | hpos
  · rw [ha] at hg; cases hg
    rcases pstepStarter (sl := sl') K hc hAn ha hok hcs' hcom' hwg' hmode hacq hrun with ⟨rfl, h⟩ | h
    · exact absurd (pdone K hc ha hcom hwg hmode (hacq rfl) (h w ⟨rfl, Nat.le_refl _, fun _ _ => rfl, id, id⟩)) hret
    · rw [hstep]; exact .inr h
  · rw [hstep]
    by_cases hic : i < c
    · exact .inr (pleaver hc hAr hEr ha hok hcs' hcom' hwg' hmode hacq (fun _ _ _ hm e => hm.retag e) hpos hic hg hrun)
    · obtain ⟨i', rfl⟩ : ∃ i', i = c + i' := ⟨i - c, by omega⟩
      have hlt : i' < jOf X.W tag := by have := (Array.getElem?_eq_some_iff.1 hg).1; rw [hcom.size] at this; omega
      exact .inr (pstepWorker K hc hAr hEr ha hok hcs' hcom' hwg' hmode hacq hlt hg hrun)

/-- ████ THE WHOLE PHASE, ON WHATEVER TAPE. ████ -/
theorem pruns (K : PXOk X) (hc : 0 < c) (hAr : ∀ S g w, AnchW S g w → g.status = .running) (hEr : ∀ S g w, End S g w → g.status = .running) (hAn : ∀ S g w, AnchW S g w → GG P true (RSt X) (GSt X) (StW1 P X AnchW End) S g w) :
    ∀ μ m t, PInv P X AnchW End Shun c w₀ μ m t → ∃ N m' t', runNT P N m t = (.next m', t') ∧ PDone P X End Shun c w₀ m' t' := by
  intro μ
  induction μ using (ltMu_wf X.W).induction with
  | _ μ ih =>
    intro m t hI
    rcases pstep K hc hAr hEr hAn μ m t hI with h | ⟨m', ops, μ', hs, hr, hI'⟩
    · exact h
    · obtain ⟨N, m'', t'', h1, h2⟩ := ih μ' hr m' (t ++ ops) hI'
      exact ⟨N + 1, m'', t'', by simp only [runNT, hs]; exact h1, h2⟩

/-- The phase's beginning: goroutine 0 at the loop that starts the workers, beside leavers. -/
theorem pbegin (K : PXOk X) (hc : 0 < c) (ha : gs[0]? = some a) (hsz : gs.size = c) (hL : Leavers P t gs q) (hP : Past Shun w.heap.size t) (hn : NoRelease (stA X.Wg) t) (hwg : WgAt X.ty X.Wg w 0 0) (hpay : X.Pay w)
    (hO : OwnOk X 0 (fun _ _ => False) S w.heap.size) (hSh : ∀ b, (X.Ro b ∨ S b ∨ b = X.Wg ∨ b = X.C) → NoShun Shun b) (hsp : SpawnsG P X AnchW X.W S a w) :
    ∃ μ, PInv P X AnchW End Shun c w μ (crowd gs w sl) t := by
  have nsh : ∀ {B : Nat → Prop} {l : Loc}, (∀ b, B b → NoShun Shun b) → placeIn B l → ¬ Shun l ∧ l.isMemory = true := by
    rintro B l hB (⟨a, rfl, h⟩ | ⟨b, rfl, h⟩)
    · exact ⟨(hB _ h).1 a rfl, rfl⟩
    · exact ⟨(hB _ h).2, rfl⟩
  have htl : TL (ShN X.Wg) (placeIn X.Ro) Shun c 0 (MP X c 0 (fun _ _ => False) S) w.heap.size t := by
    refine TL.init hP (fun l hl => ?_) (fun l hl => nsh (fun b hb => hSh b (.inl hb)) hl) (fun l hl => ?_)
    · rw [MP.zero] at hl
      rcases hl with hl | ⟨a, rfl, h, _⟩
      · exact nsh (fun b hb => hSh b (.inr (.inl hb))) hl
      · exact ⟨(hSh _ (.inr (.inr (.inr h)))).1 a rfl, rfl⟩
    · obtain ⟨a, rfl, h⟩ := hl
      exact ⟨(hSh _ (.inr (.inr (.inl h)))).1 a rfl, rfl⟩
  have hcom : PCom P X Shun c w q 0 gs w t (fun _ => ⟨0, 0, 0⟩) (fun _ => .leaf) (fun _ _ => False) S 0 :=
    ⟨by rw [hsz]; rfl, fun i g hi _ hg => hL.old i g hi hg, fun i hi => by omega, htl, hO, hn, hP.hears, fun i hi => by omega, fun g hg => hL.above g (by rw [hsz]; exact hg), fun i hi => by omega, fun i hi => by omega, hpay, ⟨rfl, rfl, rfl, Nat.le_refl _, fun _ _ => rfl⟩⟩
  have hmode : ∀ tag, isOpen tag → pend tag = 0 → (∀ vs, tag ≠ .w2 vs) → Go.ConcN.Mode 0 (fun _ => (⟨0, 0, 0⟩ : WD)) tag 0 0 := fun tag h1 h2 h3 => by
    have := Mode.opn (j := 0) (D := fun _ => (⟨0, 0, 0⟩ : WD)) h1 (fun i hi => by omega) (fun vs e => absurd e (h3 vs))
    simpa [Vc, sumTo, h2] using this
  cases hW : X.W with
  | zero =>
    rw [hW] at hsp
    obtain ⟨r, hk⟩ := CS.of_GG (P := P) (AnchW := AnchW) (End := End) (tag := .kd) trivial hsp
    exact ⟨_, gs, w, sl, _, _, _, S, q, .kd, r, a, 0, 0, rfl, ha, trivial, hk, by rw [show jOf X.W .kd = 0 from hW]; exact hcom, hwg, by rw [show jOf X.W .kd = 0 from hW]; exact hmode .kd trivial rfl (by simp), by simp, rfl⟩
  | succ r' =>
    rw [hW] at hsp
    have ej : jOf X.W (.sp r' 5) = 0 := by simp [jOf, hW]
    obtain ⟨r, hk⟩ := CS.of_GG (P := P) (AnchW := AnchW) (End := End) (tag := .sp r' 5) (show r' < X.W by omega) hsp
    exact ⟨_, gs, w, sl, _, _, _, S, q, .sp r' 5, r, a, 0, 0, rfl, ha, (show r' < X.W by omega), hk, by rw [ej]; exact hcom, hwg, by rw [ej]; exact hmode (.sp r' 5) trivial rfl (by simp), by simp, rfl⟩
end
end Go.Proofs.Ytfecdmenliohhaa
