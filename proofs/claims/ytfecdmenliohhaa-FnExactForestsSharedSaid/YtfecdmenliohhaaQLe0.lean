/- Two runs of one piece of the model's programs over two memories that are alike up to the numbers of their blocks: the relation, and that the one run follows the other. Plain; no program in sight. Two runs of one piece of the model's programs over two memories that are alike: the true run follows the view's, draw for draw. Plain. -/
import GoSem.Step
set_option linter.unusedVariables false
set_option linter.unusedSimpArgs false
namespace Go.Proofs.Ytfecdmenliohhaa
open Go

/-- A renaming: the view's block to the true one. -/
abbrev Ren := Nat → Option Nat
def RLe (p q : Ren) : Prop := ∀ b c, p b = some c → q b = some c
theorem RLe.refl (p : Ren) : RLe p p := fun _ _ h => h
theorem RLe.trans {p q r : Ren} (h : RLe p q) (k : RLe q r) : RLe p r := fun b c x => k b c (h b c x)

/-- The functions that may be entered; how many blocks are the program's own (the view holds none of them alive); which true blocks are not to be written (the view holds them frozen); how far a block of the view lies behind the true one's beginning (a window); which blocks of the view hold nothing; a type that there is not. -/
structure Cx where
  F : FuncId → Prop
  G : Nat
  lock : Nat → Prop
  sh : Nat → Option Nat := fun _ => none
  dead : Nat → Prop := fun _ => False
  bad : TypeId := 0

structure ARel (C : Cx) (p : Ren) (a a' : Addr) : Prop where
  b : p a.block = some a'.block
  o : a'.off = a.off + (C.sh a.block).getD 0
  s : a'.spot = a.spot
  g : C.G ≤ a.block
theorem ARel.mono {C : Cx} {p q : Ren} {a a' : Addr} (h : ARel C p a a') (k : RLe p q) : ARel C q a a' := ⟨k _ _ h.b, h.o, h.s, h.g⟩
theorem ARel.add {C : Cx} {p : Ren} {a a' : Addr} (h : ARel C p a a') (n : Nat) : ARel C p (a.add n) (a'.add n) := by
  unfold Addr.add
  split
  · exact h
  · exact ⟨h.b, by simp only [h.o]; omega, rfl, h.g⟩

/-- A value that one cell can hold. -/
def oneC : Value → Bool
  | .agg _ | .tuple _ => false
  | _ => true
/-- A value that the view may be kept from looking at. -/
def hidable : Value → Bool
  | .agg _ | .tuple _ | .bool _ => false
  | _ => true
theorem oneC_of_hidable {v : Value} (h : hidable v = true) : oneC v = true := by cases v <;> first | rfl | cases h
/-- What the view holds in place of a value that it is not to look at. -/
abbrev junkV : Value := .nilIface

/-- Values alike: no floats, no interfaces; functions of the list F alone; whatever the view is not to look at. -/
inductive VRel (C : Cx) (p : Ren) : Value → Value → Prop
  | junk {v' : Value} : hidable v' = true → VRel C p junkV v'
  | bool (b : Bool) : VRel C p (.bool b) (.bool b)
  | int (k : IntKind) (n : Int) : VRel C p (.int k n) (.int k n)
  | string (b : ByteArray) : VRel C p (.string b) (.string b)
  | ptr0 : VRel C p (.pointer none) (.pointer none)
  | ptr {a a' : Addr} : ARel C p a a' → VRel C p (.pointer (some a)) (.pointer (some a'))
  | slice0 : VRel C p (.slice none 0 0) (.slice none 0 0)
  | slice {a a' : Addr} (l c : Nat) : ARel C p a a' → VRel C p (.slice (some a) l c) (.slice (some a') l c)
  | sliceE {a a' : Addr} (c : Nat) : C.dead a.block → VRel C p (.slice (some a) 0 c) (.slice (some a') 0 c)
  | func0 : VRel C p .nilFunc .nilFunc
  | func {f : FuncId} {x x' y y' : Array Value} : C.F f → x.size = x'.size → (∀ (i : Nat) (v v' : Value), x[i]? = some v → x'[i]? = some v' → VRel C p v v') →
      y.size = y'.size → (∀ (i : Nat) (v v' : Value), y[i]? = some v → y'[i]? = some v' → VRel C p v v') → VRel C p (.func (.func f) x y) (.func (.func f) x' y')
  | tuple {x x' : Array Value} : x.size = x'.size → (∀ (i : Nat) (v v' : Value), x[i]? = some v → x'[i]? = some v' → VRel C p v v') → VRel C p (.tuple x) (.tuple x')
  | agg {x x' : Array Value} : x.size = x'.size → (∀ (i : Nat) (v v' : Value), x[i]? = some v → x'[i]? = some v' → VRel C p v v') → VRel C p (.agg x) (.agg x')

theorem VRel.mono {C : Cx} {p q : Ren} {v v' : Value} (h : VRel C p v v') (k : RLe p q) : VRel C q v v' := by
  induction h with
  | junk h => exact .junk h
  | bool b => exact .bool b
  | int a b => exact .int a b
  | string b => exact .string b
  | ptr0 => exact .ptr0
  | ptr h => exact .ptr (h.mono k)
  | slice0 => exact .slice0
  | slice l c h => exact .slice l c (h.mono k)
  | sliceE c h => exact .sliceE c h
  | func0 => exact .func0
  | func hf hs _ ht _ ih ih' => exact .func hf hs ih ht ih'
  | tuple hs _ ih => exact .tuple hs ih
  | agg hs _ ih => exact .agg hs ih

/-- Rows of values alike. -/
structure ASame (C : Cx) (p : Ren) (x x' : Array Value) : Prop where
  size : x.size = x'.size
  at_ : ∀ (i : Nat) (v v' : Value), x[i]? = some v → x'[i]? = some v' → VRel C p v v'
section
variable {C : Cx} {p q : Ren} {x x' y y' : Array Value} {v v' : Value}
theorem ASame.mono (h : ASame C p x x') (k : RLe p q) : ASame C q x x' := ⟨h.size, fun i v v' a b => (h.at_ i v v' a b).mono k⟩
theorem ASame.get (h : ASame C p x x') {i : Nat} (hv : x[i]? = some v) : ∃ v', x'[i]? = some v' ∧ VRel C p v v' := by
  have hi : i < x'.size := by
    have := (Array.getElem?_eq_some_iff.1 hv).1
    have := h.size; omega
  exact ⟨x'[i], Array.getElem?_eq_getElem hi, h.at_ i v _ hv (Array.getElem?_eq_getElem hi)⟩
theorem ASame.get_none (h : ASame C p x x') {i : Nat} (hv : x[i]? = none) : x'[i]? = none := by
  have := Array.getElem?_eq_none_iff.1 hv
  exact Array.getElem?_eq_none (by have := h.size; omega)
theorem ASame.set (h : ASame C p x x') (k : VRel C p v v') (i : Nat) : ASame C p (x.setIfInBounds i v) (x'.setIfInBounds i v') := by
  refine ⟨by simp [h.size], fun j a a' ha ha' => ?_⟩
  by_cases hij : i = j
  · subst hij
    have hi : i < x.size := by simpa using (Array.getElem?_eq_some_iff.1 ha).1
    rw [Array.getElem?_setIfInBounds_self_of_lt hi] at ha
    rw [Array.getElem?_setIfInBounds_self_of_lt (by have := h.size; omega)] at ha'
    cases ha; cases ha'; exact k
  · rw [Array.getElem?_setIfInBounds_ne hij] at ha ha'
    exact h.at_ j a a' ha ha'
theorem ASame.push (h : ASame C p x x') (k : VRel C p v v') : ASame C p (x.push v) (x'.push v') := by
  refine ⟨by simp [h.size], fun j a a' ha ha' => ?_⟩
  rw [Array.getElem?_push] at ha ha'
  split at ha <;> rename_i hj
  · rw [if_pos (h.size ▸ hj)] at ha'; cases ha; cases ha'; exact k
  · rw [if_neg (h.size ▸ hj)] at ha'; exact h.at_ j a a' ha ha'
theorem ASame.empty : ASame C p #[] #[] := ⟨rfl, fun i v v' h => by simp at h⟩
theorem ASame.append (h : ASame C p x x') (k : ASame C p y y') : ASame C p (x ++ y) (x' ++ y') := by
  refine ⟨by simp [h.size, k.size], fun j a a' ha ha' => ?_⟩
  rw [Array.getElem?_append] at ha ha'
  rw [← h.size] at ha'
  split at ha <;> rename_i hj
  · rw [if_pos hj] at ha'; exact h.at_ j a a' ha ha'
  · rw [if_neg hj] at ha'; exact k.at_ _ a a' ha ha'
theorem ASame.extract (h : ASame C p x x') (i j : Nat) : ASame C p (x.extract i j) (x'.extract i j) := by
  refine ⟨by simp [h.size], fun k a a' ha ha' => ?_⟩
  rw [Array.getElem?_extract] at ha ha'
  rw [← h.size] at ha'
  split at ha <;> rename_i hk
  · rw [if_pos hk] at ha'; exact h.at_ _ a a' ha ha'
  · cases ha
theorem ASame.one (k : VRel C p v v') : ASame C p #[v] #[v'] := by
  have := (ASame.empty (C := C) (p := p)).push k
  simpa using this
theorem ASame.getD (h : ASame C p x x') (k : VRel C p v v') (i : Nat) : VRel C p (x.getD i v) (x'.getD i v') := by
  simp only [Array.getD_eq_getD_getElem?]
  cases ha : x[i]? with
  | none => rw [h.get_none ha]; exact k
  | some a => obtain ⟨a', e, r⟩ := h.get ha; rw [e]; exact r
theorem ASame.func {f : FuncId} (hf : C.F f) (h : ASame C p x x') (k : ASame C p y y') : VRel C p (.func (.func f) x y) (.func (.func f) x' y') := .func hf h.size h.at_ k.size k.at_
theorem ASame.tup (h : ASame C p x x') : VRel C p (.tuple x) (.tuple x') := .tuple h.size h.at_
theorem ASame.replicate (k : VRel C p v v') (n : Nat) : ASame C p (Array.replicate n v) (Array.replicate n v') := by
  refine ⟨by simp, fun i a a' ha ha' => ?_⟩
  simp only [Array.getElem?_replicate] at ha ha'
  split at ha
  · rename_i hi; rw [if_pos hi] at ha'; cases ha; cases ha'; exact k
  · cases ha
end

/-- Blocks alike: rows of cells (what the view freezes may be free in truth), numbers of addresses. -/
inductive ORel (C : Cx) (p : Ren) : Obj → Obj → Prop
  | cells {c c' : Array Value} {e : TypeId} {z z' : Nat × Nat} : ASame C p c c' → (∀ i, z'.1 ≤ i → i < z'.2 → z.1 ≤ i ∧ i < z.2) → ORel C p (.cells c e z) (.cells c' e z')
  | number {a a' : Addr} {l : Bool} : ARel C p a a' → ORel C p (.number a l) (.number a' l)
theorem ORel.mono {C : Cx} {p q : Ren} {o o' : Obj} (h : ORel C p o o') (k : RLe p q) : ORel C q o o' := by
  cases h with
  | cells h hz => exact .cells (h.mono k) hz
  | number h => exact .number (h.mono k)

/-- The view's block b beside the true block c: the whole of it; a window of it. -/
inductive WObj (C : Cx) (p : Ren) (b c : Nat) : Obj → Obj → Prop
  | full {o o' : Obj} : C.sh b = none → ORel C p o o' → WObj C p b c o o'
  | win {cs cs' : Array Value} {e : TypeId} {z z' : Nat × Nat} {n : Nat} : C.sh b = some n → C.lock c → (∀ (i : Nat) (v : Value), cs[i]? = some v → ∃ v', cs'[i + n]? = some v' ∧ VRel C p v v') → WObj C p b c (.cells cs C.bad z) (.cells cs' e z')
theorem WObj.mono {C : Cx} {p q : Ren} {b c : Nat} {o o' : Obj} (h : WObj C p b c o o') (k : RLe p q) : WObj C q b c o o' := by
  cases h with
  | full h0 h => exact .full h0 (h.mono k)
  | win h0 hl h => exact .win h0 hl fun i v hv => let ⟨v', h1, h2⟩ := h i v hv; ⟨v', h1, h2.mono k⟩
theorem WObj.kind {C : Cx} {p : Ren} {b c : Nat} {o o' : Obj} (h : WObj C p b c o o') : (∃ cs e z, o = .cells cs e z) ∨ ∃ a l, o = .number a l := by
  cases h with
  | full _ h => cases h with
    | cells => exact .inl ⟨_, _, _, rfl⟩
    | number => exact .inr ⟨_, _, rfl⟩
  | win => exact .inl ⟨_, _, _, rfl⟩
/-- Shapes alike; a window's says nothing. -/
inductive ShR (C : Cx) (b : Nat) : Option (TypeId × Nat) → Option (TypeId × Nat) → Prop
  | same (s : Option (TypeId × Nat)) : C.sh b = none → ShR C b s s
  | win {m : Nat} (n : Nat) (x : TypeId × Nat) : C.sh b = some m → ShR C b (some (C.bad, n)) (some x)

/-- The program's blocks are told; there is no such type. -/
structure GOk (P : Program) (C : Cx) : Prop where
  glob : C.G = P.globals.size
  bad : P.info? C.bad = none

/-- The view w, the true world w'. -/
structure WRel (C : Cx) (p : Ren) (w w' : World) : Prop where
  inj : ∀ b b₁ c, p b = some c → p b₁ = some c → b = b₁ ∨ C.lock c
  obj : ∀ b c, p b = some c → ∃ o o', w.heap[b]? = some o ∧ w'.heap[c]? = some o' ∧ WObj C p b c o o'
  gV : C.G ≤ w.heap.size
  lockV : ∀ b c, p b = some c → C.lock c → ∃ cs e m, w.heap[b]? = some (.cells cs e (0, m)) ∧ cs.size ≤ m
  lockT : ∀ c, C.lock c → c < w'.heap.size
  shV : ∀ b, w.heap.size ≤ b → C.sh b = none
  deadV : ∀ b, C.dead b → p b = none ∧ w.heap[b]? = some (.cells #[] C.bad (0, 0))

section
variable {C : Cx} {p q : Ren} {w w' : World} {a a' : Addr} {v v' : Value}

theorem WRel.lt (h : WRel C p w w') {b c : Nat} (hb : p b = some c) : b < w.heap.size ∧ c < w'.heap.size := by
  obtain ⟨o, o', h1, h2, _⟩ := h.obj b c hb
  exact ⟨(Array.getElem?_eq_some_iff.1 h1).1, (Array.getElem?_eq_some_iff.1 h2).1⟩

theorem WRel.cell (h : WRel C p w w') (ha : ARel C p a a') (hv : w.cell? a = some v) : ∃ v', w'.cell? a' = some v' ∧ VRel C p v v' := by
  obtain ⟨o, o', h1, h2, hr⟩ := h.obj _ _ ha.b
  unfold World.cell? at hv ⊢
  rw [h1] at hv; rw [h2]
  cases hr with
  | full h0 hr =>
    cases hr with
    | cells hc _ =>
      simp only at hv ⊢
      rw [ha.s, ha.o, h0, Option.getD_none, Nat.add_zero]
      split at hv
      · cases hv
      · rename_i hs; simp only [hs]; exact hc.get hv
    | number _ => cases hv
  | win h0 _ hc =>
    simp only at hv ⊢
    rw [ha.s, ha.o, h0, Option.getD_some]
    split at hv
    · cases hv
    · rename_i hs; simp only [hs]; exact hc _ _ hv
theorem WRel.far (h : WRel C p w w') (P : Program) (ha : ARel C p a a') (at_ : Bool) : ∃ e, w.farLoad P a at_ = .error e := by
  obtain ⟨o, o', h1, _, hr⟩ := h.obj _ _ ha.b
  unfold World.farLoad
  rw [h1]
  cases hr with
  | full _ hr => cases hr <;> exact ⟨_, rfl⟩
  | win _ _ _ => exact ⟨_, rfl⟩
theorem WRel.farS (h : WRel C p w w') (P : Program) (ha : ARel C p a a') (at_ : Bool) (v : Value) : ∃ e, w.farStore P a v at_ = .error e := by
  obtain ⟨o, o', h1, _, hr⟩ := h.obj _ _ ha.b
  unfold World.farStore
  rw [h1]
  cases hr with
  | full _ hr => cases hr <;> exact ⟨_, rfl⟩
  | win _ _ _ => exact ⟨_, rfl⟩
theorem WRel.shape (h : WRel C p w w') {b c : Nat} (hb : p b = some c) : ShR C b (w.shape? b) (w'.shape? c) := by
  obtain ⟨o, o', h1, h2, hr⟩ := h.obj _ _ hb
  unfold World.shape?
  rw [h1, h2]
  cases hr with
  | full h0 hr =>
    cases hr with
    | cells hc _ => simp only [hc.size]; exact .same _ h0
    | number _ => exact .same _ h0
  | win h0 _ _ => exact .win _ _ h0

theorem heap_setCell (w : World) (a : Addr) (v : Value) (b : Nat) : (w.setCell a v).heap[b]? = if a.block = b then (w.heap[b]?).map (fun | .cells c e f => .cells (if a.spot.isSome then c else c.setIfInBounds a.off v) e f | o => o) else w.heap[b]? := by
  unfold World.setCell
  simp only [Array.getElem?_modify]
  rfl

/-- What is locked is not stored to. -/
theorem WRel.unlocked (h : WRel C p w w') (ha : ARel C p a a') {u : Value} (hc : w.cell? a = some u) (hf : w.frozen? a = false) : ¬ C.lock a'.block := by
  intro hl
  obtain ⟨cs, e, m, h1, h2⟩ := h.lockV _ _ ha.b hl
  unfold World.cell? at hc
  unfold World.frozen? at hf
  rw [h1] at hc hf
  simp only at hc hf
  split at hc
  · cases hc
  · have := (Array.getElem?_eq_some_iff.1 hc).1
    simp only [Nat.zero_le, decide_true, Bool.true_and, decide_eq_false_iff_not] at hf
    omega
theorem WRel.frozen (h : WRel C p w w') (ha : ARel C p a a') {u : Value} (hc : w.cell? a = some u) (hf : w.frozen? a = false) : w'.frozen? a' = false := by
  have hu := h.unlocked ha hc hf
  obtain ⟨o, o', h1, h2, hr⟩ := h.obj _ _ ha.b
  unfold World.frozen? at hf ⊢
  rw [h1] at hf; rw [h2]
  cases hr with
  | full h0 hr =>
    cases hr with
    | cells hc hz =>
      simp only at hf ⊢
      rw [ha.o, h0, Option.getD_none, Nat.add_zero]
      rename_i z z'
      simp only [Bool.and_eq_false_iff, decide_eq_false_iff_not] at hf ⊢
      rcases Classical.em (z'.1 ≤ a.off ∧ a.off < z'.2) with hx | hx
      · have := hz _ hx.1 hx.2; omega
      · omega
    | number _ => rfl
  | win _ hl _ => exact absurd hl hu
theorem WRel.set (h : WRel C p w w') (ha : ARel C p a a') (hv : VRel C p v v') (hu : ¬ C.lock a'.block) : WRel C p (w.setCell a v) (w'.setCell a' v') := by
  refine ⟨h.inj, fun b c hb => ?_, by simpa [World.setCell] using h.gV, fun b c hb hl => ?_, fun c hl => by simpa [World.setCell] using h.lockT c hl, fun b hb => h.shV b (by simpa [World.setCell] using hb), fun b hb => ?_⟩
  · obtain ⟨o, o', h1, h2, hr⟩ := h.obj b c hb
    by_cases hab : a.block = b
    · subst hab
      obtain rfl : c = a'.block := by have := ha.b; rw [hb] at this; exact Option.some.inj this
      rw [heap_setCell, heap_setCell, if_pos rfl, if_pos rfl, h1, h2]
      cases hr with
      | full h0 hr =>
        cases hr with
        | cells hc hz =>
          refine ⟨_, _, rfl, rfl, .full h0 ?_⟩
          simp only [ha.s, ha.o, h0, Option.getD_none, Nat.add_zero]
          split
          · exact .cells hc hz
          · exact .cells (hc.set hv _) hz
        | number hn => exact ⟨_, _, rfl, rfl, .full h0 (.number hn)⟩
      | win _ hl _ => exact absurd hl hu
    · have hne : a'.block ≠ c := fun e => (h.inj _ _ _ (e ▸ ha.b) hb).elim hab fun hl => hu (e ▸ hl)
      rw [heap_setCell, heap_setCell, if_neg hab, if_neg hne]
      exact ⟨o, o', h1, h2, hr⟩
  · obtain ⟨cs, e, m, h1, h2⟩ := h.lockV b c hb hl
    refine ⟨cs, e, m, ?_, h2⟩
    rw [heap_setCell, if_neg]
    · exact h1
    · rintro rfl
      rw [ha.b] at hb; cases hb
      exact hu hl
  · obtain ⟨h1, h2⟩ := h.deadV b hb
    refine ⟨h1, ?_⟩
    rw [heap_setCell, if_neg]
    · exact h2
    · rintro rfl
      rw [ha.b] at h1; cases h1

theorem WRel.deadL (h : WRel C p w w') (hd : C.dead a.block) (P : Program) (at_ : Bool) : w.cell? a = none ∧ w.farLoad P a at_ = .error (.stuck "load: no such cell") := by
  obtain ⟨_, e⟩ := h.deadV _ hd
  refine ⟨?_, ?_⟩
  · unfold World.cell?
    rw [e]
    simp
  · unfold World.farLoad World.noCell
    rw [e]
theorem WRel.deadS (h : WRel C p w w') (hd : C.dead a.block) (P : Program) (v : Value) (at_ : Bool) : w.cell? a = none ∧ w.farStore P a v at_ = .error (.stuck "store: no such cell") := by
  obtain ⟨_, e⟩ := h.deadV _ hd
  refine ⟨?_, ?_⟩
  · unfold World.cell?
    rw [e]
    simp
  · unfold World.farStore World.noCell
    rw [e]

/-- The renaming with one block more. -/
def Ren.ext (p : Ren) (r r' : Nat) : Ren := fun b => if b = r then some r' else p b

theorem WRel.ext_le (h : WRel C p w w') : RLe p (p.ext w.heap.size w'.heap.size) := fun b c hb => by
  unfold Ren.ext
  rw [if_neg (by have := (h.lt hb).1; omega)]; exact hb

theorem WRel.push (h : WRel C p w w') {o o' : Obj} (ho : ORel C p o o') :
    WRel C (p.ext w.heap.size w'.heap.size) { w with heap := w.heap.push o } { w' with heap := w'.heap.push o' } := by
  refine ⟨fun b b₁ c hb hb₁ => ?_, fun b c hb => ?_, by have := h.gV; simp; omega, fun b c hb hl => ?_, fun c hl => by have := h.lockT c hl; simp; omega, fun b hb => h.shV b (by simp at hb; omega), fun b hb => ?_⟩
  · unfold Ren.ext at hb hb₁
    split at hb <;> split at hb₁
    · rename_i e e'; exact .inl (by rw [e, e'])
    · cases hb; have := (h.lt hb₁).2; omega
    · cases hb₁; have := (h.lt hb).2; omega
    · exact h.inj _ _ _ hb hb₁
  · have hle := h.ext_le
    unfold Ren.ext at hb
    split at hb
    · rename_i e
      subst e; cases hb
      exact ⟨o, o', by simp, by simp, .full (h.shV _ (Nat.le_refl _)) (ho.mono hle)⟩
    · obtain ⟨x, x', h1, h2, hr⟩ := h.obj b c hb
      refine ⟨x, x', ?_, ?_, hr.mono hle⟩
      · rw [Array.getElem?_push_lt (h.lt hb).1]; simpa [Array.getElem?_eq_getElem (h.lt hb).1] using h1
      · rw [Array.getElem?_push_lt (h.lt hb).2]; simpa [Array.getElem?_eq_getElem (h.lt hb).2] using h2
  · unfold Ren.ext at hb
    split at hb
    · cases hb
      have := h.lockT _ hl
      omega
    · obtain ⟨cs, e, m, h1, h2⟩ := h.lockV b c hb hl
      refine ⟨cs, e, m, ?_, h2⟩
      show (w.heap.push o)[b]? = _
      rw [Array.getElem?_push_lt (h.lt hb).1]; simpa [Array.getElem?_eq_getElem (h.lt hb).1] using h1
  · obtain ⟨h1, h2⟩ := h.deadV b hb
    have hlt := (Array.getElem?_eq_some_iff.1 h2).1
    refine ⟨?_, ?_⟩
    · unfold Ren.ext
      rw [if_neg (by omega)]; exact h1
    · show (w.heap.push o)[b]? = _
      rw [Array.getElem?_push_lt hlt]; simpa [Array.getElem?_eq_getElem hlt] using h2
theorem WRel.draws (h : WRel C p w w') (d d' : Nat) (t t' : Nat → Question → Nat) : WRel C p { w with drawn := d, tape := t } { w' with drawn := d', tape := t' } := ⟨h.inj, h.obj, h.gV, h.lockV, h.lockT, h.shV, h.deadV⟩
end

/-! ### programs of the model's free form, alike -/
/-- How the view's run may fail: it is stuck, it panics, it comes to what the model does not have. -/
def haltOk : Halt → Bool
  | .stuck _ | .panic _ => true
  | .unsupported (.initOrder _) => false
  | .unsupported _ => true
  | _ => false
/-- The run comes to no value, wherever it begins. -/
def Dies {α : Type} (P : Program) (s : Sem α) : Prop := ∀ w, ∃ h w', s.run P w = .halt h w' ∧ haltOk h = true

theorem run_bind {α β : Type} (P : Program) (f : α → Sem β) : ∀ (s : Sem α) (w : World), (s.bind f).run P w = match s.run P w with | .ok a w' => (f a).run P w' | .halt h w' => .halt h w' := by
  intro s
  induction s with
  | pure a => exact fun w => rfl
  | load m a k ih =>
    intro w
    simp only [Sem.bind, Sem.run]
    split
    · exact ih _ _
    · split
      · exact ih _ _
      · rfl
  | store m a v k ih =>
    intro w
    cases v <;> simp only [Sem.bind, Sem.run] <;> first
      | rfl
      | (split
         · split
           · rfl
           · exact ih _
         · split
           · exact ih _
           · rfl)
  | new o k ih => exact fun w => ih _ _
  | shape r k ih => exact fun w => ih _ _
  | freeze a n k ih => exact fun w => ih _
  | frozen a k ih => exact fun w => ih _ _
  | getObj r k ih =>
    intro w
    simp only [Sem.bind, Sem.run]
    split
    · rfl
    · exact ih _ _
    · rfl
  | setObj r o k ih =>
    intro w
    simp only [Sem.bind, Sem.run]
    split
    · rfl
    · exact ih _
    · rfl
  | choose q k ih =>
    intro w
    simp only [Sem.bind, Sem.run]
    split
    · exact ih _ _
    · exact ih _ _
  | sys c k ih => exact fun w => ih _ _
  | program k ih => exact fun w => ih _ _
  | mark m k ih => exact fun w => ih _
  | halt h => exact fun w => rfl

section
variable (P : Program) (C : Cx)

inductive SRel {α β : Type} (Q : Ren → α → β → Prop) : Ren → Sem α → Sem β → Prop
  | pure {p : Ren} {a : α} {b : β} : Q p a b → SRel Q p (.pure a) (.pure b)
  | load {p : Ren} {a a' : Addr} {k : Value → Sem α} {k' : Value → Sem β} : ARel C p a a' → (∀ v v', VRel C p v v' → SRel Q p (k v) (k' v')) → SRel Q p (.load .plain a k) (.load .plain a' k')
  | store {p : Ren} {a a' : Addr} {v v' : Value} {k : Sem α} {k' : Sem β} : ARel C p a a' → VRel C p v v' → SRel Q p k k' → SRel Q p (.store .plain a v k) (.store .plain a' v' k')
  | new {p : Ren} {o o' : Obj} {k : Nat → Sem α} {k' : Nat → Sem β} : ORel C p o o' → (∀ q r r', RLe p q → q r = some r' → C.G ≤ r ∧ C.sh r = none → SRel Q q (k r) (k' r')) → SRel Q p (.new o k) (.new o' k')
  | shape {p : Ren} {r r' : Nat} {k : Option (TypeId × Nat) → Sem α} {k' : Option (TypeId × Nat) → Sem β} : p r = some r' → (∀ s s', ShR C r s s' → SRel Q p (k s) (k' s')) → SRel Q p (.shape r k) (.shape r' k')
  | getObj {p : Ren} {r r' : Nat} {k : Obj → Sem α} {k' : Obj → Sem β} : p r = some r' → (∀ a a' l, ARel C p a a' → SRel Q p (k (.number a l)) (k' (.number a' l))) → SRel Q p (.getObj r k) (.getObj r' k')
  | choose {p : Ren} {q : Question} {k : Nat → Sem α} {k' : Nat → Sem β} : (∀ n, SRel Q p (k n) (k' n)) → SRel Q p (.choose q k) (.choose q k')
  | program {p : Ren} {k : Program → Sem α} {k' : Program → Sem β} : SRel Q p (k P) (k' P) → SRel Q p (.program k) (.program k')
  | room {p : Ren} {k : Sem α} {k' : Sem β} : SRel Q p k k' → SRel Q p (.mark .noRoom k) (.mark .noRoom k')
  /-- Where the view holds nothing. -/
  | deadL {p : Ren} {a : Addr} {k : Value → Sem α} {s' : Sem β} : C.dead a.block → SRel Q p (.load .plain a k) s'
  | deadS {p : Ren} {a : Addr} {v : Value} {k : Sem α} {s' : Sem β} : C.dead a.block → SRel Q p (.store .plain a v k) s'
  /-- The view's run never comes to a value. -/
  | dies {p : Ren} {s : Sem α} {s' : Sem β} : Dies P s → SRel Q p s s'
end

section
variable {P : Program} {C : Cx}

theorem Dies.halt {α : Type} {h : Halt} (e : haltOk h = true) : Dies P (.halt h : Sem α) := fun w => ⟨h, w, rfl, e⟩
theorem Dies.bind {α β : Type} {s : Sem α} (d : Dies P s) (f : α → Sem β) : Dies P (s.bind f) := fun w => by
  obtain ⟨h, w', e, k⟩ := d w
  exact ⟨h, w', by rw [run_bind, e], k⟩

theorem SRel.bind {α β γ δ : Type} {Q : Ren → α → β → Prop} {R : Ren → γ → δ → Prop} {p : Ren} {s : Sem α} {s' : Sem β} {f : α → Sem γ} {f' : β → Sem δ} (h : SRel P C Q p s s')
    (k : ∀ q a b, RLe p q → Q q a b → SRel P C R q (f a) (f' b)) : SRel P C R p (s.bind f) (s'.bind f') := by
  induction h with
  | pure h => exact k _ _ _ (RLe.refl _) h
  | load ha _ ih => exact .load ha fun v v' hv => ih v v' hv k
  | store ha hv _ ih => exact .store ha hv (ih k)
  | new ho _ ih => exact .new ho fun q r r' hq hr hg => ih q r r' hq hr hg fun q' a b h1 h2 => k q' a b (hq.trans h1) h2
  | shape hr _ ih => exact .shape hr fun s s' hs => ih s s' hs k
  | getObj hr _ ih => exact .getObj hr fun a a' l h => ih a a' l h k
  | choose _ ih => exact .choose fun n => ih n k
  | program _ ih => exact .program (ih k)
  | room _ ih => exact .room (ih k)
  | deadL hd => exact .deadL hd
  | deadS hd => exact .deadS hd
  | dies hd => exact .dies (hd.bind f)

theorem SRel.mono {α β : Type} {Q R : Ren → α → β → Prop} {p : Ren} {s : Sem α} {s' : Sem β} (h : SRel P C Q p s s') (k : ∀ q a b, RLe p q → Q q a b → R q a b) : SRel P C R p s s' := by
  induction h with
  | pure h => exact .pure (k _ _ _ (RLe.refl _) h)
  | load ha _ ih => exact .load ha fun v v' hv => ih v v' hv k
  | store ha hv _ ih => exact .store ha hv (ih k)
  | new ho _ ih => exact .new ho fun q r r' hq hr hg => ih q r r' hq hr hg fun q' a b h1 h2 => k q' a b (hq.trans h1) h2
  | shape hr _ ih => exact .shape hr fun s s' hs => ih s s' hs k
  | getObj hr _ ih => exact .getObj hr fun a a' l h => ih a a' l h k
  | choose _ ih => exact .choose fun n => ih n k
  | program _ ih => exact .program (ih k)
  | room _ ih => exact .room (ih k)
  | deadL hd => exact .deadL hd
  | deadS hd => exact .deadS hd
  | dies hd => exact .dies hd
end

/-! ### the one run follows the other -/
/-- What the true run touches. -/
def EvOk (C : Cx) (p : Ren) (e : Event) : Prop := (e.sync = false ∧ ∃ b c, p b = some c ∧ ((∃ a : Addr, e.loc = .cell a ∧ a.block = c) ∨ (e.loc = .obj c ∧ e.write = false)) ∧ (e.write = true → ¬ C.lock c)) ∨ e = ⟨.mark .noRoom, false, true⟩
theorem EvOk.mono {C : Cx} {p q : Ren} {e : Event} (h : EvOk C p e) (k : RLe p q) : EvOk C q e := h.imp (fun ⟨s, b, c, x, y⟩ => ⟨s, b, c, k _ _ x, y⟩) id

/-- What the true run does to the true world. -/
structure Kept (C : Cx) (p q : Ren) (w w' : World) : Prop where
  tape : w'.tape = w.tape
  os : w'.os = w.os
  output : w'.output = w.output
  size : w.heap.size ≤ w'.heap.size
  other : ∀ c, c < w.heap.size → (∀ b, p b ≠ some c) → w'.heap[c]? = w.heap[c]?
  fresh : ∀ b c, q b = some c → p b = some c ∨ (w.heap.size ≤ c ∧ c < w'.heap.size)
  all : ∀ c, w.heap.size ≤ c → c < w'.heap.size → ∃ b, q b = some c
  locked : ∀ c, C.lock c → c < w.heap.size → w'.heap[c]? = w.heap[c]?
theorem Kept.refl {C : Cx} (p : Ren) (w : World) : Kept C p p w w := ⟨rfl, rfl, rfl, Nat.le_refl _, fun _ _ _ => rfl, fun _ _ h => .inl h, fun c h1 h2 => by omega, fun _ _ _ => rfl⟩
theorem Kept.trans {C : Cx} {p q r : Ren} {w w₁ w₂ : World} (h : Kept C p q w w₁) (k : Kept C q r w₁ w₂) (hqr : RLe q r) : Kept C p r w w₂ := by
  refine ⟨k.tape.trans h.tape, k.os.trans h.os, k.output.trans h.output, Nat.le_trans h.size k.size, fun c hc hn => ?_, fun b c hb => ?_, fun c h1 h2 => ?_, fun c hl hc => (k.locked c hl (Nat.lt_of_lt_of_le hc h.size)).trans (h.locked c hl hc)⟩
  · rw [k.other c (Nat.lt_of_lt_of_le hc h.size) fun b hb => ?_]
    · exact h.other c hc hn
    · rcases h.fresh b c hb with h1 | ⟨h1, _⟩
      · exact hn b h1
      · omega
  · rcases k.fresh b c hb with h1 | ⟨h1, h2⟩
    · exact (h.fresh b c h1).imp id fun ⟨x, y⟩ => ⟨x, Nat.lt_of_lt_of_le y k.size⟩
    · exact .inr ⟨Nat.le_trans h.size h1, h2⟩
  · rcases Nat.lt_or_ge c w₁.heap.size with hlt | hge
    · obtain ⟨b, hb⟩ := h.all c h1 hlt; exact ⟨b, hqr _ _ hb⟩
    · exact k.all c hge h2
end Go.Proofs.Ytfecdmenliohhaa

set_option linter.unusedSimpArgs false
set_option linter.unusedVariables false
namespace Go.Proofs.Ytfecdmenliohhaa
open Go

/-- From here on the true world's answers are the view's, as far as the view asks till w₁. -/
def Agree (w w₁ w' : World) : Prop := ∀ (j : Nat) (q : Question), j < w₁.drawn - w.drawn → w'.tape (w'.drawn + j) q = w.tape (w.drawn + j) q

section
variable {P : Program} {C : Cx}

/-- What is said of a step of the true run. -/
structure Follows {β : Type} (p : Ren) (w₁ w' : World) (k : Nat) (s' : Sem β) (P : Program) (C : Cx) (R : Ren → β → Prop) (q : Ren) (b : β) (w₁' : World) : Prop where
  le : RLe p q
  val : R q b
  rel : WRel C q w₁ w₁'
  kept : Kept C p q w' w₁'
  drawn : w₁'.drawn = w'.drawn + k
  run : ∀ es : Array Event, ∃ es' : Array Event, s'.runT P w' es = (.ok b w₁', es ++ es') ∧ ∀ e ∈ es', EvOk C q e

theorem SRel.sound {α β : Type} {Q : Ren → α → β → Prop} {p : Ren} {s : Sem α} {s' : Sem β} (h : SRel P C Q p s s') :
    ∀ (w w' : World) (a : α) (w₁ : World), WRel C p w w' → s.run P w = .ok a w₁ → (w.drawn ≤ w₁.drawn ∧ w₁.tape = w.tape) ∧
      (Agree w w₁ w' → ∃ q b w₁', Follows p w₁ w' (w₁.drawn - w.drawn) s' P C (fun q b => Q q a b) q b w₁') := by
  induction h with
  | pure hQ =>
    intro w w' a w₁ hw hr
    cases hr
    exact ⟨⟨Nat.le_refl _, rfl⟩, fun _ => ⟨_, _, w', RLe.refl _, hQ, hw, .refl _ _, by omega, fun es => ⟨#[], by simp [Sem.runT], by simp⟩⟩⟩
  | @load p a a' k k' ha _ ih =>
    intro w w' x w₁ hw hr
    simp only [Sem.run] at hr
    cases hc : w.cell? a with
    | none => obtain ⟨e, he⟩ := hw.far P ha (Mode.plain == .atomic); simp only [hc, he] at hr; cases hr
    | some v =>
      simp only [hc] at hr
      obtain ⟨v', hc', hv⟩ := hw.cell ha hc
      obtain ⟨h1, h2⟩ := ih v v' hv w w' x w₁ hw hr
      refine ⟨h1, fun hA => ?_⟩
      obtain ⟨q, b, w₁', f⟩ := h2 hA
      refine ⟨q, b, w₁', f.le, f.val, f.rel, f.kept, f.drawn, fun es => ?_⟩
      obtain ⟨es', e1, e2⟩ := f.run (es.push ⟨.cell a', false, false⟩)
      refine ⟨#[⟨.cell a', false, false⟩] ++ es', ?_, fun e he => ?_⟩
      · simp only [Sem.runT, hc']
        rw [show (Mode.plain == Mode.atomic) = false from rfl, e1]
        simp [← Array.append_assoc]
      · rcases Array.mem_append.1 he with he | he
        · simp only [List.mem_toArray, List.mem_cons, List.not_mem_nil, or_false] at he
          subst he
          exact .inl ⟨rfl, _, _, f.le _ _ ha.b, .inl ⟨a', rfl, rfl⟩, fun e => by cases e⟩
        · exact e2 e he
  | @store p a a' v v' k k' ha hv _ ih =>
    intro w w' x w₁ hw hr
    have key : ∀ (_ : oneC v = true) (_ : oneC v' = true), (w.drawn ≤ w₁.drawn ∧ w₁.tape = w.tape) ∧
        (Agree w w₁ w' → ∃ q b w₁', Follows p w₁ w' (w₁.drawn - w.drawn) (Sem.store .plain a' v' k') P C (fun q b => Q q x b) q b w₁') := by
      intro o1 o2
      cases hc : w.cell? a with
      | none =>
        obtain ⟨e, he⟩ := hw.farS P ha (Mode.plain == .atomic) v
        cases v <;> simp only [oneC, Bool.false_eq_true] at o1 <;> (simp only [Sem.run, hc, he] at hr; cases hr)
      | some u =>
        obtain ⟨u', hc', _⟩ := hw.cell ha hc
        cases hf : w.frozen? a with
        | true => cases v <;> simp only [oneC, Bool.false_eq_true] at o1 <;> (simp only [Sem.run, hc, hf, if_true] at hr; cases hr)
        | false =>
          have hu := hw.unlocked ha hc hf
          have hr' : k.run P (w.setCell a v) = .ok x w₁ := by
            cases v <;> simp only [oneC, Bool.false_eq_true] at o1 <;> (simpa only [Sem.run, hc, hf, Bool.false_eq_true, if_false] using hr)
          obtain ⟨h1, h2⟩ := ih (w.setCell a v) (w'.setCell a' v') x w₁ (hw.set ha hv hu) hr'
          refine ⟨h1, fun hA => ?_⟩
          obtain ⟨q, b, w₁', f⟩ := h2 hA
          have hf' := hw.frozen ha hc hf
          have hk : Kept C p p w' (w'.setCell a' v') := by
            refine ⟨rfl, rfl, rfl, by simp [World.setCell], fun c hc hn => ?_, fun b c hb => .inl hb, fun c h1 h2 => by simp [World.setCell] at h2; omega, fun c hl hc => ?_⟩
            · rw [heap_setCell, if_neg (fun e : a'.block = c => hn _ (by rw [← e]; exact ha.b))]
            · rw [heap_setCell, if_neg (fun e : a'.block = c => hu (by rw [e]; exact hl))]
          refine ⟨q, b, w₁', f.le, f.val, f.rel, hk.trans f.kept f.le, f.drawn, fun es => ?_⟩
          obtain ⟨es', e1, e2⟩ := f.run (es.push ⟨.cell a', true, false⟩)
          refine ⟨#[⟨.cell a', true, false⟩] ++ es', ?_, fun e he => ?_⟩
          · have : (Sem.store .plain a' v' k').runT P w' es = k'.runT P (w'.setCell a' v') (es.push ⟨.cell a', true, false⟩) := by
              cases v' <;> simp only [oneC, Bool.false_eq_true] at o2 <;> (simp only [Sem.runT, hc', hf', Bool.false_eq_true, if_false]; rfl)
            rw [this, e1]
            simp [← Array.append_assoc]
          · rcases Array.mem_append.1 he with he | he
            · simp only [List.mem_toArray, List.mem_cons, List.not_mem_nil, or_false] at he
              subst he
              exact .inl ⟨rfl, _, _, f.le _ _ ha.b, .inl ⟨a', rfl, rfl⟩, fun _ => hu⟩
            · exact e2 e he
    cases hv with
    | tuple _ _ => simp only [Sem.run] at hr; cases hr
    | agg _ _ => simp only [Sem.run] at hr; cases hr
    | junk h => exact key rfl (oneC_of_hidable h)
    | _ => exact key rfl rfl
  | @new p o o' k k' ho _ ih =>
    intro w w' x w₁ hw hr
    simp only [Sem.run] at hr
    have hp := hw.push ho
    obtain ⟨h1, h2⟩ := ih (p.ext w.heap.size w'.heap.size) w.heap.size w'.heap.size hw.ext_le (by simp [Ren.ext]) ⟨hw.gV, hw.shV _ (Nat.le_refl _)⟩ _ { w' with heap := w'.heap.push o' } x w₁ hp hr
    refine ⟨h1, fun hA => ?_⟩
    obtain ⟨q, b, w₁', f⟩ := h2 hA
    have hk : Kept C p (p.ext w.heap.size w'.heap.size) w' { w' with heap := w'.heap.push o' } := by
      refine ⟨rfl, rfl, rfl, by simp, fun c hc hn => ?_, fun b c hb => ?_, fun c h1 h2 => ⟨w.heap.size, ?_⟩, fun c hl hc => ?_⟩
      · show (w'.heap.push o')[c]? = _
        rw [Array.getElem?_push_lt hc, Array.getElem?_eq_getElem hc]
      · unfold Ren.ext at hb
        split at hb
        · cases hb; exact .inr ⟨Nat.le_refl _, by simp⟩
        · exact .inl hb
      · simp at h2
        simp only [Ren.ext, if_true]
        congr 1; omega
      · show (w'.heap.push o')[c]? = _
        rw [Array.getElem?_push_lt hc, Array.getElem?_eq_getElem hc]
    exact ⟨q, b, w₁', hw.ext_le.trans f.le, f.val, f.rel, hk.trans f.kept f.le, f.drawn, fun es => by simpa only [Sem.runT] using f.run es⟩
  | @shape p r r' k k' hr' _ ih =>
    intro w w' x w₁ hw hr
    simp only [Sem.run] at hr
    obtain ⟨h1, h2⟩ := ih (w.shape? r) (w'.shape? r') (hw.shape hr') w w' x w₁ hw hr
    refine ⟨h1, fun hA => ?_⟩
    obtain ⟨q, b, w₁', f⟩ := h2 hA
    exact ⟨q, b, w₁', f.le, f.val, f.rel, f.kept, f.drawn, fun es => by simpa only [Sem.runT] using f.run es⟩
  | @getObj p r r' k k' hr' _ ih =>
    intro w w' x w₁ hw hr
    obtain ⟨o, o', e1, e2, hor⟩ := hw.obj _ _ hr'
    cases hor with
    | win _ _ _ => simp only [Sem.run, e1] at hr; cases hr
    | full _ hor =>
    cases hor with
    | cells _ _ => simp only [Sem.run, e1] at hr; cases hr
    | @number a a' l ha =>
      simp only [Sem.run, e1] at hr
      obtain ⟨h1, h2⟩ := ih a a' l ha w w' x w₁ hw hr
      refine ⟨h1, fun hA => ?_⟩
      obtain ⟨q, b, w₁', f⟩ := h2 hA
      refine ⟨q, b, w₁', f.le, f.val, f.rel, f.kept, f.drawn, fun es => ?_⟩
      obtain ⟨es', x1, x2⟩ := f.run (es.push ⟨.obj r', false, false⟩)
      refine ⟨#[⟨.obj r', false, false⟩] ++ es', ?_, fun e he => ?_⟩
      · simp only [Sem.runT, e2, Obj.isChan]
        rw [x1]
        simp [← Array.append_assoc]
      · rcases Array.mem_append.1 he with he | he
        · simp only [List.mem_toArray, List.mem_cons, List.not_mem_nil, or_false] at he
          subst he
          exact .inl ⟨rfl, _, _, f.le _ _ hr', .inr ⟨rfl, rfl⟩, fun e => by cases e⟩
        · exact x2 e he
  | @choose p q k k' _ ih =>
    intro w w' x w₁ hw hr
    simp only [Sem.run] at hr
    cases hq : q.forced with
    | true =>
      simp only [hq, if_true] at hr
      obtain ⟨h1, h2⟩ := ih 0 w w' x w₁ hw hr
      refine ⟨h1, fun hA => ?_⟩
      obtain ⟨r, b, w₁', f⟩ := h2 hA
      exact ⟨r, b, w₁', f.le, f.val, f.rel, f.kept, f.drawn, fun es => by simpa only [Sem.runT, hq, if_true] using f.run es⟩
    | false =>
      simp only [hq, Bool.false_eq_true, if_false] at hr
      have hd : WRel C p { w with drawn := w.drawn + 1 } { w' with drawn := w'.drawn + 1 } := hw.draws _ _ w.tape w'.tape
      obtain ⟨⟨h1, h1'⟩, h2⟩ := ih _ { w with drawn := w.drawn + 1 } { w' with drawn := w'.drawn + 1 } x w₁ hd hr
      have hlt : w.drawn < w₁.drawn := h1
      refine ⟨⟨by omega, h1'⟩, fun hA => ?_⟩
      have e0 : w'.tape w'.drawn q = w.tape w.drawn q := by simpa using hA 0 q (by omega)
      obtain ⟨r, b, w₁', f⟩ := h2 (fun j q' hj => by
        have hj' : j < w₁.drawn - (w.drawn + 1) := hj
        have := hA (j + 1) q' (by omega)
        show w'.tape (w'.drawn + 1 + j) q' = w.tape (w.drawn + 1 + j) q'
        rw [show w'.drawn + 1 + j = w'.drawn + (j + 1) by omega, show w.drawn + 1 + j = w.drawn + (j + 1) by omega]; exact this)
      have hk : Kept C p p w' { w' with drawn := w'.drawn + 1 } := ⟨rfl, rfl, rfl, Nat.le_refl _, fun _ _ _ => rfl, fun _ _ h => .inl h, fun c h1 h2 => by exact absurd h2 (by show ¬ c < w'.heap.size; omega), fun _ _ _ => rfl⟩
      refine ⟨r, b, w₁', f.le, f.val, f.rel, hk.trans f.kept f.le, ?_, fun es => ?_⟩
      · have := f.drawn
        have e : ({ w with drawn := w.drawn + 1 } : World).drawn = w.drawn + 1 := rfl
        have e' : ({ w' with drawn := w'.drawn + 1 } : World).drawn = w'.drawn + 1 := rfl
        rw [e, e'] at this
        omega
      · simp only [Sem.runT, hq, Bool.false_eq_true, if_false, e0]
        exact f.run es
  | program _ ih =>
    intro w w' x w₁ hw hr
    obtain ⟨h1, h2⟩ := ih w w' x w₁ hw hr
    refine ⟨h1, fun hA => ?_⟩
    obtain ⟨q, b, w₁', f⟩ := h2 hA
    exact ⟨q, b, w₁', f.le, f.val, f.rel, f.kept, f.drawn, fun es => by simpa only [Sem.runT] using f.run es⟩
  | room _ ih =>
    intro w w' x w₁ hw hr
    obtain ⟨h1, h2⟩ := ih w w' x w₁ hw hr
    refine ⟨h1, fun hA => ?_⟩
    obtain ⟨q, b, w₁', f⟩ := h2 hA
    refine ⟨q, b, w₁', f.le, f.val, f.rel, f.kept, f.drawn, fun es => ?_⟩
    obtain ⟨es', x1, x2⟩ := f.run (es.push ⟨.mark .noRoom, false, true⟩)
    refine ⟨#[⟨.mark .noRoom, false, true⟩] ++ es', ?_, fun e he => ?_⟩
    · simp only [Sem.runT]
      rw [x1]
      simp [← Array.append_assoc]
    · rcases Array.mem_append.1 he with he | he
      · simp only [List.mem_toArray, List.mem_cons, List.not_mem_nil, or_false] at he
        subst he
        exact .inr rfl
      · exact x2 e he
  | deadL hd => intro w w' x w₁ hw hr; obtain ⟨e1, e2⟩ := hw.deadL hd P (Mode.plain == .atomic); simp only [Sem.run, e1, e2] at hr; cases hr
  | @deadS p a v k s' hd =>
    intro w w' x w₁ hw hr
    obtain ⟨e1, e2⟩ := hw.deadS hd P v (Mode.plain == .atomic)
    cases v <;> (simp only [Sem.run, e1, e2] at hr; cases hr)
  | dies hd => intro w w' x w₁ hw hr; obtain ⟨h, w₂, e, _⟩ := hd w; rw [e] at hr; cases hr

/-- How the view's run fails. -/
theorem SRel.halts {α β : Type} {Q : Ren → α → β → Prop} {p : Ren} {s : Sem α} {s' : Sem β} (h : SRel P C Q p s s') :
    ∀ (w w' : World) (x : Halt) (w₁ : World), WRel C p w w' → s.run P w = .halt x w₁ → haltOk x = true := by
  induction h with
  | pure hQ => intro w w' x w₁ hw hr; cases hr
  | @load p a a' k k' ha _ ih =>
    intro w w' x w₁ hw hr
    simp only [Sem.run] at hr
    cases hc : w.cell? a with
    | none =>
      obtain ⟨o, o', e1, _, hor⟩ := hw.obj _ _ ha.b
      have : w.farLoad P a (Mode.plain == .atomic) = .error (.stuck "load: no such cell") := by
        unfold World.farLoad World.noCell
        rw [e1]
        rcases hor.kind with ⟨_, _, _, rfl⟩ | ⟨_, _, rfl⟩ <;> rfl
      simp only [hc, this] at hr; cases hr; rfl
    | some v =>
      simp only [hc] at hr
      obtain ⟨v', hc', hv⟩ := hw.cell ha hc
      exact ih v v' hv w w' x w₁ hw hr
  | @store p a a' v v' k k' ha hv _ ih =>
    intro w w' x w₁ hw hr
    have key : ∀ (_ : oneC v = true), haltOk x = true := by
      intro o1
      cases hc : w.cell? a with
      | none =>
        obtain ⟨o, o', e1, _, hor⟩ := hw.obj _ _ ha.b
        have : w.farStore P a v (Mode.plain == .atomic) = .error (.stuck "store: no such cell") := by
          unfold World.farStore World.noCell
          rw [e1]
          rcases hor.kind with ⟨_, _, _, rfl⟩ | ⟨_, _, rfl⟩ <;> rfl
        cases v <;> simp only [oneC, Bool.false_eq_true] at o1 <;> (simp only [Sem.run, hc, this] at hr; cases hr; rfl)
      | some u =>
        cases hf : w.frozen? a with
        | true => cases v <;> simp only [oneC, Bool.false_eq_true] at o1 <;> (simp only [Sem.run, hc, hf, if_true] at hr; cases hr; rfl)
        | false =>
          have hu := hw.unlocked ha hc hf
          have hr' : k.run P (w.setCell a v) = .halt x w₁ := by
            cases v <;> simp only [oneC, Bool.false_eq_true] at o1 <;> (simpa only [Sem.run, hc, hf, Bool.false_eq_true, if_false] using hr)
          exact ih (w.setCell a v) (w'.setCell a' v') x w₁ (hw.set ha hv hu) hr'
    cases hv with
    | tuple _ _ => simp only [Sem.run] at hr; cases hr; rfl
    | agg _ _ => simp only [Sem.run] at hr; cases hr; rfl
    | _ => exact key rfl
  | @new p o o' k k' ho _ ih =>
    intro w w' x w₁ hw hr
    simp only [Sem.run] at hr
    exact ih (p.ext w.heap.size w'.heap.size) w.heap.size w'.heap.size hw.ext_le (by simp [Ren.ext]) ⟨hw.gV, hw.shV _ (Nat.le_refl _)⟩ _ { w' with heap := w'.heap.push o' } x w₁ (hw.push ho) hr
  | @shape p r r' k k' hr' _ ih =>
    intro w w' x w₁ hw hr
    exact ih (w.shape? r) (w'.shape? r') (hw.shape hr') w w' x w₁ hw hr
  | @getObj p r r' k k' hr' _ ih =>
    intro w w' x w₁ hw hr
    obtain ⟨o, o', e1, e2, hor⟩ := hw.obj _ _ hr'
    cases hor with
    | win _ _ _ => simp only [Sem.run, e1] at hr; cases hr; rfl
    | full _ hor =>
    cases hor with
    | cells _ _ => simp only [Sem.run, e1] at hr; cases hr; rfl
    | @number a a' l ha =>
      simp only [Sem.run, e1] at hr
      exact ih a a' l ha w w' x w₁ hw hr
  | @choose p q k k' _ ih =>
    intro w w' x w₁ hw hr
    simp only [Sem.run] at hr
    split at hr
    · exact ih 0 w w' x w₁ hw hr
    · exact ih _ { w with drawn := w.drawn + 1 } { w' with drawn := w'.drawn + 1 } x w₁ (hw.draws _ _ w.tape w'.tape) hr
  | program _ ih => intro w w' x w₁ hw hr; exact ih w w' x w₁ hw hr
  | room _ ih => intro w w' x w₁ hw hr; exact ih w w' x w₁ hw hr
  | deadL hd => intro w w' x w₁ hw hr; obtain ⟨e1, e2⟩ := hw.deadL hd P (Mode.plain == .atomic); simp only [Sem.run, e1, e2] at hr; cases hr; rfl
  | @deadS p a v k s' hd =>
    intro w w' x w₁ hw hr
    obtain ⟨e1, e2⟩ := hw.deadS hd P v (Mode.plain == .atomic)
    cases v <;> (simp only [Sem.run, e1, e2] at hr; cases hr; rfl)
  | dies hd => intro w w' x w₁ hw hr; obtain ⟨h, w₂, e, hk⟩ := hd w; rw [e] at hr; cases hr; exact hk

/-- The world with another tape, read from another place. -/
def World.tp (w : World) (T : Nat → Question → Nat) (d : Nat) : World := { w with tape := T, drawn := d }

/-- The run asks its tape for what it uses, and for no more. -/
theorem SRel.tape {α β : Type} {Q : Ren → α → β → Prop} {p : Ren} {s : Sem α} {s' : Sem β} (h : SRel P C Q p s s') :
    ∀ (w w' : World) (a : α) (w₁ : World), WRel C p w w' → s.run P w = .ok a w₁ → w.drawn ≤ w₁.drawn ∧
      ∀ (T : Nat → Question → Nat) (d : Nat), (∀ j q, j < w₁.drawn - w.drawn → T (d + j) q = w.tape (w.drawn + j) q) → s.run P (World.tp w T d) = .ok a (World.tp w₁ T (d + (w₁.drawn - w.drawn))) := by
  induction h with
  | pure hQ => intro w w' a w₁ hw hr; cases hr; exact ⟨Nat.le_refl _, fun T d _ => by simp [Sem.run, World.tp]⟩
  | @load p a a' k k' ha _ ih =>
    intro w w' x w₁ hw hr
    simp only [Sem.run] at hr
    cases hc : w.cell? a with
    | none => obtain ⟨e, he⟩ := hw.far P ha (Mode.plain == .atomic); simp only [hc, he] at hr; cases hr
    | some v =>
      simp only [hc] at hr
      obtain ⟨v', hc', hv⟩ := hw.cell ha hc
      obtain ⟨h1, h2⟩ := ih v v' hv w w' x w₁ hw hr
      refine ⟨h1, fun T d hT => ?_⟩
      have : (World.tp w T d).cell? a = some v := hc
      simp only [Sem.run, this]
      exact h2 T d hT
  | @store p a a' v v' k k' ha hv _ ih =>
    intro w w' x w₁ hw hr
    have key : ∀ (_ : oneC v = true), w.drawn ≤ w₁.drawn ∧ ∀ (T : Nat → Question → Nat) (d : Nat), (∀ j q, j < w₁.drawn - w.drawn → T (d + j) q = w.tape (w.drawn + j) q) → (Sem.store .plain a v k).run P (World.tp w T d) = .ok x (World.tp w₁ T (d + (w₁.drawn - w.drawn))) := by
      intro o1
      cases hc : w.cell? a with
      | none =>
        obtain ⟨e, he⟩ := hw.farS P ha (Mode.plain == .atomic) v
        cases v <;> simp only [oneC, Bool.false_eq_true] at o1 <;> (simp only [Sem.run, hc, he] at hr; cases hr)
      | some u =>
        cases hf : w.frozen? a with
        | true => cases v <;> simp only [oneC, Bool.false_eq_true] at o1 <;> (simp only [Sem.run, hc, hf, if_true] at hr; cases hr)
        | false =>
          have hu := hw.unlocked ha hc hf
          have hr' : k.run P (w.setCell a v) = .ok x w₁ := by
            cases v <;> simp only [oneC, Bool.false_eq_true] at o1 <;> (simpa only [Sem.run, hc, hf, Bool.false_eq_true, if_false] using hr)
          obtain ⟨h1, h2⟩ := ih (w.setCell a v) (w'.setCell a' v') x w₁ (hw.set ha hv hu) hr'
          refine ⟨h1, fun T d hT => ?_⟩
          have e1 : (World.tp w T d).cell? a = some u := hc
          have e2 : (World.tp w T d).frozen? a = false := hf
          have e3 := h2 T d hT
          cases v <;> simp only [oneC, Bool.false_eq_true] at o1 <;> (simp only [Sem.run, e1, e2, Bool.false_eq_true, if_false]; exact e3)
    cases hv with
    | tuple _ _ => simp only [Sem.run] at hr; cases hr
    | agg _ _ => simp only [Sem.run] at hr; cases hr
    | _ => exact key rfl
  | @new p o o' k k' ho _ ih =>
    intro w w' x w₁ hw hr
    simp only [Sem.run] at hr
    exact ih (p.ext w.heap.size w'.heap.size) w.heap.size w'.heap.size hw.ext_le (by simp [Ren.ext]) ⟨hw.gV, hw.shV _ (Nat.le_refl _)⟩ _ { w' with heap := w'.heap.push o' } x w₁ (hw.push ho) hr
  | @shape p r r' k k' hr' _ ih =>
    intro w w' x w₁ hw hr
    exact ih (w.shape? r) (w'.shape? r') (hw.shape hr') w w' x w₁ hw hr
  | @getObj p r r' k k' hr' _ ih =>
    intro w w' x w₁ hw hr
    obtain ⟨o, o', e1, e2, hor⟩ := hw.obj _ _ hr'
    cases hor with
    | win _ _ _ => simp only [Sem.run, e1] at hr; cases hr
    | full _ hor =>
    cases hor with
    | cells _ _ => simp only [Sem.run, e1] at hr; cases hr
    | @number a a' l ha =>
      simp only [Sem.run, e1] at hr
      obtain ⟨h1, h2⟩ := ih a a' l ha w w' x w₁ hw hr
      refine ⟨h1, fun T d hT => ?_⟩
      have e : (World.tp w T d).heap[r]? = some (.number a l) := e1
      simp only [Sem.run, e]
      exact h2 T d hT
  | @choose p q k k' _ ih =>
    intro w w' x w₁ hw hr
    simp only [Sem.run] at hr
    cases hq : q.forced with
    | true =>
      simp only [hq, if_true] at hr
      obtain ⟨h1, h2⟩ := ih 0 w w' x w₁ hw hr
      refine ⟨h1, fun T d hT => ?_⟩
      simp only [Sem.run, hq, if_true]
      exact h2 T d hT
    | false =>
      simp only [hq, Bool.false_eq_true, if_false] at hr
      obtain ⟨h1, h2⟩ := ih _ { w with drawn := w.drawn + 1 } { w' with drawn := w'.drawn + 1 } x w₁ (hw.draws _ _ w.tape w'.tape) hr
      have hlt : w.drawn < w₁.drawn := h1
      refine ⟨by omega, fun T d hT => ?_⟩
      have e0 : T d q = w.tape w.drawn q := by simpa using hT 0 q (by omega)
      have := h2 T (d + 1) (fun j q' hj => by
        have hj' : j < w₁.drawn - (w.drawn + 1) := hj
        have := hT (j + 1) q' (by omega)
        show T (d + 1 + j) q' = w.tape (w.drawn + 1 + j) q'
        rw [show d + 1 + j = d + (j + 1) by omega, show w.drawn + 1 + j = w.drawn + (j + 1) by omega]; exact this)
      have e1 : ({ w with drawn := w.drawn + 1 } : World).drawn = w.drawn + 1 := rfl
      rw [e1, show d + 1 + (w₁.drawn - (w.drawn + 1)) = d + (w₁.drawn - w.drawn) by omega] at this
      simp only [Sem.run, hq, Bool.false_eq_true, if_false]
      show Sem.run P (k (q.cut (T d q))) _ = _
      rw [e0]
      exact this
  | program _ ih => intro w w' x w₁ hw hr; exact ih w w' x w₁ hw hr
  | room _ ih => intro w w' x w₁ hw hr; exact ih w w' x w₁ hw hr
  | deadL hd => intro w w' x w₁ hw hr; obtain ⟨e1, e2⟩ := hw.deadL hd P (Mode.plain == .atomic); simp only [Sem.run, e1, e2] at hr; cases hr
  | @deadS p a v k s' hd =>
    intro w w' x w₁ hw hr
    obtain ⟨e1, e2⟩ := hw.deadS hd P v (Mode.plain == .atomic)
    cases v <;> (simp only [Sem.run, e1, e2] at hr; cases hr)
  | dies hd => intro w w' x w₁ hw hr; obtain ⟨h, w₂, e, _⟩ := hd w; rw [e] at hr; cases hr
end
end Go.Proofs.Ytfecdmenliohhaa
