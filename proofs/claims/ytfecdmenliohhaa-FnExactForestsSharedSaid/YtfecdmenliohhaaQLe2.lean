/- The model's small operations (integers, truth values, slices, addresses, functions), carried out over two memories that are alike, are alike. Plain. The model's operations on slices (length, append, make, literals), its conversions, comparisons and calls, carried out over two memories that are alike, are alike. Plain. The rest of the model's operations that these programs use, carried out over two memories that are alike, are alike. Plain. The model's two-operand operations and its calls, carried out over two memories that are alike, are alike; all operations together. Plain. Every operation of the kinds that these programs use, carried out over two memories that are alike, is alike; which texts are of these kinds, by a look. Plain. -/
import Derived.Test.YtfecdmenliohhaaQLe0
import GoSem.Dispatch
set_option linter.unusedVariables false
set_option linter.unusedSimpArgs false
set_option linter.unusedSimpArgs false
set_option linter.unusedVariables false
namespace Go.Proofs.Ytfecdmenliohhaa
open Go

/-- A constant that names no block and no function. -/
def constOk : Value → Bool
  | .bool _ | .int _ _ | .pointer none | .slice none 0 0 | .nilFunc => true
  | .tuple vs => vs.isEmpty
  | _ => false
theorem constOk_rel {C : Cx} {p : Ren} {v : Value} (h : constOk v = true) : VRel C p v v := by
  cases v with
  | bool b => exact .bool b
  | int k n => exact .int k n
  | pointer a => cases a with
    | none => exact .ptr0
    | some a => cases h
  | slice a l c => cases a with
    | none => cases l with
      | zero => cases c with
        | zero => exact .slice0
        | succ c => cases h
      | succ l => cases h
    | some a => cases h
  | nilFunc => exact .func0
  | tuple vs =>
    have : vs = #[] := by simpa [constOk] using h
    subst this
    exact ASame.empty.tup
  | _ => cases h

section
variable {P : Program} {C : Cx} {p : Ren}

/-! ### the small ones -/
abbrev QEq {α : Type} (R : α → Prop) : Ren → α → α → Prop := fun _ a b => a = b ∧ R a
abbrev QV (C : Cx) : Ren → Value → Value → Prop := fun q v v' => VRel C q v v'
abbrev QA (C : Cx) : Ren → Array Value → Array Value → Prop := fun q v v' => ASame C q v v'

theorem SRel.bind' {α β γ δ : Type} {Q : Ren → α → β → Prop} {R : Ren → γ → δ → Prop} {s : Sem α} {s' : Sem β} {f : α → Sem γ} {f' : β → Sem δ} (h : SRel P C Q p s s')
    (k : ∀ q a b, RLe p q → Q q a b → SRel P C R q (f a) (f' b)) : SRel P C R p (s >>= f) (s' >>= f') := h.bind k
theorem SRel.pure' {α β : Type} {Q : Ren → α → β → Prop} {a : α} {b : β} (h : Q p a b) : SRel P C Q p (Pure.pure a) (Pure.pure b) := .pure h
theorem SRel.ite {α β : Type} {Q : Ren → α → β → Prop} {c : Prop} [Decidable c] {a a' : Sem α} {b b' : Sem β} (h : c → SRel P C Q p a b) (k : ¬ c → SRel P C Q p a' b') : SRel P C Q p (if c then a else a') (if c then b else b') := by
  split
  · exact h ‹_›
  · exact k ‹_›
theorem SRel.stuck {α β : Type} {Q : Ren → α → β → Prop} {m : String} {s : Sem β} : SRel P C Q p (Go.stuck m : Sem α) s := .dies (.halt rfl)
theorem SRel.stuckB {α β γ : Type} {Q : Ren → γ → β → Prop} {m : String} {f : α → Sem γ} {s : Sem β} : SRel P C Q p ((Go.stuck m : Sem α) >>= f) s := .dies ((Dies.halt rfl).bind f)
/-- What the model does not have, but for the order of initialisation. -/
theorem SRel.unsup {α β : Type} {Q : Ren → α → β → Prop} {m : Unsupported} {s : Sem β} (h : haltOk (.unsupported m) = true) : SRel P C Q p (Go.unsupported m : Sem α) s := .dies (.halt h)
theorem SRel.unsupB {α β γ : Type} {Q : Ren → γ → β → Prop} {m : Unsupported} {f : α → Sem γ} {s : Sem β} (h : haltOk (.unsupported m) = true) : SRel P C Q p ((Go.unsupported m : Sem α) >>= f) s := .dies ((Dies.halt h).bind f)

theorem Dies.of_bind {α β : Type} (s : Sem α) (f : α → Sem β) (hs : ∀ w, (∃ a w', s.run P w = .ok a w') ∨ ∃ h w', s.run P w = .halt h w' ∧ haltOk h = true) (hf : ∀ a, Dies P (f a)) : Dies P (s >>= f) := by
  intro w
  rcases hs w with ⟨a, w₁, e⟩ | ⟨h, w', e, k⟩
  · obtain ⟨h, w', e', k⟩ := hf a w₁
    exact ⟨h, w', by rw [show s >>= f = s.bind f from rfl, run_bind, e]; exact e', k⟩
  · exact ⟨h, w', by rw [show s >>= f = s.bind f from rfl, run_bind, e], k⟩
theorem run_under (t : TypeId) (w : World) : (∃ a w', (underlying t).run P w = .ok a w') ∨ ∃ h w', (underlying t).run P w = .halt h w' ∧ haltOk h = true := by
  unfold underlying
  simp only [Go.program, Bind.bind, Sem.bind, Sem.run]
  cases P.underlying t with
  | none => exact .inr ⟨_, _, rfl, rfl⟩
  | some d => exact .inl ⟨_, _, rfl⟩
theorem run_elemOf (t : TypeId) (w : World) : (∃ a w', (elemOf t).run P w = .ok a w') ∨ ∃ h w', (elemOf t).run P w = .halt h w' ∧ haltOk h = true := by
  unfold elemOf
  rcases run_under (P := P) t w with ⟨a, w₁, e⟩ | ⟨h, w', e, k⟩
  · rw [show (underlying t >>= _) = (underlying t).bind _ from rfl, run_bind, e]
    cases a <;> first | exact .inl ⟨_, _, rfl⟩ | exact .inr ⟨_, _, rfl, rfl⟩
  · exact .inr ⟨h, w', by rw [show (underlying t >>= _) = (underlying t).bind _ from rfl, run_bind, e], k⟩
/-- A panic of the run-time system: the run comes to no value. -/
theorem rtp_dies {α : Type} (e : RuntimeError) : Dies P (runtimePanic e : Sem α) := by
  have key : ∀ (t : TypeId) (c : Array Value) (g : Addr → Value), Dies P (elemOf t >>= fun t => do let r ← newVar t (.agg c); goPanic (g r) : Sem α) := by
    intro t c g
    refine Dies.of_bind _ _ (run_elemOf t) fun a w => ⟨_, _, rfl, rfl⟩
  cases e with
  | typeAssertion i c t m => intro w; exact key _ #[_, _, _, _] _ w
  | panicNil => intro w; exact key _ #[] _ w
  | _ => intro w; exact ⟨_, _, rfl, rfl⟩
theorem SRel.rtp {α β : Type} {Q : Ren → α → β → Prop} {e : RuntimeError} {s : Sem β} : SRel P C Q p (runtimePanic e : Sem α) s := .dies (rtp_dies e)
theorem SRel.rtpB {α β γ : Type} {Q : Ren → γ → β → Prop} {e : RuntimeError} {f : α → Sem γ} {s : Sem β} : SRel P C Q p ((runtimePanic e : Sem α) >>= f) s := .dies ((rtp_dies e).bind f)
theorem SRel.prog {α β : Type} {Q : Ren → α → β → Prop} {f : Program → Sem α} {f' : Program → Sem β} (h : SRel P C Q p (f P) (f' P)) : SRel P C Q p (Go.program >>= f) (Go.program >>= f') := .program h
theorem SRel.chooseB {α β : Type} {Q : Ren → α → β → Prop} {q : Question} {f : Nat → Sem α} {f' : Nat → Sem β} (h : ∀ n, SRel P C Q p (f n) (f' n)) : SRel P C Q p (Go.choose q >>= f) (Go.choose q >>= f') := .choose h
theorem SRel.under (t : TypeId) : SRel P C (QEq fun d => P.underlying t = some d) p (underlying t) (underlying t) := by
  unfold underlying
  refine .prog ?_
  cases h : P.underlying t with
  | none => exact .stuck
  | some d => exact .pure' ⟨rfl, rfl⟩
theorem SRel.tinfo (t : TypeId) : SRel P C (QEq fun d => P.info? t = some d) p (typeInfo t) (typeInfo t) := by
  unfold typeInfo
  refine .prog ?_
  cases h : P.info? t with
  | none => exact .stuck
  | some d => exact .pure' ⟨rfl, rfl⟩
theorem SRel.size (t : TypeId) : SRel P C (QEq fun n => ∃ i, P.info? t = some i ∧ n = i.size) p (sizeOf t) (sizeOf t) := by
  unfold sizeOf
  exact (SRel.tinfo t).bind' fun q a b _ h => by obtain ⟨rfl, h⟩ := h; exact .pure' ⟨rfl, _, h, rfl⟩

/-- The zero value of the type names no block. -/
def zeroOk (P : Program) (t : TypeId) : Bool :=
  match P.info? t with
  | some i => (match i.zero with | some v => constOk v | none => true) && i.size != 0
  | none => true
theorem zeroOk_size {t : TypeId} {P : Program} {i : TypeInfo} (h : zeroOk P t = true) (hi : P.info? t = some i) : i.size ≠ 0 := by
  simp only [zeroOk, hi, Bool.and_eq_true] at h
  simpa using h.2
theorem constOk_cells {v : Value} (h : constOk v = true) : v.cells ≠ #[] := by
  cases v <;> first | (cases h; done) | (intro e; cases e)
theorem SRel.zero {t : TypeId} (h : zeroOk P t = true) : SRel P C (fun q v v' => VRel C q v v' ∧ v.cells ≠ #[]) p (zeroValue t) (zeroValue t) := by
  unfold zeroValue
  refine (SRel.tinfo t).bind' fun q a b _ hq => ?_
  obtain ⟨rfl, hi⟩ := hq
  simp only [zeroOk, hi, Bool.and_eq_true] at h
  replace h := h.1
  cases hz : a.zero with
  | none => exact SRel.dies (Dies.halt rfl)
  | some v => rw [hz] at h; exact .pure' ⟨constOk_rel h, constOk_cells h⟩
/-- The zero value of a struct names no block. -/
def buildOk (P : Program) (t : TypeId) : Bool :=
  (match P.info? t with
  | some i => (match i.zero with | some (.agg cs) => cs.all constOk | some v => constOk v | none => true)
  | none => true) && (match P.underlying t with | some (.struct _) => true | _ => false)
theorem SRel.zeroA {t : TypeId} (h : buildOk P t = true) : SRel P C (QV C) p (zeroValue t) (zeroValue t) := by
  unfold zeroValue
  refine (SRel.tinfo t).bind' fun q a b _ hq => ?_
  obtain ⟨rfl, hi⟩ := hq
  simp only [buildOk, hi, Bool.and_eq_true] at h
  replace h := h.1
  cases hz : a.zero with
  | none => exact SRel.dies (Dies.halt rfl)
  | some v =>
    rw [hz] at h
    have one : constOk v = true → SRel P C (QV C) q (Pure.pure v) (Pure.pure v) := fun h => .pure' (constOk_rel h)
    cases v with
    | agg cs => exact .pure' (.agg rfl fun i x x' h1 h2 => by
        rw [h1] at h2; cases h2
        exact constOk_rel (Array.all_eq_true_iff_forall_mem.1 h x (Array.mem_of_getElem? h1)))
    | _ => exact one h
theorem ASame.cells {v v' : Value} (h : VRel C p v v') : ASame C p v.cells v'.cells := by
  have key : ∀ {x : Value}, oneC x = true → x.cells = #[x] := fun {x} h => by cases x <;> first | rfl | cases h
  have h0 := h
  cases h with
  | agg h1 h2 => exact ⟨h1, h2⟩
  | junk h => rw [key (oneC_of_hidable h), show junkV.cells = #[junkV] from rfl]; exact .one h0
  | _ => exact .one h0

theorem SRel.newRow {e : TypeId} {c c' : Array Value} (h : ASame C p c c') : SRel P C (fun q a a' => ARel C q a a') p (newRow e c) (newRow e c') := by
  unfold Go.newRow newObj
  refine .new (.cells h (fun i a b => by omega)) fun q r r' hq hr hg => .pure ⟨hr, by simp [hg.2], rfl, hg.1⟩
theorem SRel.newVar {e : TypeId} {v v' : Value} (h : VRel C p v v') : SRel P C (fun q a a' => ARel C q a a') p (newVar e v) (newVar e v') := SRel.newRow (.cells h)

theorem SRel.alloc {t : TypeId} (h : zeroOk P t = true) : SRel P C (QV C) p (Instr.alloc t true (.tuple #[])) (Instr.alloc t true (.tuple #[])) := by
  unfold Instr.alloc
  refine (SRel.zero h).bind' fun q v v' _ hv => ?_
  exact (SRel.newVar hv.1).bind' fun q a a' _ ha => .pure' (.ptr ha)
theorem SRel.box {t : TypeId} {v v' : Value} (h : VRel C p v v') : SRel P C (QV C) p (Instr.box t v) (Instr.box t v') := by
  unfold Instr.box
  exact (SRel.newVar h).bind' fun q a a' _ ha => .pure' (.ptr ha)

/-- A type whose values are not rows. -/
def flatT (P : Program) (t : TypeId) : Bool :=
  match P.underlying t with
  | some (.struct _) | some (.array _ _) => false
  | _ => true
theorem SRel.agg {t : TypeId} (h : flatT P t = true) : SRel P C (QEq fun b => b = false) p (isAgg t) (isAgg t) := by
  unfold isAgg
  refine (SRel.under t).bind' fun q a b _ hq => ?_
  obtain ⟨rfl, hi⟩ := hq
  simp only [flatT, hi] at h
  cases a <;> first | (cases h; done) | exact .pure' ⟨rfl, rfl⟩

theorem SRel.load1 {a a' : Addr} (h : ARel C p a a') : SRel P C (QV C) p (Go.load a) (Go.load a') := .load h fun _ _ hv => .pure hv
theorem SRel.sure {v v' : Value} (h : VRel C p v v') : SRel P C (fun q a a' => ARel C q a a') p (Instr.sureAddr v) (Instr.sureAddr v') := by
  cases h with
  | ptr h => exact .pure' h
  | _ => exact .stuck
theorem SRel.loadAt {t : TypeId} {v v' : Value} (ht : flatT P t = true) (h : VRel C p v v') : SRel P C (QV C) p (Instr.loadAt t v) (Instr.loadAt t v') := by
  unfold Instr.loadAt
  refine (SRel.sure h).bind' fun q a a' _ ha => ?_
  unfold loadVar
  refine (SRel.agg ht).bind' fun q' b b' hq hb => ?_
  obtain ⟨rfl, rfl⟩ := hb
  exact SRel.load1 (ha.mono hq)
theorem SRel.storeCells : ∀ {vs vs' : List Value} {a a' : Addr} {p : Ren} (i : Nat), ARel C p a a' → ASame C p vs.toArray vs'.toArray → SRel P C (fun _ _ _ => True) p (storeCells a vs i) (storeCells a' vs' i)
  | [], [], _, _, _, _, _, _ => .pure' trivial
  | [], _ :: _, _, _, _, _, _, h => by have := h.size; simp at this
  | _ :: _, [], _, _, _, _, _, h => by have := h.size; simp at this
  | v :: vs, v' :: vs', a, a', p, i, ha, h => by
    unfold Go.storeCells
    refine .store (ha.add i) (h.at_ 0 v v' (by simp) (by simp)) ?_
    refine SRel.storeCells (i + 1) ha ⟨by have := h.size; simpa using this, fun j x x' hx hx' => h.at_ (j + 1) x x' (by simpa using hx) (by simpa using hx')⟩
theorem SRel.storeCellsA {c c' : Array Value} {a a' : Addr} (i : Nat) (ha : ARel C p a a') (h : ASame C p c c') : SRel P C (fun _ _ _ => True) p (Go.storeCells a c.toList i) (Go.storeCells a' c'.toList i) :=
  SRel.storeCells i ha (by simpa using h)
theorem SRel.storeAt {t : TypeId} {v v' x x' : Value} (h : VRel C p v v') (hx : VRel C p x x') : SRel P C (fun _ _ _ => True) p (Instr.storeAt t v x) (Instr.storeAt t v' x') := by
  unfold Instr.storeAt
  refine (SRel.sure h).bind' fun q a a' hq ha => ?_
  unfold storeVar
  refine (SRel.size t).bind' fun q' n n' hq' hn => ?_
  obtain ⟨rfl, _⟩ := hn
  have hx' := ASame.cells ((hx.mono hq).mono hq')
  rw [← hx'.size]
  split
  · exact .stuckB
  · exact SRel.storeCellsA 0 (ha.mono hq') hx'
theorem SRel.loadCells {a a' : Addr} : ∀ {p : Ren} (n i : Nat) (acc acc' : Array Value), ARel C p a a' → ASame C p acc acc' → SRel P C (QA C) p (loadCellsFrom a i n acc) (loadCellsFrom a' i n acc')
  | _, 0, _, _, _, _, h => .pure' h
  | p, n + 1, i, acc, acc', ha, h => by
    unfold loadCellsFrom
    exact .load (ha.add i) fun v v' hv => SRel.loadCells n (i + 1) _ _ ha (h.push hv)

theorem SRel.loadCellsN {a a' : Addr} : ∀ {p : Ren} (n i : Nat) (acc acc' : Array Value), ARel C p a a' → ASame C p acc acc' → SRel P C (fun q c c' => ASame C q c c' ∧ c.size = acc.size + n) p (loadCellsFrom a i n acc) (loadCellsFrom a' i n acc')
  | _, 0, _, _, _, _, h => .pure' ⟨h, rfl⟩
  | p, n + 1, i, acc, acc', ha, h => by
    unfold loadCellsFrom
    exact .load (ha.add i) fun v v' hv => (SRel.loadCellsN n (i + 1) _ _ ha (h.push hv)).mono fun q c c' _ h => ⟨h.1, by rw [h.2]; simp; omega⟩
theorem add_block' (a : Addr) (n : Nat) : (a.add n).block = a.block := by unfold Addr.add; split <;> rfl
/-- Cells of where the view holds nothing: none can be loaded. -/
theorem SRel.loadCellsD {a a' : Addr} (hd : C.dead a.block) (n i : Nat) (acc acc' : Array Value) (h : ASame C p acc acc') : SRel P C (fun q c c' => ASame C q c c' ∧ c.size = acc.size + n) p (loadCellsFrom a i n acc) (loadCellsFrom a' i n acc') := by
  cases n with
  | zero => exact .pure' ⟨h, rfl⟩
  | succ n => unfold loadCellsFrom; exact .deadL (by rw [add_block']; exact hd)

theorem SRel.asInt {v v' : Value} (h : VRel C p v v') : SRel P C (QEq fun _ => True) p (asIntOf v) (asIntOf v') := by
  cases h with
  | int k n => exact .pure' ⟨rfl, trivial⟩
  | ptr _ => exact .unsup rfl
  | _ => exact .stuck
theorem SRel.asInt1 {v v' : Value} (h : VRel C p v v') : SRel P C (QEq fun _ => True) p (Go.asInt v) (Go.asInt v') := by
  unfold Go.asInt
  exact (SRel.asInt h).bind' fun q a b _ e => by obtain ⟨rfl, _⟩ := e; exact .pure' ⟨rfl, trivial⟩
theorem SRel.asBool {v v' : Value} (h : VRel C p v v') : SRel P C (QEq fun _ => True) p (Go.asBool v) (Go.asBool v') := by
  cases h with
  | bool b => exact .pure' ⟨rfl, trivial⟩
  | _ => exact .stuck

theorem bounds_dies {α : Type} (k : IntKind) (x y : Int) (c : BoundsCode) : Dies P (boundsPanic k x y c : Sem α) := by
  intro w
  unfold boundsPanic
  split
  · refine Dies.of_bind (P := P) (α := Bool) _ _ (fun w => ?_) (fun a => rtp_dies _) w
    simp only [Functor.map, Go.choose, Sem.bind, Sem.run]
    exact .inl ⟨_, _, rfl⟩
  · exact rtp_dies (P := P) (.bounds _ _ _ _) w
theorem SRel.bounds {α β : Type} {Q : Ren → α → β → Prop} {k : IntKind} {x y : Int} {c : BoundsCode} {s : Sem β} : SRel P C Q p (boundsPanic k x y c : Sem α) s := .dies (bounds_dies k x y c)

/-- What 'indexAt' does once it has the row. -/
theorem SRel.indexEnd {t : TypeId} {k : IntKind} {n : Int} {len : Nat} {elem : TypeId} {base base' : Option Addr} (hs : ∀ y, base = some y → ∃ y', base' = some y' ∧ (len = 0 ∨ ARel C p y y')) (hn : base = none → base' = none) :
    SRel P C (QV C) p (underlying t >>= fun d => match (generalizing := false) base with
      | some a => if 0 ≤ n ∧ n < (len : Int) then sizeOf elem >>= fun z => Pure.pure (Value.pointer (some (a.add (n.toNat * z))))
        else if (decide (len ≤ 1) && match d with | TypeDesc.array _ _ => true | _ => false) = true then unsupported (.noEntry "op/indexAddr.an index out of range at an array of length 0 or 1 (ledger 616)") else boundsPanic k n (len : Int) .index
      | none => boundsPanic k n 0 .index)
      (underlying t >>= fun d => match (generalizing := false) base' with
      | some a => if 0 ≤ n ∧ n < (len : Int) then sizeOf elem >>= fun z => Pure.pure (Value.pointer (some (a.add (n.toNat * z))))
        else if (decide (len ≤ 1) && match d with | TypeDesc.array _ _ => true | _ => false) = true then unsupported (.noEntry "op/indexAddr.an index out of range at an array of length 0 or 1 (ledger 616)") else boundsPanic k n (len : Int) .index
      | none => boundsPanic k n 0 .index) := by
  refine (SRel.under t).bind' fun q d d' hq e => ?_
  obtain ⟨rfl, _⟩ := e
  cases base with
  | none => rw [hn rfl]; exact .bounds
  | some a =>
    obtain ⟨a', rfl, ha⟩ := hs a rfl
    simp only
    split
    · rename_i hin
      rcases ha with rfl | ha
      · omega
      exact (SRel.size elem).bind' fun q3 n1 n2 hq3 e => by
        obtain ⟨rfl, _⟩ := e
        exact .pure' (.ptr (((ha.mono hq).mono hq3).add _))
    · exact .ite (fun _ => .dies (Dies.halt rfl)) (fun _ => .bounds)
theorem SRel.indexAt {t : TypeId} {x x' i i' : Value} (hx : VRel C p x x') (hi : VRel C p i i') : SRel P C (QV C) p (Instr.indexAt t x i) (Instr.indexAt t x' i') := by
  unfold Instr.indexAt
  refine (SRel.asInt hi).bind' fun q a b hq e => ?_
  obtain ⟨rfl, _⟩ := e
  obtain ⟨k, n⟩ := a
  have hx := hx.mono hq
  clear hi hq
  simp only
  refine (SRel.under t).bind' fun q' d d' hq' e => ?_
  obtain ⟨rfl, _⟩ := e
  have hx := hx.mono hq'
  cases d with
  | array len elem =>
    refine (SRel.sure hx).bind' fun q'' a a' _ ha => ?_
    exact SRel.indexEnd (base := some a) (base' := some a') (fun y e => by cases e; exact ⟨_, rfl, .inr ha⟩) (fun e => by cases e)
  | slice elem =>
    cases hx with
    | slice0 => exact SRel.indexEnd (len := 0) (elem := elem) (base := none) (base' := none) (fun y e => by cases e) (fun _ => rfl)
    | @slice a a' l c ha => exact SRel.indexEnd (base := some a) (base' := some a') (fun y e => by cases e; exact ⟨_, rfl, .inr ha⟩) (fun e => by cases e)
    | @sliceE a a' c ha => exact SRel.indexEnd (base := some a) (base' := some a') (fun y e => by cases e; exact ⟨_, rfl, .inl rfl⟩) (fun e => by cases e)
    | _ => exact .stuckB
  | _ => exact .stuckB

/-- A field that takes place. -/
def fieldOk (P : Program) (s : TypeId) (f : Nat) : Bool :=
  match P.underlying s with
  | some (.struct fields) => (match fields[f]? with | some fl => (match P.info? fl.type with | some i => i.size != 0 | none => true) | none => true)
  | _ => true
theorem SRel.fieldAt {t : TypeId} {f : Nat} {x x' : Value} (hf : fieldOk P t f = true) (hx : VRel C p x x') : SRel P C (QV C) p (Instr.fieldAt t x f) (Instr.fieldAt t x' f) := by
  unfold Instr.fieldAt
  refine (SRel.under t).bind' fun q d d' hq e => ?_
  obtain ⟨rfl, hd⟩ := e
  have hx := hx.mono hq
  cases d with
  | struct fields =>
    dsimp only
    cases hfl : fields[f]? with
    | none => exact .stuck
    | some fl =>
      dsimp only
      refine (SRel.sure hx).bind' fun q1 a a' _ ha => ?_
      unfold fieldPlace
      refine SRel.bind' (Q := fun q a a' => ARel C q a a') ?_ fun q5 b b' _ hb => .pure' (.ptr hb)
      refine (SRel.size fl.type).bind' fun q2 z z' hq2 e => ?_
      obtain ⟨rfl, i, hi, rfl⟩ := e
      have hz : i.size ≠ 0 := by
        simp only [fieldOk, hd, hfl, hi, bne_iff_ne] at hf
        exact hf
      rw [if_neg hz, if_neg hz]
      exact .pure' ((ha.mono hq2).add _)
  | _ => exact .stuck
/-- No array. -/
def narrT (P : Program) (t : TypeId) : Bool := match P.underlying t with | some (.array _ _) => false | _ => true
theorem SRel.index {t : TypeId} {x x' i i' : Value} (ht : narrT P t = true) (hx : VRel C p x x') (hi : VRel C p i i') : SRel P C (QV C) p (Instr.index t x i) (Instr.index t x' i') := by
  unfold Instr.index
  refine (SRel.asInt hi).bind' fun q a b hq e => ?_
  obtain ⟨rfl, _⟩ := e
  obtain ⟨k, n⟩ := a
  have hx := hx.mono hq
  simp only
  refine (SRel.under t).bind' fun q' d d' hq' e => ?_
  obtain ⟨rfl, hd⟩ := e
  cases hx with
  | agg _ _ =>
    cases d with
    | array => simp only [narrT, hd] at ht; cases ht
    | _ => exact .stuck
  | string s =>
    cases d with
    | string =>
      dsimp only
      split
      · exact .pure' (.int _ _)
      · exact .bounds
    | _ => exact .stuck
  | _ => cases d <;> exact .stuck

theorem SRel.sliceBound {v v' : Value} {y : Nat} {c : BoundsCode} (h : VRel C p v v') : SRel P C (QEq fun _ => True) p (Instr.sliceBound v y c) (Instr.sliceBound v' y c) := by
  unfold Instr.sliceBound
  refine (SRel.asInt h).bind' fun q a b _ e => ?_
  obtain ⟨rfl, _⟩ := e
  obtain ⟨k, n⟩ := a
  simp only
  split
  · exact .pure' ⟨rfl, trivial⟩
  · exact .bounds
end
end Go.Proofs.Ytfecdmenliohhaa

set_option linter.unusedSimpArgs false
set_option linter.unusedVariables false
namespace Go.Proofs.Ytfecdmenliohhaa
open Go

section
variable {P : Program} {C : Cx} {p : Ren}

theorem SRel.refl2 {α : Type} {s : Sem α} {a : α} (h : SRel P C (QEq fun _ => True) p s s) : SRel P C (QEq fun _ => True) p s s := h

theorem SRel.len {ats : Array TypeId} {ty : TypeId} {x x' : Array Value} (h : ASame C p x x') : SRel P C (QV C) p (Builtin.len_ ats ty x) (Builtin.len_ ats ty x') := by
  unfold Builtin.len_
  cases hx : x[0]? with
  | none =>
    rw [h.get_none hx]
    cases ats[0]? <;> exact .stuck
  | some v =>
    obtain ⟨v', hx', hv⟩ := h.get hx
    rw [hx']
    cases ats[0]? with
    | none => exact .stuck
    | some t =>
      refine (SRel.under t).bind' fun q d d' hq e => ?_
      obtain ⟨rfl, _⟩ := e
      have hv := hv.mono hq
      cases d with
      | string => cases hv <;> first | exact .stuck | exact .pure' (.int _ _)
      | array n e => exact .pure' (.int _ _)
      | pointer arr =>
        refine (SRel.under arr).bind' fun q' d d' hq' e => ?_
        obtain ⟨rfl, _⟩ := e
        cases d <;> first | exact .stuck | exact .pure' (.int _ _)
      | slice e => cases hv <;> first | exact .stuck | exact .pure' (.int _ _)
      | _ => cases hv <;> exact .stuck

/-- How long it is. -/
def lenIs (v : Value) (n : Nat) : Prop := match v with
  | .slice _ l _ => n = l
  | .string s => n = s.size
  | _ => True
theorem SRel.lenOf {v v' : Value} (h : VRel C p v v') : SRel P C (QEq fun n => lenIs v n) p (Builtin.lenOf v) (Builtin.lenOf v') := by
  cases h <;> first | exact .stuck | exact .pure' ⟨rfl, rfl⟩

theorem ASame.bytes (l : List UInt8) : ASame C p ((l.toArray).map fun b => Value.int .u8 (b.toNat : Int)) ((l.toArray).map fun b => Value.int .u8 (b.toNat : Int)) := by
  refine ⟨rfl, fun i v v' h h' => ?_⟩
  rw [h] at h'; cases h'
  simp only [Array.getElem?_map] at h
  obtain ⟨x, _, rfl⟩ := Option.map_eq_some_iff.1 h
  exact .int _ _
theorem ASame.bytesA (l : Array UInt8) : ASame C p (l.map fun b => Value.int .u8 (b.toNat : Int)) (l.map fun b => Value.int .u8 (b.toNat : Int)) := by
  have := ASame.bytes (C := C) (p := p) l.toList
  simpa using this

theorem SRel.firstCellsN {z n : Nat} {v v' : Value} (h : VRel C p v v') : SRel P C (fun q c c' => ASame C q c c' ∧ (lenIs v n → z ≠ 0 → c.size = 0 → n = 0)) p (Builtin.firstCells z n v) (Builtin.firstCells z n v') := by
  cases h with
  | slice0 => exact .pure' ⟨.empty, fun h _ _ => h⟩
  | slice l c ha => exact (SRel.loadCellsN _ _ _ _ ha .empty).mono fun q c c' _ h => ⟨h.1, fun hl hz h0 => by
      have := h.2
      rw [h0] at this
      simp at this
      exact (Nat.mul_eq_zero.1 this.symm).resolve_right hz⟩
  | sliceE c ha => exact (SRel.loadCellsD ha _ _ _ _ .empty).mono fun q c c' _ h => ⟨h.1, fun hl _ _ => hl⟩
  | string s => exact .pure' ⟨.bytesA _, fun hl _ h0 => by
      simp only [lenIs] at hl
      subst hl
      simpa using h0⟩
  | _ => exact .stuck
theorem SRel.firstCells {z n : Nat} {v v' : Value} (h : VRel C p v v') : SRel P C (QA C) p (Builtin.firstCells z n v) (Builtin.firstCells z n v') :=
  (SRel.firstCellsN h).mono fun _ _ _ _ h => h.1
/-- Cells to where the view holds nothing. -/
theorem SRel.storeCellsD {a : Addr} {α β : Type} {Q : Ren → α → β → Prop} (hd : C.dead a.block) (l : List Value) {f : Unit → Sem α} {s' : Sem β} (h : l = [] → SRel P C Q p (f ()) s') : SRel P C Q p (Go.storeCells a l >>= f) s' := by
  cases l with
  | nil => exact h rfl
  | cons v l =>
    have e : (Go.storeCells a (v :: l) >>= f) = Sem.store .plain (a.add 0) v ((Go.storeCells a l (0 + 1)).bind f) := rfl
    rw [e]
    exact .deadS (by rw [add_block']; exact hd)

theorem ASame.rep {c c' : Array Value} (h : ASame C p c c') (n : Nat) : ASame C p ((Array.range n).map fun i => c[i % c.size]!) ((Array.range n).map fun i => c'[i % c'.size]!) ∨ c.size = 0 := by
  by_cases h0 : c.size = 0
  · exact .inr h0
  refine .inl ⟨by simp, fun i v v' hv hv' => ?_⟩
  simp only [Array.getElem?_map] at hv hv'
  obtain ⟨x, hx, rfl⟩ := Option.map_eq_some_iff.1 hv
  obtain ⟨y, hy, rfl⟩ := Option.map_eq_some_iff.1 hv'
  rw [hx] at hy; cases hy
  have hlt : x % c.size < c.size := Nat.mod_lt _ (by omega)
  have hlt' : x % c'.size < c'.size := by rw [← h.size]; exact hlt
  have e : c[x % c.size]! = c[x % c.size] := by simp [getElem!_pos, hlt]
  have e' : c'[x % c'.size]! = c'[x % c'.size] := by simp [getElem!_pos, hlt']
  rw [e, e']
  exact h.at_ (x % c.size) _ _ (Array.getElem?_eq_getElem hlt) (by
    have : x % c.size = x % c'.size := by rw [h.size]
    simp only [this]; exact Array.getElem?_eq_getElem hlt')
theorem ASame.zeros {v v' : Value} (h : VRel C p v v') (h0 : v.cells ≠ #[]) (n : Nat) : ASame C p (Builtin.zeroCells v.cells n) (Builtin.zeroCells v'.cells n) := by
  unfold Builtin.zeroCells
  have hc := ASame.cells h
  have e : n * v'.cells.size = n * v.cells.size := by rw [hc.size]
  rw [e]
  rcases hc.rep (n * v.cells.size) with h1 | h1
  · exact h1
  · exact absurd (Array.eq_empty_of_size_eq_zero h1) h0

theorem SRel.room' {α β : Type} {Q : Ren → α → β → Prop} {n : Nat} {f : Unit → Sem α} {f' : Unit → Sem β} (h : SRel P C Q p (f ()) (f' ())) : SRel P C Q p (askRoom n >>= f) (askRoom n >>= f') := by
  unfold askRoom
  split
  · exact .room h
  · exact h

/-- A run that comes to a value and leaves the world. -/
def CalmS {α : Type} (P : Program) (s : Sem α) : Prop := ∀ w, ∃ a, s.run P w = .ok a w
theorem CalmS.pure {α : Type} (a : α) : CalmS P (Pure.pure a : Sem α) := fun w => ⟨a, rfl⟩
theorem CalmS.bind {α β : Type} {s : Sem α} {f : α → Sem β} (h : CalmS P s) (k : ∀ a, CalmS P (f a)) : CalmS P (s >>= f) := fun w => by
  obtain ⟨a, e⟩ := h w
  obtain ⟨b, e'⟩ := k a w
  exact ⟨b, by rw [show s >>= f = s.bind f from rfl, run_bind, e]; exact e'⟩
theorem CalmS.shape (r : Nat) : CalmS P (Go.shape r) := fun w => ⟨_, rfl⟩
theorem CalmS.frozen (a : Addr) : CalmS P (Go.frozen a) := fun w => ⟨_, rfl⟩
theorem CalmS.holds (a : Addr) (c : Nat) : CalmS P (Builtin.holdsCells a c) := by
  unfold Builtin.holdsCells
  refine (CalmS.shape _).bind fun s => ?_
  cases s <;> exact .pure _
theorem CalmS.share (size sLen n : Nat) (b : Option Addr) (x : Value) : CalmS P (Builtin.mayShare size sLen n b x) := by
  have jp : ∀ t : Bool, CalmS P (if (!t) = true then Pure.pure true else match x with
      | .slice (some c) _ _ => Builtin.holdsCells c (n * size) >>= fun z => Pure.pure (!z || Option.any (fun x => x.block == c.block) b)
      | _ => Pure.pure false) := by
    intro t
    split
    · exact .pure _
    · split
      · exact (CalmS.holds _ _).bind fun _ => .pure _
      · exact .pure _
  unfold Builtin.mayShare
  cases b with
  | none => exact jp true
  | some a =>
    refine (CalmS.holds _ _).bind fun z => ?_
    refine (CalmS.frozen _).bind fun y => ?_
    exact jp _
theorem Dies.calm {α β : Type} {s : Sem α} {f : α → Sem β} (h : CalmS P s) (k : ∀ a, Dies P (f a)) : Dies P (s >>= f) :=
  Dies.of_bind s f (fun w => let ⟨a, e⟩ := h w; .inl ⟨a, w, e⟩) k
theorem Dies.mark {α : Type} {m : Mark} {s : Sem α} (h : Dies P s) : Dies P (Go.mark m >>= fun _ => s) := fun w => h w

/-- What 'append' does once it knows that its second operand is no length. -/
def appTail (elem : TypeId) (size sLen sCap : Nat) (base : Option Addr) (s y : Value) : Sem Value :=
  Builtin.lenOf y >>= fun n =>
  if sLen + n ≤ sCap then
    Builtin.firstCells size n y >>= fun new => match base with
      | some a => storeCells (a.add (sLen * size)) new.toList >>= fun _ => Pure.pure (.slice base (sLen + n) sCap)
      | _ => Pure.pure (.slice base (sLen + n) sCap)
  else
    typeInfo elem >>= fun i =>
    if ((sLen + n : Nat) : Int) > IntKind.i64.max ∧ (false = true ∨ i.bytes = 0) then (runtimePanic (.error "growslice: len out of range") : Sem PUnit) >>= fun _ => rest n else rest n
where
  rest (n : Nat) : Sem Value :=
    typeInfo elem >>= fun i =>
    if Builtin.nextslicecap (sLen + n) sCap * i.bytes > 2 ^ 48 then
      ((Builtin.mayShare size sLen n base y >>= fun z => if (!z) = true then (mark .noRoom >>= fun _ => unsupported (.resourceLimit "append: a slice or a string whose bytes no memory bears")) else unsupported (.resourceLimit "append: a slice or a string whose bytes no memory bears")) : Sem PUnit) >>= fun _ => last n
    else last n
  last (n : Nat) : Sem Value :=
    Go.choose (.appendCap (sLen + n) sCap elem) >>= fun newCap =>
    typeInfo elem >>= fun i =>
    askRoom (newCap * i.bytes) >>= fun _ =>
    Builtin.firstCells size sLen s >>= fun old =>
    Builtin.firstCells size n y >>= fun new =>
    zeroValue elem >>= fun z =>
    newRow elem (old ++ new ++ Builtin.zeroCells z.cells (newCap - (sLen + n))) >>= fun a =>
    Pure.pure (.slice (some a) (sLen + n) newCap)

theorem SRel.appRest {elem : TypeId} {size sLen sCap : Nat} {base base' : Option Addr} {s s' y y' : Value} (hz : zeroOk P elem = true) (hs : VRel C p s s') (hy : VRel C p y y')
    (h1 : ∀ a, base = some a → ∃ a', base' = some a' ∧ (ARel C p a a' ∨ (C.dead a.block ∧ sLen = 0))) (h2 : base = none → base' = none ∧ sLen = 0 ∧ sCap = 0) (hsz : size ≠ 0) :
    SRel P C (QV C) p (appTail elem size sLen sCap base s y) (appTail elem size sLen sCap base' s' y') := by
  unfold Go.Proofs.Ytfecdmenliohhaa.appTail
  refine (SRel.lenOf hy).bind' fun q n n' hq e => ?_
  obtain ⟨rfl, hlen⟩ := e
  have last : ∀ q', RLe p q' → SRel P C (QV C) q' (appTail.last elem size sLen sCap s y n) (appTail.last elem size sLen sCap s' y' n) := by
    intro q' hq'
    unfold appTail.last
    refine .chooseB fun newCap => ?_
    refine (SRel.tinfo elem).bind' fun q1 i i' hq1 e => ?_
    obtain ⟨rfl, _⟩ := e
    refine .room' ?_
    refine (SRel.firstCells ((hs.mono hq').mono hq1)).bind' fun q2 o o' hq2 ho => ?_
    refine (SRel.firstCells (((hy.mono hq').mono hq1).mono hq2)).bind' fun q3 m m' hq3 hm => ?_
    refine (SRel.zero hz).bind' fun q4 z z' hq4 hzz => ?_
    refine (SRel.newRow (((ho.mono (hq3.trans hq4)).append (hm.mono hq4)).append (.zeros hzz.1 hzz.2 _))).bind' fun q5 a a' _ ha => ?_
    exact .pure' (.slice _ _ ha)
  refine .ite (fun hfit => ?_) (fun _ => ?_)
  · refine (SRel.firstCellsN (hy.mono hq)).bind' fun q1 c c' hq1 hc => ?_
    obtain ⟨hc, hcn⟩ := hc
    cases base with
    | none =>
      obtain ⟨rfl, rfl, rfl⟩ := h2 rfl
      obtain rfl : n = 0 := by omega
      exact .pure' .slice0
    | some a =>
      obtain ⟨a', rfl, ha⟩ := h1 a rfl
      rcases ha with ha | ⟨hdead, rfl⟩
      rotate_left
      · refine SRel.storeCellsD (by rw [add_block']; exact hdead) _ fun hnil => ?_
        have hc0 : c.size = 0 := by rw [← Array.length_toList, hnil]; rfl
        have hn0 : n = 0 := hcn hlen hsz hc0
        subst hn0
        have hc0' : c'.toList = [] := by
          have := hc.size
          rw [hc0] at this
          exact List.length_eq_zero_iff.1 (by simpa using this.symm)
        show SRel P C (QV C) q1 _ (Go.storeCells (a'.add (0 * size)) c'.toList >>= fun _ => Pure.pure (Value.slice (some a') (0 + 0) sCap))
        rw [hc0']
        exact .pure' (.sliceE _ hdead)
      have ha := (ha.mono hq).mono hq1
      refine (SRel.storeCellsA 0 (ha.add _) hc).bind' fun q2 _ _ hq2 _ => ?_
      exact .pure' (.slice _ _ (ha.mono hq2))
  · refine (SRel.tinfo elem).bind' fun q1 i i' hq1 e => ?_
    obtain ⟨rfl, _⟩ := e
    have rest : SRel P C (QV C) q1 (appTail.rest elem size sLen sCap base s y n) (appTail.rest elem size sLen sCap base' s' y' n) := by
      unfold appTail.rest
      refine (SRel.tinfo elem).bind' fun q2 i i' hq2 e => ?_
      obtain ⟨rfl, _⟩ := e
      refine .ite (fun _ => .dies (Dies.bind (Dies.calm (CalmS.share _ _ _ _ _) fun z => ?_) _)) (fun _ => last _ ((hq.trans hq1).trans hq2))
      split
      · exact Dies.mark (Dies.halt rfl)
      · exact Dies.halt rfl
    exact .ite (fun _ => .rtpB) (fun _ => rest)

theorem SRel.append {ats : Array TypeId} {ty : TypeId} {x x' : Array Value} (h : ASame C p x x') (hz : ∀ t e, ats[0]? = some t → P.underlying t = some (.slice e) → zeroOk P e = true)
    (hn : ∀ t k, ats[1]? = some t → P.underlying t ≠ some (.int k)) : SRel P C (QV C) p (Builtin.append_ ats ty x) (Builtin.append_ ats ty x') := by
  unfold Builtin.append_
  cases h0 : ats[0]? with
  | none => exact .stuck
  | some sT =>
    cases hx0 : x[0]? with
    | none => rw [h.get_none hx0]; exact .stuck
    | some s =>
      obtain ⟨s', hx0', hs⟩ := h.get hx0
      rw [hx0']
      cases hx1 : x[1]? with
      | none => rw [h.get_none hx1]; exact .stuck
      | some y =>
        obtain ⟨y', hx1', hy⟩ := h.get hx1
        rw [hx1']
        simp only
        refine (SRel.under sT).bind' fun q d d' hq e => ?_
        obtain ⟨rfl, hd⟩ := e
        have hs := hs.mono hq; have hy := hy.mono hq
        cases d with
        | slice elem =>
          have hz := hz sT elem h0 hd
          have key : ∀ (base base' : Option Addr) (sLen sCap : Nat), VRel C q (.slice base sLen sCap) (.slice base' sLen sCap) → (∀ a, base = some a → ∃ a', base' = some a' ∧ (ARel C q a a' ∨ (C.dead a.block ∧ sLen = 0))) → (base = none → base' = none ∧ sLen = 0 ∧ sCap = 0) →
              ∀ q1, RLe q q1 → ∀ size, size ≠ 0 → SRel P C (QV C) q1 (appTail elem size sLen sCap base (.slice base sLen sCap) y) (appTail elem size sLen sCap base' (.slice base' sLen sCap) y') :=
            fun base base' sLen sCap hsl h1 h2 q1 hq1 size hsz => SRel.appRest hz (hsl.mono hq1) (hy.mono hq1) (fun a e => let ⟨a', e1, e2⟩ := h1 a e; ⟨a', e1, e2.imp (fun x => x.mono hq1) id⟩) h2 hsz
          cases hs with
          | slice0 =>
            have key := key none none 0 0 .slice0 (fun a e => by cases e) (fun _ => ⟨rfl, rfl, rfl⟩)
            refine (SRel.size elem).bind' fun q1 n n' hq1 e => ?_
            obtain ⟨rfl, i, hi, hni⟩ := e
            have hsz : n ≠ 0 := by rw [hni]; exact zeroOk_size hz hi
            cases h1t : ats[1]? with
            | none => exact key q1 hq1 n hsz
            | some xT =>
              refine (SRel.under xT).bind' fun q2 z z' hq2 e => ?_
              obtain ⟨rfl, hd2⟩ := e
              cases z with
              | int k => exact absurd hd2 (hn xT k h1t)
              | _ => exact key q2 (hq1.trans hq2) n hsz
          | @slice a a' l c ha =>
            have key := key (some a) (some a') l c (.slice l c ha) (fun a e => by cases e; exact ⟨_, rfl, .inl ha⟩) (fun e => by cases e)
            refine (SRel.size elem).bind' fun q1 n n' hq1 e => ?_
            obtain ⟨rfl, i, hi, hni⟩ := e
            have hsz : n ≠ 0 := by rw [hni]; exact zeroOk_size hz hi
            cases h1t : ats[1]? with
            | none => exact key q1 hq1 n hsz
            | some xT =>
              refine (SRel.under xT).bind' fun q2 z z' hq2 e => ?_
              obtain ⟨rfl, hd2⟩ := e
              cases z with
              | int k => exact absurd hd2 (hn xT k h1t)
              | _ => exact key q2 (hq1.trans hq2) n hsz
          | @sliceE a a' c ha =>
            have key := key (some a) (some a') 0 c (.sliceE c ha) (fun a e => by cases e; exact ⟨_, rfl, .inr ⟨ha, rfl⟩⟩) (fun e => by cases e)
            refine (SRel.size elem).bind' fun q1 n n' hq1 e => ?_
            obtain ⟨rfl, i, hi, hni⟩ := e
            have hsz : n ≠ 0 := by rw [hni]; exact zeroOk_size hz hi
            cases h1t : ats[1]? with
            | none => exact key q1 hq1 n hsz
            | some xT =>
              refine (SRel.under xT).bind' fun q2 z z' hq2 e => ?_
              obtain ⟨rfl, hd2⟩ := e
              cases z with
              | int k => exact absurd hd2 (hn xT k h1t)
              | _ => exact key q2 (hq1.trans hq2) n hsz
          | _ => exact .stuck
        | _ => exact .stuck
end
end Go.Proofs.Ytfecdmenliohhaa

set_option linter.unusedSimpArgs false
set_option linter.unusedVariables false
namespace Go.Proofs.Ytfecdmenliohhaa
open Go

section
variable {P : Program} {C : Cx} {p : Ren}

theorem SRel.stringGeq (x y : ByteArray) : SRel P C (QV C) p (Op.stringOp .geq x y) (Op.stringOp .geq x y) := .pure' (.bool _)
theorem SRel.stringLeq (x y : ByteArray) : SRel P C (QV C) p (Op.stringOp .leq x y) (Op.stringOp .leq x y) := .pure' (.bool _)
theorem SRel.max2 {x x' y y' : Value} (hx : VRel C p x x') (hy : VRel C p y y') : SRel P C (QV C) p (Builtin.max2 x y) (Builtin.max2 x' y') := by
  cases hx <;> cases hy <;> first
    | exact .stuck
    | exact .unsup rfl
    | exact .pure' (.int _ _)
    | (refine (SRel.stringGeq _ _).bind' fun q v v' hq hv => (SRel.asBool hv).bind' fun q2 b b' _ e => ?_
       obtain ⟨rfl, _⟩ := e
       exact .pure' (.string _))
theorem SRel.min2 {x x' y y' : Value} (hx : VRel C p x x') (hy : VRel C p y y') : SRel P C (QV C) p (Builtin.min2 x y) (Builtin.min2 x' y') := by
  cases hx <;> cases hy <;> first
    | exact .stuck
    | exact .unsup rfl
    | exact .pure' (.int _ _)
    | (refine (SRel.stringLeq _ _).bind' fun q v v' hq hv => (SRel.asBool hv).bind' fun q2 b b' _ e => ?_
       obtain ⟨rfl, _⟩ := e
       exact .pure' (.string _))
theorem SRel.foldlM {f : Value → Value → Sem Value} (hf : ∀ (p : Ren) x x' y y', VRel C p x x' → VRel C p y y' → SRel P C (QV C) p (f x y) (f x' y')) :
    ∀ (l l' : List Value) (x x' : Value) (p : Ren), VRel C p x x' → ASame C p l.toArray l'.toArray → SRel P C (QV C) p (l.foldlM f x) (l'.foldlM f x')
  | [], [], _, _, _, hx, _ => .pure' hx
  | [], _ :: _, _, _, _, _, h => by have := h.size; simp at this
  | _ :: _, [], _, _, _, _, h => by have := h.size; simp at this
  | y :: l, y' :: l', x, x', p, hx, h => by
    refine (hf p x x' y y' hx (h.at_ 0 y y' (by simp) (by simp))).bind' fun q v v' hq hv => ?_
    exact SRel.foldlM hf l l' v v' q hv ⟨by have := h.size; simpa using this, fun j a a' ha ha' => (h.at_ (j + 1) a a' (by simpa using ha) (by simpa using ha')).mono hq⟩
theorem SRel.maxB {ats : Array TypeId} {ty : TypeId} {x x' : Array Value} (h : ASame C p x x') : SRel P C (QV C) p (Builtin.max_ ats ty x) (Builtin.max_ ats ty x') := by
  unfold Builtin.max_
  obtain ⟨l⟩ := x; obtain ⟨l'⟩ := x'
  cases l with
  | nil => exact .stuck
  | cons a l =>
    cases l' with
    | nil => have := h.size; simp at this
    | cons a' l' => exact SRel.foldlM (fun p _ _ _ _ => SRel.max2) l l' a a' p (h.at_ 0 a a' (by simp) (by simp)) ⟨by have := h.size; simpa using this, fun j b b' hb hb' => h.at_ (j + 1) b b' (by simpa using hb) (by simpa using hb')⟩
theorem SRel.minB {ats : Array TypeId} {ty : TypeId} {x x' : Array Value} (h : ASame C p x x') : SRel P C (QV C) p (Builtin.min_ ats ty x) (Builtin.min_ ats ty x') := by
  unfold Builtin.min_
  obtain ⟨l⟩ := x; obtain ⟨l'⟩ := x'
  cases l with
  | nil => exact .stuck
  | cons a l =>
    cases l' with
    | nil => have := h.size; simp at this
    | cons a' l' => exact SRel.foldlM (fun p _ _ _ _ => SRel.min2) l l' a a' p (h.at_ 0 a a' (by simp) (by simp)) ⟨by have := h.size; simpa using this, fun j b b' hb hb' => h.at_ (j + 1) b b' (by simpa using hb) (by simpa using hb')⟩

theorem SRel.unNot {x x' : Value} (hx : VRel C p x x') : SRel P C (QV C) p (Op.unary .not x) (Op.unary .not x') := by
  cases hx <;> first | exact .stuck | exact .pure' (.bool _)

/-- A type of integers. -/
def intT (P : Program) (t : TypeId) : Bool := match P.underlying t with | some (.int _) => true | _ => false
theorem intT_of {t : TypeId} (h : intT P t = true) : ∃ k, P.underlying t = some (.int k) := by
  unfold intT at h
  split at h
  · exact ⟨_, ‹_›⟩
  · cases h

theorem SRel.conv {s d : TypeId} {x x' : Value} (hs : intT P s = true) (hd : intT P d = true) (hx : VRel C p x x') : SRel P C (QV C) p (convert s d x) (convert s d x') := by
  obtain ⟨ks, es⟩ := intT_of hs
  obtain ⟨kd, ed⟩ := intT_of hd
  unfold convert
  refine (SRel.under s).bind' fun q a a' hq e => ?_
  obtain ⟨rfl, ha⟩ := e
  rw [es] at ha; cases ha
  refine (SRel.under d).bind' fun q1 b b' hq1 e => ?_
  obtain ⟨rfl, hb⟩ := e
  rw [ed] at hb; cases hb
  cases hx <;> first | exact .unsup rfl | exact .pure' (.int _ _)

theorem SRel.extract {x x' : Value} (hx : VRel C p x x') (i : Nat) : SRel P C (QV C) p (Instr.extract x i) (Instr.extract x' i) := by
  cases hx with
  | tuple hs ha =>
    unfold Instr.extract
    rename_i vs vs'
    have hA : ASame C p vs vs' := ⟨hs, ha⟩
    simp only
    cases hi : vs[i]? with
    | none => exact .dies (Dies.halt rfl)
    | some v => obtain ⟨v', e, hv⟩ := hA.get hi; rw [e]; exact .pure' hv
  | _ => exact .stuck

theorem SRel.makeSlice {t : TypeId} {l l' c c' : Value} (hz : ∀ e, P.underlying t = some (.slice e) → zeroOk P e = true) (hl : VRel C p l l') (hc : VRel C p c c') :
    SRel P C (QV C) p (Instr.makeSlice t l c) (Instr.makeSlice t l' c') := by
  unfold Instr.makeSlice
  refine (SRel.under t).bind' fun q d d' hq e => ?_
  obtain ⟨rfl, hd⟩ := e
  cases d with
  | slice elem =>
    have hz := hz elem hd
    refine (SRel.asInt1 (hl.mono hq)).bind' fun q1 n n' hq1 e => ?_
    obtain ⟨rfl, _⟩ := e
    refine (SRel.asInt1 ((hc.mono hq).mono hq1)).bind' fun q2 m m' hq2 e => ?_
    obtain ⟨rfl, _⟩ := e
    refine (SRel.tinfo elem).bind' fun q3 i i' hq3 e => ?_
    obtain ⟨rfl, _⟩ := e
    dsimp only
    refine .ite (fun _ => .ite (fun _ => .rtpB) (fun _ => .ite (fun _ => .rtpB) (fun _ => .chooseB fun _ => .rtpB))) (fun _ => ?_)
    refine .room' ?_
    refine (SRel.size elem).bind' fun q4 z z' hq4 e => ?_
    obtain ⟨rfl, _⟩ := e
    refine .ite (fun h0 => ?_) (fun h0 => ?_)
    · refine SRel.bind' (Q := fun q a a' => ARel C q a a') (SRel.newRow ?_) fun q5 a a' _ ha => .pure' (.slice _ _ ha)
      rw [h0]
      exact ⟨by simp, fun i v v' hv _ => by simp at hv⟩
    · refine (SRel.zero hz).bind' fun q5 v v' hq5 hv => ?_
      refine SRel.bind' (Q := fun q a a' => ARel C q a a') (SRel.newRow ?_) fun q6 a a' _ ha => .pure' (.slice _ _ ha)
      rcases (ASame.cells hv.1).rep ((IntKind.i64.wrap m).toNat * z) with h1 | h1
      · exact h1
      · exact absurd (Array.eq_empty_of_size_eq_zero h1) hv.2
  | _ => exact .stuck

theorem fold_same (off : Nat) : ∀ (y y' : List Value) (j : Nat) (c c' : Array Value), ASame C p c c' → y.length = y'.length → (∀ (i : Nat) (v v' : Value), y[i]? = some v → y'[i]? = some v' → VRel C p v v') →
    ASame C p ((y.zipIdx j).foldl (fun cs (z : Value × Nat) => cs.setIfInBounds (off + z.2) z.1) c) ((y'.zipIdx j).foldl (fun cs (z : Value × Nat) => cs.setIfInBounds (off + z.2) z.1) c')
  | [], [], _, _, _, h, _, _ => h
  | [], _ :: _, _, _, _, _, h, _ => by simp at h
  | _ :: _, [], _, _, _, _, h, _ => by simp at h
  | v :: y, v' :: y', j, c, c', h, hl, hs => by
    simp only [List.zipIdx_cons, List.foldl_cons]
    exact fold_same off y y' (j + 1) _ _ (h.set (hs 0 v v' rfl rfl) _) (by simpa using hl) fun i a a' ha ha' => hs (i + 1) a a' (by simpa using ha) (by simpa using ha')
theorem foldA_same (off : Nat) {y y' c c' : Array Value} (h : ASame C p c c') (hy : ASame C p y y') :
    ASame C p (y.zipIdx.foldl (fun cs (z : Value × Nat) => cs.setIfInBounds (off + z.2) z.1) c) (y'.zipIdx.foldl (fun cs (z : Value × Nat) => cs.setIfInBounds (off + z.2) z.1) c') := by
  rw [← Array.foldl_toList, ← Array.foldl_toList, Array.toList_zipIdx, Array.toList_zipIdx]
  obtain ⟨l⟩ := y
  obtain ⟨l'⟩ := y'
  exact fold_same off l l' 0 c c' h (by simpa using hy.size) fun i v v' h1 h2 => hy.at_ i v v' (by simpa using h1) (by simpa using h2)
/-- Laying parts into a row. -/
theorem fill_same (place : Nat → Option (Nat × Nat)) : ∀ (l l' : List (Nat × Value)) (c c' : Array Value), ASame C p c c' → l.length = l'.length → (∀ (i : Nat) (x x' : Nat × Value), l[i]? = some x → l'[i]? = some x' → x.1 = x'.1 ∧ VRel C p x.2 x'.2) →
    (Instr.fill place c l = none ∧ Instr.fill place c' l' = none) ∨ ∃ r r', Instr.fill place c l = some r ∧ Instr.fill place c' l' = some r' ∧ ASame C p r r'
  | [], [], c, c', h, _, _ => .inr ⟨c, c', rfl, rfl, h⟩
  | [], _ :: _, _, _, _, h, _ => by simp at h
  | _ :: _, [], _, _, _, h, _ => by simp at h
  | (i, v) :: l, (i', v') :: l', c, c', h, hl, hs => by
    obtain ⟨e, hv⟩ := hs 0 _ _ rfl rfl
    simp only at e hv
    subst e
    have hc := ASame.cells hv
    unfold Instr.fill
    cases place i with
    | none => exact .inl ⟨rfl, rfl⟩
    | some z =>
      obtain ⟨off, size⟩ := z
      simp only [← hc.size, ← h.size]
      by_cases hb : (v.cells.size ≠ size || decide (off + v.cells.size > c.size)) = true
      · simp only [hb, if_true]; exact .inl (by simp)
      · simp only [hb, if_false]
        refine fill_same place l l' _ _ ?_ (by simpa using hl) (fun j x x' hx hx' => hs (j + 1) x x' (by simpa using hx) (by simpa using hx'))
        exact foldA_same off h hc
theorem sem_bind_pure {α : Type} (s : Sem α) : s.bind Sem.pure = s := by
  induction s <;> first | rfl | (simp only [Sem.bind, *]; done)
theorem sem_bind_assoc {α β γ : Type} (s : Sem α) (f : α → Sem β) (g : β → Sem γ) : (s.bind f).bind g = s.bind fun x => (f x).bind g := by
  induction s <;> first | rfl | (simp only [Sem.bind, *]; done)
instance : LawfulMonad Sem := LawfulMonad.mk' Sem (fun s => sem_bind_pure s) (fun _ _ => rfl) sem_bind_assoc
theorem SRel.mapL {α β : Type} {f : α → Sem β} (hf : ∀ a q, SRel P C (QEq fun _ => True) q (f a) (f a)) : ∀ (xs : List α) (p : Ren), SRel P C (QEq fun _ => True) p (xs.mapM f) (xs.mapM f)
  | [], p => by
    rw [List.mapM_nil]
    exact .pure' ⟨rfl, trivial⟩
  | x :: xs, p => by
    rw [List.mapM_cons]
    refine (hf x p).bind' fun q a b _ e => ?_
    obtain ⟨rfl, _⟩ := e
    refine (SRel.mapL hf xs q).bind' fun q a b _ e => ?_
    obtain ⟨rfl, _⟩ := e
    exact .pure' ⟨rfl, trivial⟩
theorem SRel.mapA {α β : Type} {f : α → Sem β} (hf : ∀ a q, SRel P C (QEq fun _ => True) q (f a) (f a)) (xs : Array α) (p : Ren) : SRel P C (QEq fun _ => True) p (xs.mapM f) (xs.mapM f) := by
  rw [Array.mapM_eq_mapM_toList]
  exact (SRel.mapL hf xs.toList p).bind' fun q a b _ e => by obtain ⟨rfl, _⟩ := e; exact .pure' ⟨rfl, trivial⟩
theorem SRel.build {t : TypeId} {x x' : Array (Nat × Value)} (hz : buildOk P t = true) (hl : x.size = x'.size)
    (hs : ∀ (i : Nat) (a a' : Nat × Value), x[i]? = some a → x'[i]? = some a' → a.1 = a'.1 ∧ VRel C p a.2 a'.2) :
    SRel P C (QV C) p (Instr.build t x) (Instr.build t x') := by
  unfold Instr.build
  refine (SRel.zeroA hz).bind' fun q z z' hq hzz => ?_
  refine (SRel.under t).bind' fun q1 d d' hq1 e => ?_
  obtain ⟨rfl, hd⟩ := e
  cases d with
  | struct fields =>
    dsimp only
    refine SRel.bind' (Q := QEq fun _ => True) ?_ fun q2 pl pl' hq2 e => ?_
    · exact SRel.mapA (fun a q => (SRel.size a.type).bind' fun q' n n' _ e => by obtain ⟨rfl, _⟩ := e; exact .pure' ⟨rfl, trivial⟩) fields _
    · obtain ⟨rfl, _⟩ := e
      rcases fill_same (p := q2) (fun i => pl[i]?) x.toList x'.toList z.cells z'.cells (.cells ((hzz.mono hq1).mono hq2)) (by simpa using hl) (fun i a a' ha ha' => by
        obtain ⟨e1, e2⟩ := hs i a a' (by simpa using ha) (by simpa using ha')
        exact ⟨e1, ((e2.mono hq).mono hq1).mono hq2⟩) with ⟨e1, e2⟩ | ⟨r, r', e1, e2, h⟩
      · rw [e1, e2]; exact .stuck
      · rw [e1, e2]; exact .pure' (.agg h.size h.at_)
  | _ => simp [buildOk, hd] at hz
theorem SRel.buildSlice {t : TypeId} {len : Nat} {x x' : Array (Nat × Value)} (hz : ∀ e, P.underlying t = some (.slice e) → zeroOk P e = true) (hl : x.size = x'.size)
    (hs : ∀ (i : Nat) (a a' : Nat × Value), x[i]? = some a → x'[i]? = some a' → a.1 = a'.1 ∧ VRel C p a.2 a'.2) :
    SRel P C (QV C) p (Instr.buildSlice t len x) (Instr.buildSlice t len x') := by
  unfold Instr.buildSlice
  refine (SRel.under t).bind' fun q d d' hq e => ?_
  obtain ⟨rfl, hd⟩ := e
  cases d with
  | slice elem =>
    have hz := hz elem hd
    refine (SRel.size elem).bind' fun q1 z z' hq1 e => ?_
    obtain ⟨rfl, _⟩ := e
    dsimp only
    have last : ∀ (q2 : Ren) (c c' : Array Value), RLe q1 q2 → ASame C q2 c c' → SRel P C (QV C) q2
        (match Instr.fill (fun i => some (i * z, z)) c x.toList with
          | some cells => (Go.newRow elem cells >>= fun a => Pure.pure (Value.slice (some a) len len))
          | _ => Go.stuck "buildSlice: a part of the wrong size")
        (match Instr.fill (fun i => some (i * z, z)) c' x'.toList with
          | some cells => (Go.newRow elem cells >>= fun a => Pure.pure (Value.slice (some a) len len))
          | _ => Go.stuck "buildSlice: a part of the wrong size") := by
      intro q2 c c' hq2 hc
      rcases fill_same (fun i => some (i * z, z)) x.toList x'.toList c c' hc (by simpa using hl) (fun i a a' ha ha' => by
        obtain ⟨e1, e2⟩ := hs i a a' (by simpa using ha) (by simpa using ha')
        exact ⟨e1, ((e2.mono hq).mono hq1).mono hq2⟩) with ⟨e1, e2⟩ | ⟨r, r', e1, e2, h⟩
      · rw [e1, e2]; exact .stuck
      · rw [e1, e2]
        exact SRel.bind' (Q := fun q a a' => ARel C q a a') (SRel.newRow h) fun q5 a a' _ ha => .pure' (.slice _ _ ha)
    refine .ite (fun _ => .unsupB rfl) (fun _ => ?_)
    refine .ite (fun h0 => ?_) (fun h0 => ?_)
    · refine last q1 _ _ (.refl _) ?_
      rw [h0]
      exact ⟨by simp, fun i v v' hv _ => by simp at hv⟩
    · refine (SRel.zero hz).bind' fun q5 v v' hq5 hv => ?_
      refine last q5 _ _ hq5 ?_
      rcases (ASame.cells hv.1).rep (len * z) with h1 | h1
      · exact h1
      · exact absurd (Array.eq_empty_of_size_eq_zero h1) hv.2
  | _ => exact .stuck
end
end Go.Proofs.Ytfecdmenliohhaa

set_option linter.unusedSimpArgs false
set_option linter.unusedVariables false
namespace Go.Proofs.Ytfecdmenliohhaa
open Go

section
variable {P : Program} {C : Cx} {p : Ren}

/-! ### addresses reckoned with -/
abbrev QN (C : Cx) : Ren → Option (Addr × Bool) → Option (Addr × Bool) → Prop := fun q a b => (a = none ∧ b = none) ∨ ∃ x x' l, a = some (x, l) ∧ b = some (x', l) ∧ ARel C q x x'
theorem SRel.numberAt {r r' : Nat} (h : p r = some r') : SRel P C (QN C) p (numberAt r) (numberAt r') := by
  unfold Go.numberAt
  refine .shape h fun s s' hs => ?_
  cases hs with
  | win n x _ => exact .pure (.inl ⟨rfl, rfl⟩)
  | same s _ =>
  cases s with
  | some s => exact .pure (.inl ⟨rfl, rfl⟩)
  | none => exact .getObj h fun a a' l ha => .pure (.inr ⟨a, a', l, rfl, rfl, ha⟩)
theorem SRel.viewAt {r r' : Nat} (h : p r = some r') : SRel P C (fun _ a b => a = none ∧ b = none) p (viewAt r) (viewAt r') := by
  unfold Go.viewAt
  refine .shape h fun s s' hs => ?_
  cases hs with
  | win n x _ => exact .pure ⟨rfl, rfl⟩
  | same s _ =>
  cases s with
  | some s => exact .pure ⟨rfl, rfl⟩
  | none => exact .getObj h fun a a' l ha => .pure ⟨rfl, rfl⟩
theorem SRel.behind {a a' : Addr} (h : ARel C p a a') : SRel P C (fun q x y => x.2 = y.2 ∧ ARel C q x.1 y.1) p (behindNumber a) (behindNumber a') := by
  unfold behindNumber
  refine (SRel.numberAt h.b).bind' fun q x y hq e => ?_
  rcases e with ⟨rfl, rfl⟩ | ⟨x, x', l, rfl, rfl, hx⟩
  · exact .pure' ⟨rfl, h.mono hq⟩
  · exact .pure' ⟨rfl, hx⟩
theorem SRel.asNumber {a a' : Addr} {l : Bool} (h : ARel C p a a') : SRel P C (QV C) p (asNumber a l) (asNumber a' l) := by
  unfold Go.asNumber newObj
  exact .new (.number h) fun q r r' hq hr hg => .pure (.ptr ⟨hr, by simp [hg.2], rfl, hg.1⟩)
theorem SRel.noView {a a' : Addr} (h : ARel C p a a') : SRel P C (fun _ _ _ => True) p (noView a) (noView a') := by
  unfold Go.noView
  refine (SRel.viewAt h.b).bind' fun q x y hq e => ?_
  obtain ⟨rfl, rfl⟩ := e
  exact .pure' trivial
theorem SRel.byteOf {a a' : Addr} (h : ARel C p a a') (hf : C.sh a.block = none) : SRel P C (QEq fun _ => True) p (byteOf a) (byteOf a') := by
  unfold Go.byteOf
  rw [h.s, h.o, hf, Option.getD_none, Nat.add_zero]
  cases a.spot with
  | some s => exact .pure' ⟨rfl, trivial⟩
  | none =>
    refine .prog ?_
    refine (SRel.noView h).bind' fun q _ _ hq _ => ?_
    refine .shape (hq _ _ h.b) fun s s' hs => ?_
    obtain rfl : s' = s := by
      cases hs with
      | same => rfl
      | win _ _ h0 => rw [hf] at h0; cases h0
    cases s' with
    | none => exact .dies (Dies.halt rfl)
    | some s =>
      obtain ⟨e, n⟩ := s
      show SRel P C _ q _ _
      dsimp only
      refine .ite (fun _ => .pure ⟨rfl, trivial⟩) (fun _ => ?_)
      cases byteOfCell P P.depth e (a.off % P.cellsOf e) with
      | none => exact .dies (Dies.halt rfl)
      | some b => exact .pure ⟨rfl, trivial⟩

theorem SRel.unsafeAdd {a a' : Addr} {y y' : Value} {t : TypeId} (hG : GOk P C) (h : ARel C p a a') (hy : VRel C p y y') :
    SRel P C (fun q v v' => ∃ b b', v = .pointer (some b) ∧ v' = .pointer (some b') ∧ ARel C q b b') p (Builtin.unsafeAdd_ #[] t #[.pointer (some a), y]) (Builtin.unsafeAdd_ #[] t #[.pointer (some a'), y']) := by
  unfold Builtin.unsafeAdd_
  refine (SRel.asInt1 hy).bind' fun q n n' hq e => ?_
  obtain ⟨rfl, _⟩ := e
  have h := h.mono hq
  refine .ite (fun _ => ?_) (fun _ => ?_)
  · refine (SRel.viewAt h.b).bind' fun q1 x y hq1 e => ?_
    obtain ⟨rfl, rfl⟩ := e
    exact .pure' ⟨_, _, rfl, rfl, h.mono hq1⟩
  · refine .ite (fun _ => .unsupB rfl) (fun _ => ?_)
    refine .shape h.b fun s s' hs => ?_
    cases hs with
    | win m x _ =>
      have e : ∀ c o (k : Int), cellAtBytes P P.depth C.bad c o k = none := fun c o k => by
        have : P.cellsOf C.bad = 0 := by simp [Program.cellsOf, hG.bad]
        simp [cellAtBytes, this]
      refine .prog ?_
      show SRel P C _ q _ _
      rw [e]
      exact .dies (Dies.halt rfl)
    | same s h0 =>
    cases s with
    | none => exact .dies (Dies.halt rfl)
    | some s =>
      obtain ⟨e, c⟩ := s
      refine .prog ?_
      rw [h.o, h0, Option.getD_none, Nat.add_zero]
      show SRel P C _ q _ _
      cases cellAtBytes P P.depth e (c / P.cellsOf e) a.off n with
      | none => exact .dies (Dies.halt rfl)
      | some off => exact .pure ⟨_, _, rfl, rfl, ⟨h.b, by simp [h0], h.s, h.g⟩⟩

theorem SRel.moved {t : TypeId} {x x' y y' : Value} (hG : GOk P C) (ht : intT P t = true) (hx : VRel C p x x') (hy : VRel C p y y') : SRel P C (QV C) p (movedNumber t x y) (movedNumber t x' y') := by
  obtain ⟨k, hk⟩ := intT_of ht
  unfold movedNumber
  refine (SRel.under t).bind' fun q d d' hq e => ?_
  obtain ⟨rfl, hd⟩ := e
  rw [hk] at hd; cases hd
  have hx := hx.mono hq; have hy := hy.mono hq
  cases hx with
  | ptr ha =>
    refine (SRel.behind ha).bind' fun q1 n n' hq1 e => ?_
    obtain ⟨a, l⟩ := n; obtain ⟨a', l'⟩ := n'
    obtain ⟨e, ha⟩ := e
    simp only at e ha; subst e
    refine (SRel.unsafeAdd hG ha (hy.mono hq1)).bind' fun q2 v v' hq2 e => ?_
    obtain ⟨b, b', rfl, rfl, hb⟩ := e
    exact SRel.asNumber hb
  | ptr0 =>
    refine .dies ?_
    unfold Builtin.unsafeAdd_
    refine Dies.of_bind _ _ (fun w => ?_) fun n => ?_
    · cases hy <;> first | exact .inl ⟨_, _, rfl⟩ | exact .inr ⟨_, _, rfl, rfl⟩
    · dsimp only
      split
      · intro w; exact ⟨_, _, rfl, rfl⟩
      · split
        · intro w; exact ⟨_, _, rfl, rfl⟩
        · intro w; exact ⟨_, _, rfl, rfl⟩
  | _ => exact .dies fun w => ⟨_, _, rfl, rfl⟩

theorem SRel.twoPlaces {a a' b b' : Addr} (ha : ARel C p a a') (hG : GOk P C) : SRel P C (fun _ _ _ => False) p (Op.twoPlaces a b) (Op.twoPlaces a' b') := by
  unfold Op.twoPlaces
  refine .prog ?_
  have : (a.block != b.block || decide (a.block ≥ P.globals.size)) = true := by
    have := ha.g
    have := hG.glob
    simp only [Bool.or_eq_true, decide_eq_true_eq]
    exact .inr (by omega)
  rw [if_pos this]
  exact .dies ((Dies.halt rfl).bind _)
theorem SRel.addrMod {k : IntKind} {a a' : Addr} {n : Int} (hG : GOk P C) (ha : ARel C p a a') : SRel P C (QV C) p (Op.addrMod k a n) (Op.addrMod k a' n) := by
  unfold Op.addrMod
  refine .shape ha.b fun s s' hs => ?_
  cases hs with
  | win m x _ =>
    refine .dies ?_
    intro w
    show ∃ h w', Sem.run P (typeInfo C.bad >>= _) w = _ ∧ _
    simp only [typeInfo, Go.program, Bind.bind, Sem.bind, Sem.run, hG.bad]
    exact ⟨_, _, rfl, rfl⟩
  | same s h0 =>
  cases s with
  | none => exact .dies (Dies.halt rfl)
  | some s =>
    obtain ⟨e, _⟩ := s
    refine (SRel.tinfo e).bind' fun q i i' hq h => ?_
    obtain ⟨rfl, _⟩ := h
    refine .ite (fun _ => .unsupB rfl) (fun _ => ?_)
    refine (SRel.byteOf (ha.mono hq) h0).bind' fun q1 n n' _ h => ?_
    obtain ⟨rfl, _⟩ := h
    exact .pure' (.int _ _)

/-- A type whose equality asks no address. -/
def eqT (P : Program) (t : TypeId) : Bool :=
  match P.underlying t with
  | some .bool | some (.slice _) | some .string => true
  | some (.int _) => match (P.info? t).map TypeInfo.desc with | some (.named n _) => n != "sync.copyChecker" | _ => true
  | _ => false

theorem SRel.equal {t : TypeId} {x x' y y' : Value} (ht : eqT P t = true) (hG : GOk P C) (hx : VRel C p x x') (hy : VRel C p y y') : SRel P C (QEq fun _ => True) p (Op.equal t x y) (Op.equal t x' y') := by
  unfold Op.equal Op.maxDepth Op.equalIn
  refine (SRel.under t).bind' fun q d d' hq e => ?_
  obtain ⟨rfl, hd⟩ := e
  have hx := hx.mono hq; have hy := hy.mono hq
  simp only [eqT, hd] at ht
  cases d with
  | bool => cases hx <;> cases hy <;> first | exact .stuck | exact .pure' ⟨rfl, trivial⟩
  | string => cases hx <;> cases hy <;> first | exact .stuck | exact .pure' ⟨rfl, trivial⟩
  | slice e => cases hx <;> cases hy <;> first | exact .stuck | exact .pure' ⟨rfl, trivial⟩
  | int k =>
    cases hx <;> cases hy <;> try first | exact .stuck | exact .unsup rfl | exact .pure' ⟨rfl, trivial⟩
    · rename_i k1 n1 k2 n2
      show SRel P C _ q (if k1 = k2 then _ else _) (if k1 = k2 then _ else _)
      exact .ite (fun _ => .pure' ⟨rfl, trivial⟩) (fun _ => .stuck)
    · rename_i k1 n1 a a' ha
      cases n1 with
      | ofNat m => cases m with
        | zero => exact .pure' ⟨rfl, trivial⟩
        | succ m => exact .unsup rfl
      | negSucc m => exact .unsup rfl
    · rename_i a a' ha k1 n1
      cases n1 with
      | ofNat m => cases m with
        | zero => exact .pure' ⟨rfl, trivial⟩
        | succ m => exact .unsup rfl
      | negSucc m => exact .unsup rfl
    · rename_i a a' ha b b' hb
      refine (SRel.behind ha).bind' fun q1 n n' hq1 e => ?_
      obtain ⟨_, ha⟩ := e
      refine (SRel.behind (hb.mono hq1)).bind' fun q2 m m' hq2 e => ?_
      obtain ⟨_, hb⟩ := e
      refine .prog ?_
      have hno : (n.1.block == m.1.block && decide (n.1.block < P.globals.size)) = false := by
        have := ha.g
        have := hG.glob
        simp only [Bool.and_eq_false_iff, decide_eq_false_iff_not]
        exact .inr (by omega)
      rw [hno]
      simp only [Bool.false_eq_true, if_false]
      refine .dies ?_
      intro w
      cases hi : P.info? t with
      | none => simp only [typeInfo, Go.program, Bind.bind, Sem.bind, Sem.run, hi]; exact ⟨_, _, rfl, rfl⟩
      | some i =>
        have e : ∀ (g : TypeInfo → Sem Bool), (typeInfo t >>= g).run P w = (g i).run P w := by
          intro g
          simp only [typeInfo, Go.program, Bind.bind, Sem.bind, Sem.run, hi]
          rfl
        rw [e]
        split
        · rename_i nm hdd
          simp only [hi, Option.map_some, hdd] at ht
          exact absurd ht (by decide)
        · exact ⟨_, _, rfl, rfl⟩
  | _ => cases ht

/-! ### two operands -/
/-- The types at which an operation of two operands is taken here. -/
def binT (P : Program) (op : BinOp) (t : TypeId) : Bool :=
  match op with
  | .eql | .neq => eqT P t
  | _ => intT P t

theorem SRel.eql' {t : TypeId} {x x' y y' : Value} (ht : eqT P t = true) (hG : GOk P C) (hx : VRel C p x x') (hy : VRel C p y y') :
    SRel P C (QV C) p (Op.equal t x y >>= fun b => Pure.pure (Value.bool b)) (Op.equal t x' y' >>= fun b => Pure.pure (Value.bool b)) :=
  (SRel.equal ht hG hx hy).bind' fun q b b' _ e => by obtain ⟨rfl, _⟩ := e; exact .pure' (.bool _)
theorem SRel.neq' {t : TypeId} {x x' y y' : Value} (ht : eqT P t = true) (hG : GOk P C) (hx : VRel C p x x') (hy : VRel C p y y') :
    SRel P C (QV C) p (Op.equal t x y >>= fun b => Pure.pure (Value.bool (!b))) (Op.equal t x' y' >>= fun b => Pure.pure (Value.bool (!b))) :=
  (SRel.equal ht hG hx hy).bind' fun q b b' _ e => by obtain ⟨rfl, _⟩ := e; exact .pure' (.bool _)
theorem SRel.modI {t : TypeId} {a a' : Addr} {k : IntKind} {n : Int} (hG : GOk P C) (ha : ARel C p a a') : SRel P C (QV C) p (behindNumber a >>= fun z => Op.addrMod k z.1 n) (behindNumber a' >>= fun z => Op.addrMod k z.1 n) :=
  (SRel.behind ha).bind' fun q z z' hq e => SRel.addrMod hG e.2
theorem SRel.subP {a a' b b' : Addr} (hG : GOk P C) (ha : ARel C p a a') (hb : ARel C p b b') : SRel P C (QV C) p (behindNumber a >>= fun z => behindNumber b >>= fun y => Op.addrSub .u64 z.1 y.1) (behindNumber a' >>= fun z => behindNumber b' >>= fun y => Op.addrSub .u64 z.1 y.1) := by
  refine (SRel.behind ha).bind' fun q z z' hq e => ?_
  refine (SRel.behind (hb.mono hq)).bind' fun q1 y y' hq1 e1 => ?_
  unfold Op.addrSub
  exact (SRel.twoPlaces (e.2.mono hq1) hG).bind' fun q2 _ _ _ h => h.elim
theorem SRel.cmpP {op : BinOp} {a a' b b' : Addr} (hG : GOk P C) (ha : ARel C p a a') (hb : ARel C p b b') : SRel P C (QV C) p (behindNumber a >>= fun z => behindNumber b >>= fun y => Op.addrCmp op z.1 y.1) (behindNumber a' >>= fun z => behindNumber b' >>= fun y => Op.addrCmp op z.1 y.1) := by
  refine (SRel.behind ha).bind' fun q z z' hq e => ?_
  refine (SRel.behind (hb.mono hq)).bind' fun q1 y y' hq1 e1 => ?_
  unfold Op.addrCmp
  exact (SRel.twoPlaces (e.2.mono hq1) hG).bind' fun q2 _ _ _ h => h.elim

theorem SRel.intInt {op : BinOp} {t : TypeId} {k k' : IntKind} {a b : Int} : SRel P C (QV C) p (binOp op t (.int k a) (.int k' b)) (binOp op t (.int k a) (.int k' b)) := by
  have sh : ∀ o, SRel P C (QV C) p (Op.shift o k a k' b) (Op.shift o k a k' b) := by
    intro o
    unfold Op.shift
    refine .ite (fun _ => .rtp) (fun _ => ?_)
    dsimp only
    cases o <;> first | exact .stuck | exact .pure' (.int _ _)
  have ar : ∀ o, SRel P C (QV C) p (Op.intArith o k a b) (Op.intArith o k a b) := by
    intro o; unfold Op.intArith; cases o <;> first | exact .stuck | exact .pure' (.int _ _)
  have dv : ∀ o, SRel P C (QV C) p (Op.intDiv o k a b) (Op.intDiv o k a b) := by
    intro o
    unfold Op.intDiv
    refine .ite (fun _ => .rtp) (fun _ => ?_)
    cases o <;> first | exact .stuck | exact .pure' (.int _ _)
  have bt : ∀ o, SRel P C (QV C) p (Op.intBits o k a b) (Op.intBits o k a b) := by
    intro o; unfold Op.intBits; dsimp only; cases o <;> first | exact .stuck | exact .pure' (.int _ _)
  have cm : ∀ o, SRel P C (QV C) p (Op.intCmp o a b) (Op.intCmp o a b) := by
    intro o; unfold Op.intCmp; cases o <;> first | exact .stuck | exact .pure' (.bool _)
  cases op <;> first
    | exact sh .shl
    | exact sh .shr
    | exact .ite (fun _ => .stuck) (fun _ => ar _)
    | exact .ite (fun _ => .stuck) (fun _ => dv _)
    | exact .ite (fun _ => .stuck) (fun _ => bt _)
    | exact .ite (fun _ => .stuck) (fun _ => cm _)

theorem SRel.addP {t : TypeId} {x x' y y' : Value} (hG : GOk P C) (ht : intT P t = true) (hx : VRel C p x x') (hy : VRel C p y y') :
    SRel P C (QV C) p (underlying t >>= fun d => if (match d with | .unsafePointer => true | _ => false) = true then movedPointer t x y else movedNumber t x y)
      (underlying t >>= fun d => if (match d with | .unsafePointer => true | _ => false) = true then movedPointer t x' y' else movedNumber t x' y') := by
  obtain ⟨k, hk⟩ := intT_of ht
  refine (SRel.under t).bind' fun q d d' hq e => ?_
  obtain ⟨rfl, hd⟩ := e
  rw [hk] at hd; cases hd
  exact SRel.moved hG ht (hx.mono hq) (hy.mono hq)
/-- What the view is not to look at is compared with nothing. -/
theorem dies_eqJ {β : Type} {t : TypeId} {x y : Value} {f : Bool → Sem β} (ht : eqT P t = true) (h : x = junkV ∨ y = junkV) : Dies P (Op.equal t x y >>= f) := by
  refine Dies.bind (s := Op.equal t x y) (fun w => ?_) f
  have e : ∀ d, P.underlying t = some d → ∀ (g : TypeDesc → Sem Bool), (underlying t >>= g).run P w = (g d).run P w := by
    intro d hd g
    simp only [underlying, Go.program, Bind.bind, Sem.bind, Sem.run, hd]
    rfl
  unfold Op.equal Op.maxDepth Op.equalIn
  cases hd : P.underlying t with
  | none => simp only [eqT, hd] at ht; cases ht
  | some d =>
    rw [e d hd]
    simp only [eqT, hd] at ht
    cases d <;> simp only [Bool.false_eq_true] at ht
    all_goals
      rcases h with rfl | rfl
      · cases y with
        | pointer a => cases a <;> first | exact ⟨.unsupported .addressObserved, w, rfl, rfl⟩ | exact ⟨.stuck _, w, rfl, rfl⟩
        | slice a l c => cases a <;> exact ⟨.stuck _, w, rfl, rfl⟩
        | int k n => cases n with
          | ofNat m => cases m <;> exact ⟨.stuck _, w, rfl, rfl⟩
          | negSucc m => exact ⟨.stuck _, w, rfl, rfl⟩
        | _ => exact ⟨.stuck _, w, rfl, rfl⟩
      · cases x with
        | pointer a => cases a <;> first | exact ⟨.unsupported .addressObserved, w, rfl, rfl⟩ | exact ⟨.stuck _, w, rfl, rfl⟩
        | slice a l c => cases a <;> exact ⟨.stuck _, w, rfl, rfl⟩
        | int k n => cases n with
          | ofNat m => cases m <;> exact ⟨.stuck _, w, rfl, rfl⟩
          | negSucc m => exact ⟨.stuck _, w, rfl, rfl⟩
        | _ => exact ⟨.stuck _, w, rfl, rfl⟩
theorem dies_binJ {op : BinOp} {t : TypeId} {x y : Value} (ht : binT P op t = true) (h : x = junkV ∨ y = junkV) : Dies P (binOp op t x y) := by
  by_cases he : op = .eql
  · subst he
    have : binOp .eql t x y = (Op.equal t x y >>= fun b => Pure.pure (Value.bool b)) := by
      rcases h with rfl | rfl
      · cases y <;> rfl
      · cases x <;> rfl
    rw [this]
    exact dies_eqJ ht h
  by_cases hn : op = .neq
  · subst hn
    have : binOp .neq t x y = (Op.equal t x y >>= fun b => Pure.pure (Value.bool (!b))) := by
      rcases h with rfl | rfl
      · cases y <;> rfl
      · cases x <;> rfl
    rw [this]
    exact dies_eqJ ht h
  intro w
  rcases h with rfl | rfl
  · cases op <;> first | exact absurd rfl he | exact absurd rfl hn | (cases y <;> first | exact ⟨_, _, rfl, rfl⟩ | (rename_i a; cases a <;> exact ⟨.unsupported .addressObserved, w, rfl, rfl⟩))
  · cases op <;> first | exact absurd rfl he | exact absurd rfl hn | (cases x <;> first | exact ⟨_, _, rfl, rfl⟩ | (rename_i a; cases a <;> exact ⟨.unsupported .addressObserved, w, rfl, rfl⟩))

set_option maxHeartbeats 2000000 in
theorem SRel.bin {op : BinOp} {t : TypeId} {x x' y y' : Value} (ht : binT P op t = true) (hG : GOk P C) (hx : VRel C p x x') (hy : VRel C p y y') :
    SRel P C (QV C) p (binOp op t x y) (binOp op t x' y') := by
  have hx0 := hx; have hy0 := hy
  by_cases hj : x = junkV ∨ y = junkV
  · exact .dies (dies_binJ ht hj)
  have hj1 : x ≠ junkV := fun e => hj (.inl e)
  have hj2 : y ≠ junkV := fun e => hj (.inr e)
  clear hj
  have he : op = .eql → eqT P t = true := fun e => by subst e; exact ht
  have hn : op = .neq → eqT P t = true := fun e => by subst e; exact ht
  have hi : op ≠ .eql → op ≠ .neq → intT P t = true := fun h1 h2 => by
    cases op <;> first | exact absurd rfl h1 | exact absurd rfl h2 | exact ht
  clear ht
  cases hx with
  | junk _ => exact absurd rfl hj1
  | string s =>
    cases hy with
    | junk _ => exact absurd rfl hj2
    | string r => cases op <;> first | exact .stuck | exact .pure' (VRel.bool _) | exact .ite (fun _ => .unsup rfl) (fun _ => .pure' (VRel.string _))
    | _ =>
      cases op <;> first
        | exact .unsup rfl
        | exact .stuck
        | exact SRel.eql' (he rfl) hG hx0 hy0
        | exact SRel.neq' (hn rfl) hG hx0 hy0
  | int k n =>
    cases hy with
    | junk _ => exact absurd rfl hj2
    | int k' n' => exact SRel.intInt
    | ptr ha =>
      cases op <;> first
        | exact .unsup rfl
        | exact .stuck
        | exact SRel.eql' (he rfl) hG hx0 hy0
        | exact SRel.neq' (hn rfl) hG hx0 hy0
        | exact SRel.moved hG (hi (by simp) (by simp)) hy0 hx0
        | exact SRel.modI (t := t) hG ha
    | _ =>
      cases op <;> first
        | exact .unsup rfl
        | exact .stuck
        | exact SRel.eql' (he rfl) hG hx0 hy0
        | exact SRel.neq' (hn rfl) hG hx0 hy0
        | exact SRel.moved hG (hi (by simp) (by simp)) hy0 hx0
  | ptr ha =>
    cases hy with
    | junk _ => exact absurd rfl hj2
    | int k n =>
      cases op <;> first
        | exact .unsup rfl
        | exact .stuck
        | exact SRel.eql' (he rfl) hG hx0 hy0
        | exact SRel.neq' (hn rfl) hG hx0 hy0
        | exact SRel.addP hG (hi (by simp) (by simp)) hx0 hy0
        | exact SRel.moved hG (hi (by simp) (by simp)) hx0 (.int k (-n))
        | exact SRel.modI (t := t) hG ha
    | ptr hb =>
      cases op <;> first
        | exact .unsup rfl
        | exact .stuck
        | exact SRel.eql' (he rfl) hG hx0 hy0
        | exact SRel.neq' (hn rfl) hG hx0 hy0
        | exact SRel.subP hG ha hb
        | exact SRel.cmpP hG ha hb
    | _ =>
      cases op <;> first
        | exact .unsup rfl
        | exact .stuck
        | exact SRel.eql' (he rfl) hG hx0 hy0
        | exact SRel.neq' (hn rfl) hG hx0 hy0
  | ptr0 =>
    cases hy with
    | junk _ => exact absurd rfl hj2
    | int k n =>
      cases op <;> first
        | exact .unsup rfl
        | exact .stuck
        | exact SRel.eql' (he rfl) hG hx0 hy0
        | exact SRel.neq' (hn rfl) hG hx0 hy0
        | exact SRel.addP hG (hi (by simp) (by simp)) hx0 hy0
        | exact SRel.moved hG (hi (by simp) (by simp)) hx0 (.int k (-n))
    | _ =>
      cases op <;> first
        | exact .unsup rfl
        | exact .stuck
        | exact SRel.eql' (he rfl) hG hx0 hy0
        | exact SRel.neq' (hn rfl) hG hx0 hy0
  | _ =>
    cases hy <;> cases op <;> first
        | exact absurd rfl hj2
        | exact .unsup rfl
        | exact .stuck
        | exact SRel.eql' (he rfl) hG hx0 hy0
        | exact SRel.neq' (hn rfl) hG hx0 hy0
end
end Go.Proofs.Ytfecdmenliohhaa

set_option linter.unusedSimpArgs false
set_option linter.unusedVariables false
namespace Go.Proofs.Ytfecdmenliohhaa
open Go

/-- What an operation yields, alike. -/
inductive NRel (C : Cx) (p : Ren) : Next → Next → Prop
  | value {v v' : Value} : VRel C p v v' → NRel C p (.value v) (.value v')
  | skip : NRel C p .skip .skip
  | enter {f : FuncId} {x x' : Array Value} : C.F f → ASame C p x x' → NRel C p (.enter f x) (.enter f x')

/-- The functions of the list have bodies. -/
structure FnsOk (P : Program) (C : Cx) : Prop where
  fns : ∀ f, C.F f → ∃ fn, P.funcs[f]? = some fn ∧ (fn.name == "runtime.NumGoroutine") = false ∧ fn.body.isNone = false
  glob : GOk P C

/-! ### by a look -/
def opdOk (L : List FuncId) : Operand → Bool
  | .tmp _ => true
  | .const v => match v with | .string _ => true | v => constOk v
  | .global _ => false
  | .func f => L.contains f
def elemOk (P : Program) (t : TypeId) : Bool := match P.underlying t with | some (.slice e) => zeroOk P e | _ => true
def builtinOk (P : Program) (b : Builtin) (ats : Array TypeId) : Bool :=
  match b with
  | .append => (match ats[0]? with | some t => elemOk P t | none => true) && (match ats[1]? with | some t => !intT P t | none => true)
  | .len | .max | .min => true
  | _ => false
def callOk (P : Program) (L : List FuncId) (c : Call) : Bool :=
  c.args.all (opdOk L) && match c.callee with
    | .value f => opdOk L f
    | .builtin b => builtinOk P b c.argTypes
    | .invoke .. => false
def opOk (P : Program) (L : List FuncId) : Op → Bool
  | .move x | .assign x | .nilCheck x => opdOk L x
  | .pick c a b => opdOk L c && opdOk L a && opdOk L b
  | .alloc t => zeroOk P t
  | .box _ x => opdOk L x
  | .buildSlice t _ ps => elemOk P t && ps.all fun x => opdOk L x.2
  | .load t a => flatT P t && opdOk L a
  | .store _ a x => opdOk L a && opdOk L x
  | .binOp op t x y _ => binT P op t && opdOk L x && opdOk L y
  | .unOp op _ x => (op == .not) && opdOk L x
  | .convert s d x => intT P s && intT P d && opdOk L x
  | .makeFunc fn a b => (match fn with | .func f => L.contains f | _ => false) && a.all (opdOk L) && b.all (opdOk L)
  | .makeSlice t a b => elemOk P t && opdOk L a && opdOk L b
  | .indexAddr _ x i => opdOk L x && opdOk L i
  | .fieldAddr s x f => fieldOk P s f && opdOk L x
  | .index t x i => narrT P t && opdOk L x && opdOk L i
  | .build t ps => buildOk P t && ps.all fun x => opdOk L x.2
  | .extract x _ => opdOk L x
  | .call c => callOk P L c
  | _ => false

section
variable {P : Program} {C : Cx} {p : Ren} {L : List FuncId} {r r' : Operand → Value}

theorem SRel.val {s s' : Sem Value} (h : SRel P C (QV C) p s s') : SRel P C (NRel C) p (s >>= fun v => Pure.pure (Next.value v)) (s' >>= fun v => Pure.pure (Next.value v)) :=
  h.bind' fun q v v' _ hv => .pure' (.value hv)
theorem SRel.unit {s s' : Sem Unit} (h : SRel P C (fun _ _ _ => True) p s s') : SRel P C (NRel C) p (s >>= fun _ => Pure.pure Next.skip) (s' >>= fun _ => Pure.pure Next.skip) :=
  h.bind' fun q v v' _ hv => .pure' .skip

theorem SRel.callFunc (H : FnsOk P C) {f : FuncId} (hf : C.F f) {x x' : Array Value} (hx : ASame C p x x') : SRel P C (NRel C) p (callFunc f x) (callFunc f x') := by
  obtain ⟨fn, h1, h2, h3⟩ := H.fns f hf
  unfold Go.callFunc
  refine .prog ?_
  simp only [h1, h2, h3, Bool.false_eq_true, if_false]
  exact .pure' (.enter hf hx)

theorem SRel.builtin {b : Builtin} {ats : Array TypeId} {ty : TypeId} {cs : Array Bool} {x x' : Array Value} (h : builtinOk P b ats = true) (hx : ASame C p x x') :
    SRel P C (NRel C) p (builtin b ats ty cs x) (builtin b ats ty cs x') := by
  cases b <;> try (cases h; done)
  · refine SRel.val (SRel.append hx (fun t e h0 h1 => ?_) (fun t k h0 h1 => ?_))
    · simp only [builtinOk, h0, elemOk, h1, Bool.and_eq_true] at h; exact h.1
    · simp only [builtinOk, h0, intT, h1, Bool.and_eq_true] at h; exact absurd h.2 (by simp)
  all_goals first | exact SRel.val (SRel.len hx) | exact SRel.val (SRel.maxB hx) | exact SRel.val (SRel.minB hx)

theorem rel_opd (hr : ∀ t, VRel C p (r (.tmp t)) (r' (.tmp t))) (hc : ∀ v, r (.const v) = v ∧ r' (.const v) = v) (hf : ∀ f, r (.func f) = .func (.func f) #[] #[] ∧ r' (.func f) = .func (.func f) #[] #[])
    (hL : ∀ f, L.contains f = true → C.F f) : ∀ {x : Operand}, opdOk L x = true → VRel C p (r x) (r' x)
  | .tmp t, _ => hr t
  | .const v, h => by
    rw [(hc v).1, (hc v).2]
    cases v with
    | string s => exact .string s
    | _ => exact constOk_rel (by simpa [opdOk] using h)
  | .func f, h => by
    rw [(hf f).1, (hf f).2]
    exact ASame.func (hL f h) .empty .empty
theorem rel_opds (h : ∀ {x : Operand}, opdOk L x = true → VRel C p (r x) (r' x)) {xs : Array Operand} (hx : xs.all (opdOk L) = true) : ASame C p (xs.map r) (xs.map r') := by
  refine ⟨by simp, fun i v v' hv hv' => ?_⟩
  simp only [Array.getElem?_map] at hv hv'
  obtain ⟨x, hx0, rfl⟩ := Option.map_eq_some_iff.1 hv
  rw [hx0] at hv'
  cases hv'
  exact h (Array.all_eq_true_iff_forall_mem.1 hx x (Array.mem_of_getElem? hx0))

/-- What the view is not to look at is compared with nothing, nor guarded. -/
theorem dies_guardJ {op : BinOp} {t : TypeId} {x y : Operand} {a b : Value} (ht : binT P op t = true) (h : a = junkV ∨ b = junkV) : Dies P (eqGuard op t x y a b >>= fun _ => binOp op t a b) := by
  refine Dies.of_bind _ _ (fun w => ?_) fun _ => dies_binJ ht h
  by_cases hop : op = .eql ∨ op = .neq
  case neg =>
    refine .inl ⟨(), w, ?_⟩
    unfold eqGuard
    cases op <;> first | rfl | exact absurd (.inl rfl) hop | exact absurd (.inr rfl) hop
  have heq : eqT P t = true := by rcases hop with rfl | rfl <;> exact ht
  have both : a = junkV → b = junkV → (∃ u w', (eqGuard op t x y a b).run P w = .ok u w') := by
    rintro rfl rfl
    have hg : eqGuard op t x y junkV junkV = (if ((x matches .const _) || (y matches .const _)) = true then Pure.pure () else Op.eqGuardIn Op.maxDepth t junkV junkV >>= fun b => if b = true then Go.unsupported (.noEntry "binop/eql: two nil values of an interface type with methods, neither of them the literal nil") else Pure.pure ()) := by
      rcases hop with rfl | rfl <;> rfl
    rw [hg]
    clear hg
    generalize ((x matches .const _) || (y matches .const _)) = c
    cases c
    case true => exact ⟨(), w, rfl⟩
    case false =>
      have e : ∀ d, P.underlying t = some d → ∀ (g : TypeDesc → Sem Bool), (underlying t >>= g).run P w = (g d).run P w := by
        intro d hd g
        simp only [underlying, Go.program, Bind.bind, Sem.bind, Sem.run, hd]
        rfl
      have e2 : (Op.eqGuardIn Op.maxDepth t junkV junkV).run P w = .ok false w := by
        unfold Op.maxDepth Op.eqGuardIn
        cases hd : P.underlying t with
        | none => simp only [eqT, hd] at heq; cases heq
        | some d =>
          rw [e d hd]
          simp only [eqT, hd] at heq
          cases d <;> simp only [Bool.false_eq_true] at heq <;> rfl
      refine ⟨(), w, ?_⟩
      show (Sem.bind _ _).run P w = _
      rw [run_bind, e2]
      rfl
  rcases h with rfl | rfl
  · cases b <;> first | exact .inl (both rfl rfl) | (refine .inl ⟨(), w, ?_⟩; rcases hop with rfl | rfl <;> rfl)
  · cases a <;> first | exact .inl (both rfl rfl) | (refine .inl ⟨(), w, ?_⟩; rcases hop with rfl | rfl <;> rfl)

theorem SRel.exec (H : FnsOk P C) (h : ∀ {x : Operand}, opdOk L x = true → VRel C p (r x) (r' x)) (hL : ∀ f, L.contains f = true → C.F f) {o : Oper} (ho : opOk P L o.op = true) :
    SRel P C (NRel C) p (execOp r o) (execOp r' o) := by
  obtain ⟨dst, op, ty, pos, after, guard⟩ := o
  simp only at ho
  unfold execOp
  cases op <;> simp only [opOk, Bool.and_eq_true, Bool.false_eq_true] at ho
  case move x => exact .pure' (.value (h ho))
  case assign x => exact .pure' (.value (h ho))
  case pick c a b =>
    refine (SRel.asBool (h ho.1.1)).bind' fun q t t' hq e => ?_
    obtain ⟨rfl, _⟩ := e
    refine .pure' (.value ?_)
    split
    · exact (h ho.1.2).mono hq
    · exact (h ho.2).mono hq
  case alloc t => exact SRel.val (SRel.alloc ho)
  case box t x => exact SRel.val (SRel.box (h ho))
  case buildSlice t n ps =>
    refine SRel.val (SRel.buildSlice (fun e he => by simpa [elemOk, he] using ho.1) (by simp) (fun i a a' ha ha' => ?_))
    simp only [Array.getElem?_map] at ha ha'
    obtain ⟨x, hx0, rfl⟩ := Option.map_eq_some_iff.1 ha
    rw [hx0] at ha'
    cases ha'
    exact ⟨rfl, h (Array.all_eq_true_iff_forall_mem.1 ho.2 x (Array.mem_of_getElem? hx0))⟩
  case build t ps =>
    refine SRel.val (SRel.build ho.1 (by simp) (fun i a a' ha ha' => ?_))
    simp only [Array.getElem?_map] at ha ha'
    obtain ⟨x, hx0, rfl⟩ := Option.map_eq_some_iff.1 ha
    rw [hx0] at ha'
    cases ha'
    exact ⟨rfl, h (Array.all_eq_true_iff_forall_mem.1 ho.2 x (Array.mem_of_getElem? hx0))⟩
  case load t a => exact SRel.val (SRel.loadAt ho.1 (h ho.2))
  case store t a x => exact SRel.unit (SRel.storeAt (h ho.1) (h ho.2))
  case nilCheck x =>
    have hx := h ho
    dsimp only
    generalize hv : r x = v at hx ⊢
    generalize hv' : r' x = v' at hx ⊢
    have hx0 := hx
    cases hx <;> first | exact .rtp | exact SRel.pure' (NRel.value hx0)
  case binOp op t x y yt =>
    have hx := h ho.1.2
    have hy := h ho.2
    refine SRel.val ?_
    by_cases hj : r x = junkV ∨ r y = junkV
    · exact .dies (dies_guardJ ho.1.1 hj)
    have hj1 : r x ≠ junkV := fun e => hj (.inl e)
    have hj2 : r y ≠ junkV := fun e => hj (.inr e)
    clear hj
    refine SRel.bind' (Q := fun _ _ _ => True) ?_ fun q _ _ hq _ => SRel.bin ho.1.1 H.glob (hx.mono hq) (hy.mono hq)
    unfold eqGuard
    refine .ite (fun _ => .pure' trivial) (fun hop => ?_)
    have heq : eqT P t = true := by
      have hb := ho.1.1
      cases op <;> first | exact hb | exact absurd rfl hop
    generalize r x = v at hx hj1 ⊢
    generalize r' x = v' at hx ⊢
    have key : ∀ (a a' b b' : Value), SRel P C (QEq fun c => c = false) p (Op.eqGuardIn Op.maxDepth t a b) (Op.eqGuardIn Op.maxDepth t a' b') := by
      intro a a' b b'
      unfold Op.maxDepth Op.eqGuardIn
      refine (SRel.under t).bind' fun q d d' hq e => ?_
      obtain ⟨rfl, hd⟩ := e
      simp only [eqT, hd] at heq
      cases d <;> simp only [Bool.false_eq_true] at heq <;> exact .pure' ⟨rfl, rfl⟩
    cases hx <;> first | exact .pure' trivial | exact absurd rfl hj1 | skip
    generalize r y = u at hy hj2 ⊢
    generalize r' y = u' at hy ⊢
    cases hy <;> first | exact .pure' trivial | exact absurd rfl hj2 | skip
    refine .prog ?_
    refine .prog ?_
    refine .ite (fun _ => .pure' trivial) (fun _ => ?_)
    refine (key _ _ _ _).bind' fun q b b' _ e => ?_
    obtain ⟨rfl, rfl⟩ := e
    exact .pure' trivial
  case unOp op t x =>
    obtain ⟨h1, h2⟩ := ho
    have : op = .not := by simpa using h1
    subst this
    exact SRel.val (SRel.unNot (h h2))
  case convert s d x => exact SRel.val (SRel.conv ho.1.1 ho.1.2 (h ho.2))
  case makeFunc fn a b =>
    cases fn <;> simp only [Bool.false_eq_true, false_and] at ho
    exact SRel.val (.pure' (ASame.func (hL _ ho.1.1) (rel_opds h ho.1.2) (rel_opds h ho.2)))
  case makeSlice t a b => exact SRel.val (SRel.makeSlice (fun e he => by simpa [elemOk, he] using ho.1.1) (h ho.1.2) (h ho.2))
  case indexAddr t x i => exact SRel.val (SRel.indexAt (h ho.1) (h ho.2))
  case fieldAddr s x f => exact SRel.val (SRel.fieldAt ho.1 (h ho.2))
  case index t x i => exact SRel.val (SRel.index ho.1.1 (h ho.1.2) (h ho.2))
  case extract x i => exact SRel.val (SRel.extract (h ho) i)
  case call c =>
    obtain ⟨callee, args, ats⟩ := c
    simp only [callOk, Bool.and_eq_true] at ho
    have ha := rel_opds h ho.1
    unfold resolve
    cases callee with
    | value f =>
      have hf := h ho.2
      dsimp only at hf ⊢
      generalize r f = v at hf ⊢
      generalize r' f = v' at hf ⊢
      cases hf with
      | func hF h1 h2 h3 h4 => exact SRel.callFunc H hF ((ASame.append ⟨h1, h2⟩ ha).append ⟨h3, h4⟩)
      | func0 => exact .dies fun w => rtp_dies (P := P) .nilDeref w
      | _ => exact .dies fun w => ⟨_, _, rfl, rfl⟩
    | builtin b => exact SRel.builtin ho.2 ha
    | invoke r m => exact absurd ho.2 (by simp)
end
end Go.Proofs.Ytfecdmenliohhaa
