/- Plain lemmas on slices that are read or owned, used by all walks of this seat. Nothing of the program is named here. A slice's end; what stands in other blocks; the first index. A block that is known whole. A region that draws its order, whose operations only read and whose callees read and make memory: walked once. -/
import Derived.WalkKit
import Derived.WalkSpells
import Derived.WalkLawsBesides
import Derived.Deep.QuietTactic
import Derived.BigQuiet
import Derived.Lib.Hide
import Derived.StillTailTactics
import Derived.Deep.RegionHeld3
import Derived.Deep.AppendLies
set_option linter.unusedVariables false
set_option linter.unusedSimpArgs false
namespace Go.Proofs.Ytfecdmenliohhaa
open Go.RowKit

/-- The address of element k of a slice of one-cell elements. -/
def elt (a : Option Addr) (k : Nat) : Addr := ⟨(a.getD ⟨0, 0, none⟩).block, (a.getD ⟨0, 0, none⟩).off + k, none⟩

theorem elt_some (b o k : Nat) : elt (some ⟨b, o, none⟩) k = ⟨b, o + k, none⟩ := rfl
theorem elt_zero (b o : Nat) : elt (some ⟨b, o, none⟩) 0 = ⟨b, o, none⟩ := rfl

theorem add_elt (b o k : Nat) : (⟨b, o, none⟩ : Addr).add k = ⟨b, o + k, none⟩ := by
  unfold Addr.add; split <;> simp_all

/-- A slice of one-cell elements reads as the list xs. -/
structure Rd {α : Type} [Inhabited α] (f : α → Value) (w : World) (a : Option Addr) (c : Nat) (xs : List α) : Prop where
  cap : xs.length ≤ c
  max : c ≤ 9223372036854775807
  nil : a = none → c = 0
  here : 0 < xs.length → ∃ b o, a = some ⟨b, o, none⟩ ∧ b < w.heap.size
  cell : ∀ k, k < xs.length → w.cell? (elt a k) = some (f (xs[k]?.getD default))

section
variable {α : Type} [Inhabited α] {f : α → Value} {w w' : World} {a : Option Addr} {c : Nat} {xs : List α}

theorem Rd.below (h : Rd f w a c xs) {B : Nat} (hb : Below B w w') (hB : w.heap.size ≤ B) : Rd f w' a c xs := by
  refine ⟨h.cap, h.max, h.nil, fun h0 => ?_, fun k hk => ?_⟩
  · obtain ⟨b, o, e, hlt⟩ := h.here h0; exact ⟨b, o, e, Nat.lt_of_lt_of_le hlt hb.size⟩
  · obtain ⟨b, o, e, hlt⟩ := h.here (by omega)
    subst e
    rw [← h.cell k hk]
    exact hb.cell (p := elt (some ⟨b, o, none⟩) k) (by rw [elt_some]; exact Nat.lt_of_lt_of_le hlt hB)

theorem Rd.len (h : Rd f w a c xs) : xs.length ≤ 9223372036854775807 := Nat.le_trans h.cap h.max

theorem idx_run {P : Program} {T : TypeId} {a : Option Addr} {n c : Nat} (hT : P.underlying T = some (.slice (P.elem T))) (hs : ∀ w, (sizeOf (P.elem T)).run P w = .ok 1 w)
    (ha : 0 < n → ∃ b o, a = some ⟨b, o, none⟩) (w' : World) (k : Nat) (hk : k < n) :
    (Instr.indexAt T (.slice a n c) (.int .i64 (k : Int))).run P w' = .ok (.pointer (some (elt a k))) w' := by
  obtain ⟨b, o, rfl⟩ := ha (by omega)
  rw [run_indexAt_slice (h := hT), if_pos (by omega), hs]
  simp [Result.andThen, add_elt, elt_some]

theorem Rd.idx (h : Rd f w a c xs) {P : Program} {T : TypeId} (hT : P.underlying T = some (.slice (P.elem T))) (hs : ∀ w, (sizeOf (P.elem T)).run P w = .ok 1 w) :
    ∀ (w' : World) (k : Nat), k < xs.length → (Instr.indexAt T (.slice a xs.length c) (.int .i64 (k : Int))).run P w' = .ok (.pointer (some (elt a k))) w' :=
  idx_run hT hs (fun h0 => let ⟨b, o, e, _⟩ := h.here h0; ⟨b, o, e⟩)

end

/-- A slice that a call has made: the list xs in a row of its own, from block base on. -/
def Own {α : Type} (f : α → Value) (e : TypeId) (w : World) (base : Nat) (a : Option Addr) (c : Nat) (xs : List α) : Prop :=
  w.ownsRow base e 1 (.slice a xs.length c) xs.length (xs.map f)

section
variable {α : Type} {f : α → Value} {e : TypeId} {w w' : World} {base : Nat} {a : Option Addr} {c : Nat} {xs : List α}

theorem own_of_row {v : Value} {n : Nat} {vs : List Value} (h : w.ownsRow base e 1 v n vs) (hv : vs = xs.map f) :
    ∃ a c, v = .slice a xs.length c ∧ Own f e w base a c xs := by
  subst hv
  have hn : n = xs.length := by have := h.1; simp at this; omega
  subst hn
  rcases h.2 with ⟨rfl, h0⟩ | ⟨g, cap, cur, rfl, r⟩
  · exact ⟨none, 0, by rw [h0], by unfold Own; rw [h0]; rw [h0] at h; exact h⟩
  · exact ⟨_, _, rfl, h⟩

theorem Own.shape (h : Own f e w base a c xs) : (a = none ∧ c = 0 ∧ xs = []) ∨ ∃ g, a = some ⟨g, 0, none⟩ ∧ base ≤ g ∧ g < w.heap.size ∧ xs.length ≤ c ∧ c ≤ maxLen ∧ ∃ cur, w.heap[g]? = some (.cells cur e (0, 0)) ∧ cur.size = c ∧ cur.toList.take xs.length = xs.map f := by
  rcases h.2 with ⟨h1, h0⟩ | ⟨g, cap, cur, h1, h2, h3, h4, h5, h6, h7⟩
  · simp only [Value.slice.injEq] at h1
    exact .inl ⟨h1.1, h1.2.2, List.eq_nil_of_length_eq_zero h0⟩
  · simp only [Value.slice.injEq] at h1
    obtain ⟨e1, _, e3⟩ := h1
    subst e3
    exact .inr ⟨g, e1, h2, (Array.getElem?_eq_some_iff.1 h3).1, h4, h5, cur, h3, by simpa using h6, by simpa using h7⟩

theorem Own.rd [Inhabited α] (h : Own f e w base a c xs) : Rd f w a c xs := by
  rcases h.shape with ⟨rfl, rfl, rfl⟩ | ⟨g, rfl, hb, hlt, hc, hm, cur, hg, hcs, ht⟩
  · exact ⟨by simp, by simp, by simp, by simp, by simp⟩
  · refine ⟨hc, by simpa [maxLen] using hm, by simp, fun _ => ⟨g, 0, rfl, hlt⟩, fun k hk => ?_⟩
    have hx : (cur.toList.take xs.length)[k]? = (xs.map f)[k]? := by rw [ht]
    rw [List.getElem?_take, if_pos hk] at hx
    rw [elt_some, Nat.zero_add, cell_of_row w g k cur e (0, 0) hg]
    simp only [Array.getElem?_toList] at hx
    rw [hx]
    simp [hk]

theorem Own.mono (h : Own f e w base a c xs) {b' : Nat} (hb : b' ≤ base) : Own f e w b' a c xs := by
  refine ⟨h.1, ?_⟩
  rcases h.2 with h2 | ⟨g, cap, cur, h1, h2, r⟩
  · exact .inl h2
  · exact .inr ⟨g, cap, cur, h1, by omega, r⟩

/-- Owned, behind whatever leaves the block alone. -/
theorem Own.kept (h : Own f e w base a c xs) {row : Option Nat} (hg : w.grownBy w' row) (hne : ∀ g, row = some g → ∀ p, a = some p → p.block ≠ g) : Own f e w' base a c xs := by
  refine World.ownsRow.kept h hg ?_
  cases a with
  | none => exact .inl rfl
  | some p =>
    right
    show some p.block ≠ row
    intro hh
    exact hne p.block hh.symm p rfl rfl

theorem Own.below (h : Own f e w base a c xs) {B : Nat} (hb : Below B w w') (hB : w.heap.size ≤ B) : Own f e w' base a c xs :=
  h.kept (row := none) ⟨hb.os, hb.tape, hb.output, hb.size, fun k hk _ => hb.block k (by omega)⟩ (by simp)

theorem Own.idx (h : Own f e w base a c xs) {P : Program} {T : TypeId} (hT : P.underlying T = some (.slice (P.elem T))) (hs : ∀ w, (sizeOf (P.elem T)).run P w = .ok 1 w) :
    ∀ (w' : World) (k : Nat), k < xs.length → (Instr.indexAt T (.slice a xs.length c) (.int .i64 (k : Int))).run P w' = .ok (.pointer (some (elt a k))) w' := by
  refine idx_run hT hs fun h0 => ?_
  rcases h.shape with ⟨_, _, rfl⟩ | ⟨g, rfl, _⟩
  · simp at h0
  · exact ⟨_, _, rfl⟩

theorem Own.free (h : Own f e w base a c xs) : ∀ k, k < xs.length → w.frozen? (elt a k) = false := by
  intro k hk
  rcases h.shape with ⟨_, _, rfl⟩ | ⟨g, rfl, hb, hlt, hc, hm, cur, hg, hcs, ht⟩
  · simp at hk
  · exact frozen_of_row w g _ cur e hg

theorem Own.set (h : Own f e w base a c xs) (k : Nat) (hk : k < xs.length) (x : α) :
    Own f e (w.setCell (elt a k) (f x)) base a c (xs.set k x) ∧ w.grownBy (w.setCell (elt a k) (f x)) (a.map (·.block)) := by
  rcases h.shape with ⟨_, _, rfl⟩ | ⟨g, rfl, hb, hlt, hc, hm, cur, hg, hcs, ht⟩
  · simp at hk
  · have := World.ownsRow.stored h k (f x)
    rw [elt_some, Nat.zero_add]
    refine ⟨?_, this.2⟩
    unfold Own
    rw [List.length_set, List.map_set]
    exact this.1

end

theorem grown_below {w w' : World} (h : w.grownBy w' none) : Below w.heap.size w w' := ⟨h.os, h.tape, h.output, h.size, fun k hk => h.block k hk (by simp)⟩

theorem below_of_drewN (w : World) (n : Nat) (B : Nat) : Below B w (w.drewN n) := ⟨rfl, rfl, rfl, Nat.le_refl _, fun _ _ => rfl⟩

/-- 'make([]T, n)' at an element of one cell. -/
theorem wpl_make {P : Program} {w : World} {ops : Array Oper} {rest : List Oper} {o : Oper} {a : Act} {Q : Exit → Act → World → Prop} {t e : TypeId}
    {α : Type} {f : α → Value} {d : α} {by_ : Nat} (hT : P.underlying t = some (.slice e)) (hI : (P.info? e).map (fun i => (i.zero, i.size, i.bytes)) = some (some (f d), 1, by_))
    (h1 : (f d).oneCell' = true) (n : Nat)
    (hg : o.guard = none) (l c : Operand) (hop : o.op = Op.makeSlice t l c) (hl : a.eval l = .int .i64 (n : Int)) (hc : a.eval c = .int .i64 (n : Int))
    (hn : n ≤ 1048576 * 1024) (hby : by_ ≤ 65536)
    (hK : ∀ w', Own f e w' w.heap.size (some ⟨w.heap.size, 0, none⟩) n (List.replicate n d) → Below w.heap.size w w' → wpList P ops Q rest (a.put o.dst (.slice (some ⟨w.heap.size, 0, none⟩) n n)) w') :
    wpList P ops Q (o :: rest) a w := by
  obtain ⟨i0, hi, hz0, hz1, hz2⟩ := info_parts hI
  have hcell : (f d).cells = #[f d] := by
    revert h1; cases f d <;> simp [Value.oneCell', Value.cells]
  refine wpList_make_full _ hg _ _ t hop w.heap.size e i0 (f d) 1 hT hi hz0 hz1 _ _ _ _ n hl hc rfl rfl ?_ (by unfold maxLen; omega) (Nat.le_refl _) ?_
  · rw [hz2]
    calc by_ * n ≤ 65536 * (1048576 * 1024) := Nat.mul_le_mul hby hn
      _ ≤ _ := by omega
  · intro w' ho hgr
    refine hK w' ?_ (grown_below hgr)
    unfold Own
    rw [List.length_replicate, List.map_replicate]
    simpa [hcell, toList_madeCells_one] using ho

theorem set_fill {α : Type} (xs : List α) (d x : α) (k : Nat) (hk : k < xs.length) (hx : xs[k]? = some x) :
    (xs.take k ++ List.replicate (xs.length - k) d).set k x = xs.take (k + 1) ++ List.replicate (xs.length - (k + 1)) d := by
  rw [List.set_append_right _ _ (by simp; omega)]
  rw [List.take_add_one, hx]
  have : xs.length - k = (xs.length - (k + 1)) + 1 := by omega
  rw [this, List.replicate_succ]
  have h0 : k - (xs.take k).length = 0 := by simp; omega
  rw [h0]
  simp

/-- The slice with the list xs, in new memory. -/
def RetS {α : Type} (f : α → Value) (e : TypeId) (w : World) (xs : List α) (en : Ending) (w' : World) : Prop :=
  ∃ a c, en = .returned (.slice a xs.length c) ∧ Own f e w' w.heap.size a c xs ∧ Below w.heap.size w w'

theorem Own.cast {α : Type} {f : α → Value} {e : TypeId} {w : World} {base : Nat} {a : Option Addr} {c : Nat} {xs ys : List α} (h : Own f e w base a c xs) (he : xs = ys) : Own f e w base a c ys := he ▸ h

theorem Own.cell {α : Type} {f : α → Value} {e : TypeId} {w : World} {base : Nat} {a : Option Addr} {c : Nat} {xs : List α} (h : Own f e w base a c xs) (k : Nat) (hk : k < xs.length) : w.cell? (elt a k) = some (f xs[k]) := by
  haveI : Inhabited α := ⟨xs[k]⟩
  have := h.rd.cell k hk
  rw [this]
  simp [hk]

theorem Own.cap {α : Type} {f : α → Value} {e : TypeId} {w : World} {base : Nat} {a : Option Addr} {c : Nat} {xs : List α} (h : Own f e w base a c xs) : xs.length ≤ c ∧ c ≤ 9223372036854775807 := by
  rcases h.shape with ⟨_, rfl, rfl⟩ | ⟨g, _, _, _, hc, hm, _⟩
  · simp
  · exact ⟨hc, by simpa [maxLen] using hm⟩

/-- The block of an owned slice lies from base on. -/
theorem Own.blk {α : Type} {f : α → Value} {e : TypeId} {w : World} {base : Nat} {a : Option Addr} {c : Nat} {xs : List α} (h : Own f e w base a c xs) : ∀ p, a = some p → base ≤ p.block ∧ p.block < w.heap.size := by
  intro p hp
  rcases h.shape with ⟨rfl, _, _⟩ | ⟨g, rfl, hb, hlt, _⟩
  · simp at hp
  · simp at hp; subst hp; exact ⟨hb, hlt⟩

/-- What the laws' marks write: m k, m (k + 1), .. -/
def marks {α : Type} (m : Nat → α) (k n : Nat) : List α := (List.range n).map fun j => m (k + j)
theorem marks_length {α : Type} (m : Nat → α) (k n : Nat) : (marks m k n).length = n := by simp [marks]
theorem marks_get {α : Type} (m : Nat → α) (k n j : Nat) (h : j < n) : (marks m k n)[j]? = some (m (k + j)) := by simp [marks, h]
theorem marks_set {α : Type} (m : Nat → α) (k j : Nat) (xs : List α) (h : j < xs.length) :
    (marks m k j ++ xs.drop j).set j (m (k + j)) = marks m k (j + 1) ++ xs.drop (j + 1) := by
  rw [List.set_append_right _ _ (by simp [marks_length])]
  rw [marks_length, Nat.sub_self]
  have hd := List.drop_eq_getElem_cons h
  rw [hd, List.set_cons_zero]
  simp [marks, List.range_succ]

/-- The world behind a mark: the slice's block alone has turned. -/
def RetM {α : Type} (f : α → Value) (e : TypeId) (w : World) (base : Nat) (a : Option Addr) (c : Nat) (m : Nat → α) (k n : Nat) (en : Ending) (w' : World) : Prop :=
  en = .returned (.int .i64 ((k + n : Nat) : Int)) ∧ Own f e w' base a c (marks m k n) ∧ w.grownBy w' (a.map (·.block))

theorem grown_trans {w w1 w2 : World} {row : Option Nat} (h : w.grownBy w1 row) (h2 : w1.grownBy w2 row) : w.grownBy w2 row :=
  ⟨h2.os.trans h.os, h2.tape.trans h.tape, h2.output.trans h.output, Nat.le_trans h.size h2.size, fun k hk hn => (h2.block k (Nat.lt_of_lt_of_le hk h.size) hn).trans (h.block k hk hn)⟩

theorem take_eq_snoc {α : Type} {xs ys : List α} {k : Nat} (hx : k < xs.length) (hy : k < ys.length) (h : xs.take k = ys.take k) (he : xs[k] = ys[k]) : xs.take (k + 1) = ys.take (k + 1) := by
  rw [List.take_add_one, List.take_add_one, h]; simp [hx, hy, he]
theorem take_ne_of {α : Type} {xs ys : List α} {k : Nat} (hx : k < xs.length) (hy : k < ys.length) (he : ¬ xs[k] = ys[k]) : ¬ xs = ys := by
  rintro rfl; exact he rfl

/-- The first place at which p holds, -1 if there is none. -/
def idxOf {α : Type} (p : α → Bool) (xs : List α) : Int := match xs.findIdx? p with | some i => i | none => -1
theorem idxOf_here {α : Type} {p : α → Bool} {xs : List α} {k : Nat} {h : k < xs.length} (hx : p xs[k] = true) (hp : ∀ x ∈ xs.take k, p x = false) : idxOf p xs = k := by
  have : xs.findIdx? p = some k := by
    rw [List.findIdx?_eq_some_iff_getElem]
    refine ⟨h, hx, fun j hj => ?_⟩
    have := hp xs[j] (List.mem_take_iff_getElem.2 ⟨j, by omega, rfl⟩)
    simp [this]
  simp [idxOf, this]
theorem idxOf_none {α : Type} {p : α → Bool} {xs : List α} (hp : ∀ x ∈ xs, p x = false) : idxOf p xs = -1 := by
  have : xs.findIdx? p = none := by simpa [List.findIdx?_eq_none_iff] using hp
  simp [idxOf, this]
theorem snoc_none {α : Type} {p : α → Bool} {xs : List α} {k : Nat} (h : k < xs.length) (hp : ∀ x ∈ xs.take k, p x = false) (hx : p xs[k] = false) : ∀ x ∈ xs.take (k + 1), p x = false := by
  intro x hm
  rw [List.take_add_one, List.getElem?_eq_getElem h, List.mem_append] at hm
  rcases hm with hm | hm
  · exact hp x hm
  · have : x = xs[k] := by simpa using hm
    rw [this]; exact hx
theorem idxOf_any {α : Type} (p : α → Bool) (xs : List α) : decide (0 ≤ idxOf p xs) = xs.any p := by
  unfold idxOf
  cases h : xs.findIdx? p with
  | none =>
    rw [List.findIdx?_eq_none_iff] at h
    have : xs.any p = false := by simpa using h
    simp [this]
  | some i =>
    rw [List.findIdx?_eq_some_iff_getElem] at h
    obtain ⟨hi, hp, _⟩ := h
    have : xs.any p = true := List.any_eq_true.2 ⟨_, List.getElem_mem hi, hp⟩
    simp [this]

theorem grown_belowOwn {α : Type} {f : α → Value} {e : TypeId} {w w' : World} {base : Nat} {a : Option Addr} {c : Nat} {xs : List α} (h : Own f e w base a c xs) (hg : w.grownBy w' (a.map (·.block))) {B : Nat} (hB : B ≤ base) (hs : B ≤ w.heap.size) : Below B w w' :=
  (Below.refl B w).grown hg hs (fun k hk => by
    cases ha : a with
    | none => rw [ha] at hk; simp at hk
    | some p =>
      have := h.blk p ha
      rw [ha] at hk; simp at hk; omega)

/-- 'out = append(out, x)' at an element of one cell, out a slice of the call's own. -/
theorem wpl_append1 {P : Program} {w : World} {ops : Array Oper} {rest : List Oper} {o : Oper} {ac : Act} {Q : Exit → Act → World → Prop} {t e : TypeId}
    {α : Type} {f : α → Value} {d : α} {by_ : Nat} (hT : P.underlying t = some (.slice e)) (hI : (P.info? e).map (fun i => (i.zero, i.size, i.bytes)) = some (some (f d), 1, by_))
    (h1 : ∀ x, (f x).oneCell' = true) {base : Nat} {a : Option Addr} {c : Nat} {xs : List α} (x : α) (hown : Own f e w base a c xs)
    (hg : o.guard = none) (s y : Operand) (hop : o.op = .call { callee := .builtin .append, args := #[s, y], argTypes := #[t, t] })
    (hs : ac.eval s = .slice a xs.length c) (hy : ac.eval y = .slice (some ⟨w.heap.size, 0, none⟩) 1 1)
    (hn : xs.length ≤ 1048576 * 1024) (hby : by_ ≤ 65536) (hbase : base ≤ w.heap.size)
    (hK : ∀ a' c' w', Own f e w' base a' c' (xs ++ [x]) → w.grownBy w' (a.map (·.block)) → wpList P ops Q rest (ac.put o.dst (.slice a' (xs.length + 1) c')) w') :
    wpList P ops Q (o :: rest) ac (w.alloc (.cells #[f x] e)) := by
  obtain ⟨i0, hi, hz0, hz1, hz2⟩ := info_parts hI
  have hcells : ∀ x, (f x).cells = #[f x] := by
    intro x
    have := h1 x
    revert this; cases f x <;> simp [Value.oneCell', Value.cells]
  refine wpList_append_own _ hg s y t hop base e i0 (f d) 1 by_ hT hi hz0 hz1 hz2 (by rw [hcells]; rfl) (by decide) (.slice a xs.length c) xs.length (xs.map f) hs (World.ownsRow.alloc hown _) ⟨w.heap.size, 0, none⟩ 1 1 [f x] hy rfl ?_ ?_ ?_ ?_ ?_ ?_
  · intro j u hu
    cases j with
    | zero =>
      simp at hu
      subst hu
      have : (⟨w.heap.size, 0, none⟩ : Addr).add 0 = ⟨w.heap.size, 0, none⟩ := rfl
      rw [this, World.cell?_alloc_at _ _ _ _ rfl]; rfl
    | succ j => simp at hu
  · intro u hu; simp at hu; subst hu; exact h1 x
  · unfold maxLen; omega
  · calc (xs.length + 1) * by_ ≤ (1048576 * 1024 + 1) * 65536 := Nat.mul_le_mul (by omega) hby
      _ ≤ _ := by omega
  · simp; omega
  · intro v' w' ho hgr _
    have ho' : w'.ownsRow base e 1 v' (xs.length + 1) ((xs ++ [x]).map f) := by simpa using ho
    obtain ⟨a', c', rfl, hO⟩ := own_of_row ho' rfl
    rw [List.length_append, List.length_singleton]
    refine hK a' c' w' hO ?_
    have hga : w.grownBy (w.alloc (.cells #[f x] e)) (a.map (·.block)) := World.grownBy_alloc w _ _
    refine grown_trans hga ?_
    have : (Value.slice a xs.length c).ownBlock = a.map (·.block) := by cases a <;> rfl
    rw [this] at hgr
    exact hgr

theorem Own.alloc {α : Type} {f : α → Value} {e : TypeId} {w : World} {base : Nat} {a : Option Addr} {c : Nat} {xs : List α} (h : Own f e w base a c xs) (o : Obj) : Own f e (w.alloc o) base a c xs := World.ownsRow.alloc h o
theorem Own.drew {α : Type} {f : α → Value} {e : TypeId} {w : World} {base : Nat} {a : Option Addr} {c : Nat} {xs : List α} (h : Own f e w base a c xs) : Own f e w.drew base a c xs := h
theorem Own.drewN {α : Type} {f : α → Value} {e : TypeId} {w : World} {base : Nat} {a : Option Addr} {c : Nat} {xs : List α} (h : Own f e w base a c xs) (n : Nat) : Own f e (w.drewN n) base a c xs := h
theorem Rd.drewN {α : Type} [Inhabited α] {f : α → Value} {w : World} {a : Option Addr} {c : Nat} {xs : List α} (h : Rd f w a c xs) (n : Nat) : Rd f (w.drewN n) a c xs := h.below (below_of_drewN w n w.heap.size) (Nat.le_refl _)

/-- 'append(out, x)' within a region that draws its order. -/
theorem step_append1 {P : Program} {w : World} {ops : Array Oper} {o : Oper} {ac : Act} {K : Act → World → Prop} {Q : Exit → Act → World → Prop} {E : Prop} {t e : TypeId}
    {α : Type} {f : α → Value} {d : α} {by_ : Nat} (hT : P.underlying t = some (.slice e)) (hI : (P.info? e).map (fun i => (i.zero, i.size, i.bytes)) = some (some (f d), 1, by_))
    (h1 : ∀ x, (f x).oneCell' = true) {base : Nat} {a : Option Addr} {c : Nat} {xs : List α} (x : α) (hown : Own f e w base a c xs)
    (hg : o.guard = none) (s y : Operand) (hop : o.op = .call { callee := .builtin .append, args := #[s, y], argTypes := #[t, t] }) (B : Nat)
    (hs : ac.eval s = .slice a xs.length c) (hy : ac.eval y = .slice (some ⟨B, 0, none⟩) 1 1) (hB : w.heap[B]? = some (.cells #[f x] e (0, 0)))
    (hn : xs.length ≤ 1048576 * 1024) (hby : by_ ≤ 65536) (hbase : base ≤ w.heap.size)
    (hK : ∀ a' c' w', Own f e w' base a' c' (xs ++ [x]) → w.grownBy w' (a.map (·.block)) → K (ac.put o.dst (.slice a' (xs.length + 1) c')) w') :
    if Region.wanted o (yielded ops ac.tmps) = true then Oper.wp P o ac w K Q else E := by
  obtain ⟨i0, hi, hz0, hz1, hz2⟩ := info_parts hI
  have hcells : ∀ x, (f x).cells = #[f x] := by
    intro x
    have := h1 x
    revert this; cases f x <;> simp [Value.oneCell', Value.cells]
  refine step_append_lies _ hg s y t hop base e i0 (f d) 1 by_ hT hi hz0 hz1 hz2 (by rw [hcells]; rfl) (by decide) (.slice a xs.length c) xs.length (xs.map f) hs hown ⟨B, 0, none⟩ 1 1 [f x] hy rfl (World.news_of_block (cs := #[f x]) hB) ?_ (by decide) ?_ ?_ hbase _ rfl ?_
  · intro u hu; simp at hu; subst hu; exact h1 x
  · unfold maxLen; omega
  · calc (xs.length + 1) * by_ ≤ (1048576 * 1024 + 1) * 65536 := Nat.mul_le_mul (by omega) hby
      _ ≤ _ := by omega
  · intro g cap w' ho hgr _ _
    have ho' : Own f e w' base (some ⟨g, 0, none⟩) cap (xs ++ [x]) := by unfold Own; simpa using ho
    refine hK _ _ w' ho' ?_
    have : (Value.slice a xs.length c).ownBlock = a.map (·.block) := by cases a <;> rfl
    rw [this] at hgr
    exact hgr

theorem rd_none {α : Type} [Inhabited α] {f : α → Value} {w : World} {a : Option Addr} {c : Nat} {xs : List α} (h : Rd f w a c xs) (ha : a = none) : xs = [] ∧ c = 0 := by
  refine ⟨?_, h.nil ha⟩
  have h1 := h.cap
  rw [h.nil ha] at h1
  exact List.eq_nil_of_length_eq_zero (by omega)

/-- 'append(out, ys...)', out a slice of the call's own, ys a slice that is read. -/
theorem run_appendN {P : Program} {w : World} {t ty e : TypeId} {α : Type} [Inhabited α] {f : α → Value} {d : α} {by_ : Nat} (hT : P.underlying t = some (.slice e)) (hI : (P.info? e).map (fun i => (i.zero, i.size, i.bytes)) = some (some (f d), 1, by_))
    (h1 : ∀ x, (f x).oneCell' = true) {base : Nat} {a : Option Addr} {c : Nat} {xs : List α} (hown : Own f e w base a c xs) {a2 : Option Addr} {c2 : Nat} {ys : List α} (hr : Rd f w a2 c2 ys)
    (hn : xs.length ≤ 1048576 * 1024) (hn2 : ys.length ≤ 1048576 * 1024) (hby : by_ ≤ 32768) (hbase : base ≤ w.heap.size) :
    ∃ a' c' w', (Builtin.append_ #[t, t] ty #[.slice a xs.length c, .slice a2 ys.length c2]).run P w = .ok (.slice a' (xs.length + ys.length) c') w' ∧ Own f e w' base a' c' (xs ++ ys) ∧ w.grownBy w' (a.map (·.block)) := by
  obtain ⟨i0, hi, hz0, hz1, hz2⟩ := info_parts hI
  have hcells : ∀ x, (f x).cells = #[f x] := by
    intro x
    have := h1 x
    revert this; cases f x <;> simp [Value.oneCell', Value.cells]
  have hb0 : (Value.slice a xs.length c).ownBlock = a.map (·.block) := by cases a <;> rfl
  cases h2 : a2 with
  | none =>
    obtain ⟨hy, hc⟩ := rd_none hr h2
    subst hy; subst hc; subst h2
    have hru := run_append_owned_none (P := P) w base t ty e i0 1 hT hi (.slice a xs.length c) xs.length (xs.map f) hown
    exact ⟨a, c, w, hru, by simpa using hown, World.grownBy.refl _ _⟩
  | some p =>
    subst h2
    obtain ⟨v', w', h3, h4, h5, _⟩ := run_append_own (P := P) w base t ty e i0 (f d) 1 by_ hT hi hz0 hz1 hz2 (by rw [hcells]; rfl) (by decide) (.slice a xs.length c) xs.length (xs.map f) hown p ys.length c2 (ys.map f) (by simp)
      (by
        intro j u hu
        have hj : j < ys.length := by
          have := (List.getElem?_eq_some_iff.1 hu).1; simpa using this
        obtain ⟨b, o, e1, _⟩ := hr.here (by omega)
        have e2 : p = ⟨b, o, none⟩ := by simpa using e1
        subst e2
        rw [add_elt, ← elt_some, hr.cell j hj]
        rw [List.getElem?_map, List.getElem?_eq_getElem hj] at hu
        simp at hu
        simp [hj, hu])
      (by intro u hu; simp at hu; obtain ⟨x, _, rfl⟩ := hu; exact h1 x) (by unfold maxLen; omega)
      (by
        calc (xs.length + ys.length) * by_ ≤ (1048576 * 1024 + 1048576 * 1024) * 32768 := Nat.mul_le_mul (by omega) hby
          _ ≤ _ := by omega) hbase
    have h4' : w'.ownsRow base e 1 v' (xs.length + ys.length) ((xs ++ ys).map f) := by simpa using h4
    obtain ⟨a', c', rfl, hO⟩ := own_of_row h4' rfl
    rw [hb0] at h5
    refine ⟨a', c', w', ?_, hO, h5⟩
    rw [h3, List.length_append]

theorem wpl_appendN {P : Program} {w : World} {ops : Array Oper} {rest : List Oper} {o : Oper} {ac : Act} {Q : Exit → Act → World → Prop} {t e : TypeId}
    {α : Type} [Inhabited α] {f : α → Value} {d : α} {by_ : Nat} (hT : P.underlying t = some (.slice e)) (hI : (P.info? e).map (fun i => (i.zero, i.size, i.bytes)) = some (some (f d), 1, by_))
    (h1 : ∀ x, (f x).oneCell' = true) {base : Nat} {a : Option Addr} {c : Nat} {xs : List α} (hown : Own f e w base a c xs) {a2 : Option Addr} {c2 : Nat} {ys : List α} (hr : Rd f w a2 c2 ys)
    (hg : o.guard = none) (s y : Operand) (hop : o.op = .call { callee := .builtin .append, args := #[s, y], argTypes := #[t, t] })
    (hs : ac.eval s = .slice a xs.length c) (hy : ac.eval y = .slice a2 ys.length c2)
    (hn : xs.length ≤ 1048576 * 1024) (hn2 : ys.length ≤ 1048576 * 1024) (hby : by_ ≤ 32768) (hbase : base ≤ w.heap.size)
    (hK : ∀ a' c' w', Own f e w' base a' c' (xs ++ ys) → w.grownBy w' (a.map (·.block)) → wpList P ops Q rest (ac.put o.dst (.slice a' (xs.length + ys.length) c')) w') :
    wpList P ops Q (o :: rest) ac w := by
  obtain ⟨a', c', w', hru, hO, hG⟩ := run_appendN (P := P) (t := t) (ty := o.type) hT hI h1 hown hr hn hn2 hby hbase
  refine wpList_plain hg fun K hK' => ?_
  unfold Oper.wp execOp
  simp only [hop, resolve, invoke, builtin, Sem.run_bind, Sem.run_pure, Result.andThen_ok, List.map_toArray, List.map_cons, List.map_nil, hs, hy, hru]
  exact hK' _ _ (hK a' c' w' hO hG)

/-- A pair of a slice in new memory and a bool. -/
def RetSB {α : Type} (f : α → Value) (e : TypeId) (w : World) (xs : List α) (b : Bool) (en : Ending) (w' : World) : Prop :=
  ∃ a c, en = .returned (.tuple #[.slice a xs.length c, .bool b]) ∧ Own f e w' w.heap.size a c xs ∧ Below w.heap.size w w'

theorem own_nil {α : Type} (f : α → Value) (e : TypeId) (w : World) (base : Nat) : Own f e w base none 0 ([] : List α) := World.ownsRow_nil _ _ _ _

theorem retSB_no {α : Type} {f : α → Value} {e : TypeId} {w w' : World} (hb : Below w.heap.size w w') : RetSB f e w ([] : List α) false (.returned (.tuple #[.slice none 0 0, .bool false])) w' :=
  ⟨none, 0, rfl, own_nil _ _ _ _, hb⟩

theorem Own.keptBlk {α : Type} {f : α → Value} {e : TypeId} {w w' : World} {base : Nat} {a a2 : Option Addr} {c : Nat} {xs : List α} (h : Own f e w base a c xs) (hg : w.grownBy w' (a2.map (·.block))) {lo hi lo2 hi2 : Nat}
    (h1 : ∀ p, a = some p → lo ≤ p.block ∧ p.block < hi) (h2 : ∀ p, a2 = some p → lo2 ≤ p.block ∧ p.block < hi2) (hd : hi ≤ lo2 ∨ hi2 ≤ lo) : Own f e w' base a c xs := by
  refine h.kept hg ?_
  intro g hgr p hp
  cases h3 : a2 with
  | none => rw [h3] at hgr; simp at hgr
  | some q =>
    rw [h3] at hgr
    simp at hgr
    have e1 := h1 p hp
    have e2 := h2 q h3
    omega

theorem own_empty {α : Type} {f : α → Value} {e : TypeId} (w : World) {by_ : Nat} (base : Nat) (hb : base ≤ w.heap.size) (hby : by_ = 0) :
    Own f e (w.alloc (.cells #[] e)) base (some ⟨w.heap.size, 0, none⟩) by_ ([] : List α) := by
  subst hby
  exact World.ownsRow_made w #[] 0 hb (by unfold maxLen; omega) rfl

theorem run_store_fl {P : Program} : ∀ (w : World) (a : Addr) (k : FloatKind) (b : Nat) (m : Mode), (store a (.float k b) m).run P w = stored P w a (.float k b) m := fun w a k b m => run_store P w a _ m rfl
theorem run_store_cx {P : Program} : ∀ (w : World) (a : Addr) (k : FloatKind) (x y : Nat) (m : Mode), (store a (.complex k x y) m).run P w = stored P w a (.complex k x y) m := fun w a k x y m => run_store P w a _ m rfl

theorem bd_i64 {n : Int} (h : (Lit.int .i64 n).wf = true) : -9223372036854775808 ≤ n ∧ n ≤ 9223372036854775807 := by
  simp [Lit.wf, IntKind.min, IntKind.max, IntKind.signed, IntKind.bits] at h
  omega

theorem ret_bool {a b : Bool} (h : a = b) : Ending.returned (.bool a) = .returned (.bool b) := by rw [h]
theorem ret_int {k : IntKind} {a b : Int} (h : a = b) : Ending.returned (.int k a) = .returned (.int k b) := by rw [h]

end Go.Proofs.Ytfecdmenliohhaa

namespace Go.Proofs.Ytfecdmenliohhaa
open Go.RowKit

theorem grown_setCell (w : World) (a : Addr) (u : Value) : w.grownBy (w.setCell a u) (some a.block) := by
  refine ⟨?_, ?_, ?_, ?_, fun k hk hne => ?_⟩
  · unfold World.setCell; split <;> (try split) <;> rfl
  · unfold World.setCell; split <;> (try split) <;> rfl
  · unfold World.setCell; split <;> (try split) <;> rfl
  · simp
  · have hne' : ¬ a.block = k := fun h => hne (by rw [h])
    unfold World.setCell
    split <;> (try split) <;> simp [Array.getElem?_modify, hne']

theorem Own.setFar {α : Type} {f : α → Value} {e : TypeId} {w : World} {base : Nat} {a : Option Addr} {c : Nat} {xs : List α} (h : Own f e w base a c xs) (p : Addr) (u : Value) (hp : p.block < base) : Own f e (w.setCell p u) base a c xs :=
  h.kept (grown_setCell w p u) (by
    intro g hg q hq
    have := h.blk q hq
    simp at hg
    omega)

theorem Own.setOff {α : Type} {f : α → Value} {e : TypeId} {w : World} {base : Nat} {a : Option Addr} {c : Nat} {xs : List α} (h : Own f e w base a c xs) (p : Addr) (u : Value) (hp : ∀ q, a = some q → q.block ≠ p.block) : Own f e (w.setCell p u) base a c xs :=
  h.kept (grown_setCell w p u) (by
    intro g hg q hq
    simp at hg
    subst hg
    exact hp q hq)

theorem own_lit {α : Type} {f : α → Value} {e : TypeId} (w : World) (base : Nat) (xs : List α) (hb : base ≤ w.heap.size) (hm : xs.length ≤ maxLen) :
    Own f e (w.alloc (.cells (xs.map f).toArray e)) base (some ⟨w.heap.size, 0, none⟩) xs.length xs := by
  refine ⟨by simp, .inr ⟨w.heap.size, xs.length, (xs.map f).toArray, rfl, hb, heap_alloc_new w _, Nat.le_refl _, hm, by simp, by simp; exact List.take_of_length_le (by simp)⟩⟩

def Sep (a b : Option Addr) : Prop := ∀ p q, a = some p → b = some q → p.block ≠ q.block
theorem Own.keptS {α : Type} {f : α → Value} {e : TypeId} {w w' : World} {base : Nat} {a a2 : Option Addr} {c : Nat} {xs : List α} (h : Own f e w base a c xs) (hg : w.grownBy w' (a2.map (·.block))) (hs : Sep a a2) : Own f e w' base a c xs := by
  refine h.kept hg ?_
  intro g hgr p hp
  cases h3 : a2 with
  | none => rw [h3] at hgr; simp at hgr
  | some q =>
    rw [h3] at hgr
    simp at hgr
    have := hs p q hp h3
    omega
theorem own_block0 {α : Type} {f : α → Value} {e : TypeId} {w : World} {base k : Nat} (h : w.heap[k]? = some (.cells #[] e (0, 0))) (hb : base ≤ k) : Own f e w base (some ⟨k, 0, none⟩) 0 ([] : List α) := by
  unfold Own
  refine ⟨rfl, .inr ⟨k, 0, #[], rfl, hb, h, Nat.le_refl _, by unfold maxLen; omega, rfl, rfl⟩⟩

theorem heap_new' {w : World} {o : Obj} {k : Nat} (h : k = w.heap.size) : (w.alloc o).heap[k]? = some o := by subst h; exact heap_alloc_new w o
theorem heap_old' {w : World} {o o' : Obj} {k : Nat} (h : k < w.heap.size) (hk : w.heap[k]? = some o') : (w.alloc o).heap[k]? = some o' := by rw [heap_alloc_old w o h]; exact hk
theorem heap_drew' {w : World} {o : Obj} {k : Nat} (h : w.heap[k]? = some o) : w.drew.heap[k]? = some o := h

theorem k_alloc {w : World} {a : Addr} {v : Value} {o : Obj} (h : w.cell? a = some v) : (w.alloc o).cell? a = some v := by
  rw [World.cell?_alloc_some w a o (by simp [h])]; exact h
theorem k_drew {w : World} {a : Addr} {v : Value} (h : w.cell? a = some v) : w.drew.cell? a = some v := h
theorem k_set {w : World} {p a : Addr} {u v : Value} (hne : p.block ≠ a.block) (h : w.cell? a = some v) : (w.setCell p u).cell? a = some v := by
  rw [World.cell?_setCell_far _ _ _ _ hne]; exact h
theorem k_below {w w' : World} {b o : Nat} {v : Value} {B : Nat} (hb : Below B w w') (hB : w.heap.size ≤ B) (h : w.cell? ⟨b, o, none⟩ = some v) : w'.cell? ⟨b, o, none⟩ = some v := by
  have := World.block_lt_of_cell? w _ h
  rw [hb.cell (by simp; simp at this; omega)]; exact h

theorem k_at {w w' : World} {a : Addr} {v : Value} (hb : Below w.heap.size w w') (h : w.cell? a = some v) : w'.cell? a = some v := by
  have := World.block_lt_of_cell? w _ h
  rw [hb.cell this]; exact h

/-- The slice's end from k on. -/
theorem Rd.cut {α : Type} [Inhabited α] {f : α → Value} {w : World} {a : Option Addr} {c : Nat} {xs : List α} (h : Rd f w a c xs) {k : Nat} (hk : k ≤ xs.length) :
    Rd f w (if c = k then a else a.map (·.add k)) (c - k) (xs.drop k) := by
  have hcap := h.cap
  have hmax := h.max
  refine ⟨by simp; omega, by omega, fun hn => ?_, fun h0 => ?_, fun j hj => ?_⟩
  · split at hn
    · have := h.nil hn; omega
    · cases ha : a with
      | none => have := h.nil ha; omega
      | some p => rw [ha] at hn; simp at hn
  · have hl : k < xs.length := by simp at h0; omega
    obtain ⟨b, o, rfl, hlt⟩ := h.here (by omega)
    rw [if_neg (by omega)]
    exact ⟨b, o + k, by simp [add_elt], hlt⟩
  · have hl : k + j < xs.length := by simp at hj; omega
    obtain ⟨b, o, rfl, hlt⟩ := h.here (by omega)
    rw [if_neg (by omega)]
    have := h.cell (k + j) hl
    simp only [Option.map_some, add_elt, elt_some, List.getElem?_drop] at this ⊢
    rw [← this, Nat.add_assoc]

/-- 's[k:]', whatever the capacity is. -/
theorem Rd.cutRun {α : Type} [Inhabited α] {f : α → Value} {w : World} {a : Option Addr} {c : Nat} {xs : List α} (h : Rd f w a c xs) {P : Program} {T : TypeId} (hT : P.underlying T = some (.slice (P.elem T))) (hs : ∀ w, (sizeOf (P.elem T)).run P w = .ok 1 w) {k : Nat} (hk : k ≤ xs.length) :
    ∃ a2 c2, (∀ w' : World, (Instr.sliceAt T (.slice a xs.length c) (some (.int .i64 (k : Int))) none none).run P w' = .ok (.slice a2 (xs.drop k).length c2) w') ∧ ∀ w', Rd f w' a c xs → Rd f w' a2 c2 (xs.drop k) := by
  refine ⟨_, _, fun w' => ?_, fun w' hr => hr.cut hk⟩
  rw [run_sliceAt_slice (h := hT), run_slice_l (ht := hT) (h0 := by omega) (h1 := by omega), hs]
  simp [Result.andThen, sliced]

/-- The slice's beginning. -/
theorem Rd.take {α : Type} [Inhabited α] {f : α → Value} {w : World} {a : Option Addr} {c : Nat} {xs : List α} (h : Rd f w a c xs) (n : Nat) : Rd f w a c (xs.take n) := by
  refine ⟨?_, h.max, h.nil, fun h0 => h.here (by simp at h0; omega), fun k hk => ?_⟩
  · have := h.cap; simp; omega
  · simp at hk
    rw [h.cell k (by omega), List.getElem?_take, if_pos (by omega)]

/-- 's[lo:hi]', whatever the capacity is. -/
theorem Rd.midRun {α : Type} [Inhabited α] {f : α → Value} {w : World} {a : Option Addr} {c : Nat} {xs : List α} (h : Rd f w a c xs) {P : Program} {T : TypeId} (hT : P.underlying T = some (.slice (P.elem T))) (hs : ∀ w, (sizeOf (P.elem T)).run P w = .ok 1 w) {lo hi : Nat} (hl : lo ≤ hi) (hk : hi ≤ xs.length) :
    ∃ a2 c2, (∀ w' : World, (Instr.sliceAt T (.slice a xs.length c) (some (.int .i64 (lo : Int))) (some (.int .i64 (hi : Int))) none).run P w' = .ok (.slice a2 (hi - lo) c2) w') ∧ ∀ w', Rd f w' a c xs → Rd f w' a2 c2 ((xs.take hi).drop lo) := by
  have hcap := h.cap
  refine ⟨_, _, fun w' => ?_, fun w' hr => (hr.take hi).cut (by simp; omega)⟩
  rw [run_sliceAt_slice (h := hT), run_slice_lh (ht := hT) (h0 := by omega) (h1 := by omega) (h2 := by omega), hs]
  simp [Result.andThen, sliced]

/-- 'append(out, x)' within a region that draws its order: where the new slice lies is told. -/
theorem step_append1w {P : Program} {w : World} {ops : Array Oper} {o : Oper} {ac : Act} {K : Act → World → Prop} {Q : Exit → Act → World → Prop} {E : Prop} {t e : TypeId}
    {α : Type} {f : α → Value} {d : α} {by_ : Nat} (hT : P.underlying t = some (.slice e)) (hI : (P.info? e).map (fun i => (i.zero, i.size, i.bytes)) = some (some (f d), 1, by_))
    (h1 : ∀ x, (f x).oneCell' = true) {base : Nat} {a : Option Addr} {c : Nat} {xs : List α} (x : α) (hown : Own f e w base a c xs)
    (hg : o.guard = none) (s y : Operand) (hop : o.op = .call { callee := .builtin .append, args := #[s, y], argTypes := #[t, t] }) (B : Nat)
    (hs : ac.eval s = .slice a xs.length c) (hy : ac.eval y = .slice (some ⟨B, 0, none⟩) 1 1) (hB : w.heap[B]? = some (.cells #[f x] e (0, 0)))
    (hn : xs.length ≤ 1048576 * 1024) (hby : by_ ≤ 65536) (hbase : base ≤ w.heap.size)
    (hK : ∀ a' c' w', Own f e w' base a' c' (xs ++ [x]) → w.grownBy w' (a.map (·.block)) → (∀ p, a' = some p → (∃ q, a = some q ∧ q.block = p.block) ∨ p.block = w.heap.size) → K (ac.put o.dst (.slice a' (xs.length + 1) c')) w') :
    if Region.wanted o (yielded ops ac.tmps) = true then Oper.wp P o ac w K Q else E := by
  obtain ⟨i0, hi, hz0, hz1, hz2⟩ := info_parts hI
  have hcells : ∀ x, (f x).cells = #[f x] := by
    intro x
    have := h1 x
    revert this; cases f x <;> simp [Value.oneCell', Value.cells]
  refine step_append_lies _ hg s y t hop base e i0 (f d) 1 by_ hT hi hz0 hz1 hz2 (by rw [hcells]; rfl) (by decide) (.slice a xs.length c) xs.length (xs.map f) hs hown ⟨B, 0, none⟩ 1 1 [f x] hy rfl (World.news_of_block (cs := #[f x]) hB) ?_ (by decide) ?_ ?_ hbase _ rfl ?_
  · intro u hu; simp at hu; subst hu; exact h1 x
  · unfold maxLen; omega
  · calc (xs.length + 1) * by_ ≤ (1048576 * 1024 + 1) * 65536 := Nat.mul_le_mul (by omega) hby
      _ ≤ _ := by omega
  · intro g cap w' ho hgr hat _
    have ho' : Own f e w' base (some ⟨g, 0, none⟩) cap (xs ++ [x]) := by unfold Own; simpa using ho
    have hob : (Value.slice a xs.length c).ownBlock = a.map (·.block) := by cases a <;> rfl
    rw [hob] at hgr hat
    refine hK _ _ w' ho' hgr ?_
    intro p hp
    simp at hp
    subst hp
    rcases hat with h | h
    · left
      cases ha : a with
      | none => rw [ha] at h; simp at h
      | some q => rw [ha] at h; simp at h; exact ⟨q, rfl, h⟩
    · exact .inr h

theorem idxOf_findIdx {α : Type} (p : α → Bool) (xs : List α) : (idxOf p xs = (xs.findIdx p : Int) ∧ xs.findIdx p < xs.length) ∨ (idxOf p xs = -1 ∧ xs.findIdx p = xs.length) := by
  unfold idxOf
  cases h : xs.findIdx? p with
  | none => exact .inr ⟨rfl, List.findIdx?_eq_none_iff_findIdx_eq.1 h⟩
  | some i =>
    obtain ⟨h1, h2⟩ := List.findIdx?_eq_some_iff_findIdx_eq.1 h
    subst h2
    exact .inl ⟨rfl, h1⟩

end Go.Proofs.Ytfecdmenliohhaa

namespace Go.Proofs.Ytfecdmenliohhaa
open Go.RowKit

/-- Block k holds cs. -/
def Blk (w : World) (k : Nat) (cs : Array Value) (T : TypeId) : Prop := w.heap[k]? = some (.cells cs T (0, 0))

section
variable {w w' : World} {k : Nat} {cs : Array Value} {T : TypeId}
theorem Blk.lt (h : Blk w k cs T) : k < w.heap.size := (Array.getElem?_eq_some_iff.1 h).1
theorem Blk.cell (h : Blk w k cs T) {i : Nat} {v : Value} (hv : cs[i]? = some v) : w.cell? ⟨k, i, none⟩ = some v := by
  rw [cell_of_row w k i cs T (0, 0) h]; exact hv
theorem Blk.free (h : Blk w k cs T) (i : Nat) : w.frozen? ⟨k, i, none⟩ = false := frozen_of_row w k i cs T h
theorem Blk.new (w : World) (cs : Array Value) (T : TypeId) : Blk (w.alloc (.cells cs T)) w.heap.size cs T := heap_alloc_new w _
theorem Blk.new' {w : World} {cs : Array Value} {T : TypeId} {k : Nat} (h : k = w.heap.size) : Blk (w.alloc (.cells cs T)) k cs T := heap_new' h
theorem Blk.alloc (h : Blk w k cs T) (o : Obj) : Blk (w.alloc o) k cs T := heap_old' h.lt h
theorem Blk.below (h : Blk w k cs T) {B : Nat} (hb : Below B w w') (hB : w.heap.size ≤ B) : Blk w' k cs T := by
  have := h.lt
  unfold Blk at *
  rw [hb.block k (by omega)]; exact h
theorem Blk.drewN (h : Blk w k cs T) (n : Nat) : Blk (w.drewN n) k cs T := h
theorem Blk.drew (h : Blk w k cs T) : Blk w.drew k cs T := h
theorem Blk.far (h : Blk w k cs T) {p : Addr} (hp : p.block ≠ k) (v : Value) : Blk (w.setCell p v) k cs T := by
  have hg := (grown_setCell w p v).block k h.lt (by simp; exact fun e => hp e.symm)
  unfold Blk at *
  rw [hg]; exact h
theorem Blk.set (h : Blk w k cs T) (i : Nat) (v : Value) : Blk (w.setCell ⟨k, i, none⟩ v) k (cs.setIfInBounds i v) T := by
  unfold Blk at *
  unfold World.setCell
  simp [Array.getElem?_modify, h]
theorem Blk.grown (h : Blk w k cs T) {row : Option Nat} (hg : w.grownBy w' row) (hne : some k ≠ row) : Blk w' k cs T := by
  unfold Blk at *
  rw [hg.block k (Array.getElem?_eq_some_iff.1 h).1 hne]; exact h
end

end Go.Proofs.Ytfecdmenliohhaa

namespace Go.Proofs.Ytfecdmenliohhaa
open Go.RowKit

/-- All worlds that have only grown since w. -/
theorem calm_family (w : World) : ∃ (ι : Type) (_ : Nonempty ι) (G : ι → World), (∀ i, Below w.heap.size w (G i)) ∧ ∀ w', Below w.heap.size w w' → ∃ i, w' = G i :=
  ⟨{w' : World // Below w.heap.size w w'}, ⟨⟨w, Below.refl _ _⟩⟩, Subtype.val, fun i => i.2, fun w' h => ⟨⟨w', h⟩, rfl⟩⟩

theorem wp_region_calm {P : Program} {ι : Type} {G : ι → World} {id : Nat} {Q : Exit → Act → World → Prop} {a : Act} {w : World} {l : List Oper} (hm : P.follows .mixedOrders = true) (hB : Region.lexB .any l.toArray = true)
    (hS : ∀ w', Below w.heap.size w w' → ∃ i, w' = G i)
    (h : wpQuiet P l.toArray (fun w' => ∃ i, w' = G i) (fun a' => ∀ w', (∃ i, w' = G i) → Q .normal a' w') l a) : (Code.region id l.toArray true).wp P Q a w :=
  wp_region_quiet (C := fun w' => ∃ i, w' = G i) hm hB (hS _ (below_of_drewN w 1 _)) (by simpa using h)

theorem calm_call {P : Program} {f : FuncId} {args : Array Value} {w : World} {ι : Type} {G : ι → World} (hG : ∀ i, Below w.heap.size w (G i)) (hS : ∀ w', Below w.heap.size w w' → ∃ i, w' = G i) {i : ι} {v : Value}
    (h : Calls P f args (G i) fun e w' => e = .returned v ∧ Below (G i).heap.size (G i) w') : Calls P f args (G i) fun e w'' => e = .returned v ∧ ∃ j, w'' = G j :=
  h.mono fun _ _ ⟨he, hb⟩ => ⟨he, hS _ ((hG i).trans (hb.mono (hG i).size))⟩
theorem calm_same {P : Program} {f : FuncId} {args : Array Value} {ι : Type} {G : ι → World} {i : ι} {v : Value}
    (h : Calls P f args (G i) fun e w' => e = .returned v ∧ G i = w') : Calls P f args (G i) fun e w'' => e = .returned v ∧ ∃ j, w'' = G j :=
  h.mono fun _ _ ⟨he, hb⟩ => ⟨he, i, hb.symm⟩
theorem calm_drew {P : Program} {f : FuncId} {args : Array Value} {w : World} {ι : Type} {G : ι → World} (hG : ∀ i, Below w.heap.size w (G i)) (hS : ∀ w', Below w.heap.size w w' → ∃ i, w' = G i) {i : ι} {v : Value}
    (h : Calls P f args (G i) fun e w' => e = .returned v ∧ ∃ n, w' = (G i).drewN n) : Calls P f args (G i) fun e w'' => e = .returned v ∧ ∃ j, w'' = G j :=
  calm_call hG hS (h.mono fun _ _ ⟨he, n, hn⟩ => ⟨he, by rw [hn]; exact below_of_drewN _ _ _⟩)

/-- A drawn region of which all operations but the last few only read: the world behind the draw under a name of its own. -/
theorem wp_tail {P : Program} {id : Nat} {Q : Exit → Act → World → Prop} {a : Act} {w : World} {l : List Oper} (wd : World) (hd : wd = w.drew) (n : Nat) (hm : P.follows .mixedOrders = true) (hB : Region.lexTailB .any l.toArray n = true)
    (h : wpStill P l.toArray wd (fun a' => wpList P l.toArray Q (l.drop n) a' wd) (l.take n) a) : (Code.region id l.toArray true).wp P Q a w := by
  subst hd
  exact wp_region_still_tail n hm hB h

end Go.Proofs.Ytfecdmenliohhaa
