/- A slice's end; what stands in other blocks; the first index. -/
import Derived.Test.YtockifchghllhaaDoorLib
namespace Go.Proofs.YtockifchghllhaaDoor
open Go.RowKit

theorem grown_setCell (w : World) (a : Addr) (u : Value) : w.grownBy (w.setCell a u) (some a.block) := by
  refine ⟨?_, ?_, ?_, ?_, fun k hk hne => ?_⟩
  · unfold World.setCell; split <;> (try split) <;> rfl
  · unfold World.setCell; split <;> (try split) <;> rfl
  · unfold World.setCell; split <;> (try split) <;> rfl
  · simp
  · have hne' : ¬ a.block = k := fun h => hne (by rw [h])
    unfold World.setCell
    split <;> (try split) <;> simp [Array.getElem?_modify, hne']

theorem Own.setFar {α : Type} {f : α → Value} {e : TypeId} {w : World} {base : Nat} {a : Option Addr} {c : Nat} {xs : List α} (h : Own f e w base a c xs) (p : Addr) (u : Value) (hp : p.block < base) : Own f e (w.setCell p u) base a c xs :=
  h.kept (grown_setCell w p u) (by
    intro g hg q hq
    have := h.blk q hq
    simp at hg
    omega)

theorem Own.setOff {α : Type} {f : α → Value} {e : TypeId} {w : World} {base : Nat} {a : Option Addr} {c : Nat} {xs : List α} (h : Own f e w base a c xs) (p : Addr) (u : Value) (hp : ∀ q, a = some q → q.block ≠ p.block) : Own f e (w.setCell p u) base a c xs :=
  h.kept (grown_setCell w p u) (by
    intro g hg q hq
    simp at hg
    subst hg
    exact hp q hq)

theorem own_lit {α : Type} {f : α → Value} {e : TypeId} (w : World) (base : Nat) (xs : List α) (hb : base ≤ w.heap.size) (hm : xs.length ≤ maxLen) :
    Own f e (w.alloc (.cells (xs.map f).toArray e)) base (some ⟨w.heap.size, 0, none⟩) xs.length xs := by
  refine ⟨by simp, .inr ⟨w.heap.size, xs.length, (xs.map f).toArray, rfl, hb, heap_alloc_new w _, Nat.le_refl _, hm, by simp, by simp; exact List.take_of_length_le (by simp)⟩⟩

def Sep (a b : Option Addr) : Prop := ∀ p q, a = some p → b = some q → p.block ≠ q.block
theorem Own.keptS {α : Type} {f : α → Value} {e : TypeId} {w w' : World} {base : Nat} {a a2 : Option Addr} {c : Nat} {xs : List α} (h : Own f e w base a c xs) (hg : w.grownBy w' (a2.map (·.block))) (hs : Sep a a2) : Own f e w' base a c xs := by
  refine h.kept hg ?_
  intro g hgr p hp
  cases h3 : a2 with
  | none => rw [h3] at hgr; simp at hgr
  | some q =>
    rw [h3] at hgr
    simp at hgr
    have := hs p q hp h3
    omega
theorem own_block0 {α : Type} {f : α → Value} {e : TypeId} {w : World} {base k : Nat} (h : w.heap[k]? = some (.cells #[] e (0, 0))) (hb : base ≤ k) : Own f e w base (some ⟨k, 0, none⟩) 0 ([] : List α) := by
  unfold Own
  refine ⟨rfl, .inr ⟨k, 0, #[], rfl, hb, h, Nat.le_refl _, by unfold maxLen; omega, rfl, rfl⟩⟩

theorem heap_new' {w : World} {o : Obj} {k : Nat} (h : k = w.heap.size) : (w.alloc o).heap[k]? = some o := by subst h; exact heap_alloc_new w o
theorem heap_old' {w : World} {o o' : Obj} {k : Nat} (h : k < w.heap.size) (hk : w.heap[k]? = some o') : (w.alloc o).heap[k]? = some o' := by rw [heap_alloc_old w o h]; exact hk
theorem heap_drew' {w : World} {o : Obj} {k : Nat} (h : w.heap[k]? = some o) : w.drew.heap[k]? = some o := h

theorem k_alloc {w : World} {a : Addr} {v : Value} {o : Obj} (h : w.cell? a = some v) : (w.alloc o).cell? a = some v := by
  rw [World.cell?_alloc_some w a o (by simp [h])]; exact h
theorem k_drew {w : World} {a : Addr} {v : Value} (h : w.cell? a = some v) : w.drew.cell? a = some v := h
theorem k_set {w : World} {p a : Addr} {u v : Value} (hne : p.block ≠ a.block) (h : w.cell? a = some v) : (w.setCell p u).cell? a = some v := by
  rw [World.cell?_setCell_far _ _ _ _ hne]; exact h
theorem k_below {w w' : World} {b o : Nat} {v : Value} {B : Nat} (hb : Below B w w') (hB : w.heap.size ≤ B) (h : w.cell? ⟨b, o, none⟩ = some v) : w'.cell? ⟨b, o, none⟩ = some v := by
  have := World.block_lt_of_cell? w _ h
  rw [hb.cell (by simp; simp at this; omega)]; exact h

theorem k_at {w w' : World} {a : Addr} {v : Value} (hb : Below w.heap.size w w') (h : w.cell? a = some v) : w'.cell? a = some v := by
  have := World.block_lt_of_cell? w _ h
  rw [hb.cell this]; exact h

/-- The slice's end from k on. -/
theorem Rd.cut {α : Type} [Inhabited α] {f : α → Value} {w : World} {a : Option Addr} {c : Nat} {xs : List α} (h : Rd f w a c xs) {k : Nat} (hk : k ≤ xs.length) :
    Rd f w (if c = k then a else a.map (·.add k)) (c - k) (xs.drop k) := by
  have hcap := h.cap
  have hmax := h.max
  refine ⟨by simp; omega, by omega, fun hn => ?_, fun h0 => ?_, fun j hj => ?_⟩
  · split at hn
    · have := h.nil hn; omega
    · cases ha : a with
      | none => have := h.nil ha; omega
      | some p => rw [ha] at hn; simp at hn
  · have hl : k < xs.length := by simp at h0; omega
    obtain ⟨b, o, rfl, hlt⟩ := h.here (by omega)
    rw [if_neg (by omega)]
    exact ⟨b, o + k, by simp [add_elt], hlt⟩
  · have hl : k + j < xs.length := by simp at hj; omega
    obtain ⟨b, o, rfl, hlt⟩ := h.here (by omega)
    rw [if_neg (by omega)]
    have := h.cell (k + j) hl
    simp only [Option.map_some, add_elt, elt_some, List.getElem?_drop] at this ⊢
    rw [← this, Nat.add_assoc]

/-- 's[k:]', whatever the capacity is. -/
theorem Rd.cutRun {α : Type} [Inhabited α] {f : α → Value} {w : World} {a : Option Addr} {c : Nat} {xs : List α} (h : Rd f w a c xs) {P : Program} {T : TypeId} (hT : P.underlying T = some (.slice (P.elem T))) (hs : ∀ w, (sizeOf (P.elem T)).run P w = .ok 1 w) {k : Nat} (hk : k ≤ xs.length) :
    ∃ a2 c2, (∀ w' : World, (Instr.sliceAt T (.slice a xs.length c) (some (.int .i64 (k : Int))) none none).run P w' = .ok (.slice a2 (xs.drop k).length c2) w') ∧ ∀ w', Rd f w' a c xs → Rd f w' a2 c2 (xs.drop k) := by
  refine ⟨_, _, fun w' => ?_, fun w' hr => hr.cut hk⟩
  rw [run_sliceAt_slice (h := hT), run_slice_l (ht := hT) (h0 := by omega) (h1 := by omega), hs]
  simp [Result.andThen, sliced]

/-- The slice's beginning. -/
theorem Rd.take {α : Type} [Inhabited α] {f : α → Value} {w : World} {a : Option Addr} {c : Nat} {xs : List α} (h : Rd f w a c xs) (n : Nat) : Rd f w a c (xs.take n) := by
  refine ⟨?_, h.max, h.nil, fun h0 => h.here (by simp at h0; omega), fun k hk => ?_⟩
  · have := h.cap; simp; omega
  · simp at hk
    rw [h.cell k (by omega), List.getElem?_take, if_pos (by omega)]

/-- 's[lo:hi]', whatever the capacity is. -/
theorem Rd.midRun {α : Type} [Inhabited α] {f : α → Value} {w : World} {a : Option Addr} {c : Nat} {xs : List α} (h : Rd f w a c xs) {P : Program} {T : TypeId} (hT : P.underlying T = some (.slice (P.elem T))) (hs : ∀ w, (sizeOf (P.elem T)).run P w = .ok 1 w) {lo hi : Nat} (hl : lo ≤ hi) (hk : hi ≤ xs.length) :
    ∃ a2 c2, (∀ w' : World, (Instr.sliceAt T (.slice a xs.length c) (some (.int .i64 (lo : Int))) (some (.int .i64 (hi : Int))) none).run P w' = .ok (.slice a2 (hi - lo) c2) w') ∧ ∀ w', Rd f w' a c xs → Rd f w' a2 c2 ((xs.take hi).drop lo) := by
  have hcap := h.cap
  refine ⟨_, _, fun w' => ?_, fun w' hr => (hr.take hi).cut (by simp; omega)⟩
  rw [run_sliceAt_slice (h := hT), run_slice_lh (ht := hT) (h0 := by omega) (h1 := by omega) (h2 := by omega), hs]
  simp [Result.andThen, sliced]

/-- 'append(out, x)' within a region that draws its order: where the new slice lies is told. -/
theorem step_append1w {P : Program} {w : World} {ops : Array Oper} {o : Oper} {ac : Act} {K : Act → World → Prop} {Q : Exit → Act → World → Prop} {E : Prop} {t e : TypeId}
    {α : Type} {f : α → Value} {d : α} {by_ : Nat} (hT : P.underlying t = some (.slice e)) (hI : (P.info? e).map (fun i => (i.zero, i.size, i.bytes)) = some (some (f d), 1, by_))
    (h1 : ∀ x, (f x).oneCell' = true) {base : Nat} {a : Option Addr} {c : Nat} {xs : List α} (x : α) (hown : Own f e w base a c xs)
    (hg : o.guard = none) (s y : Operand) (hop : o.op = .call { callee := .builtin .append, args := #[s, y], argTypes := #[t, t] }) (B : Nat)
    (hs : ac.eval s = .slice a xs.length c) (hy : ac.eval y = .slice (some ⟨B, 0, none⟩) 1 1) (hB : w.heap[B]? = some (.cells #[f x] e (0, 0)))
    (hn : xs.length ≤ 1048576 * 1024) (hby : by_ ≤ 65536) (hbase : base ≤ w.heap.size)
    (hK : ∀ a' c' w', Own f e w' base a' c' (xs ++ [x]) → w.grownBy w' (a.map (·.block)) → (∀ p, a' = some p → (∃ q, a = some q ∧ q.block = p.block) ∨ p.block = w.heap.size) → K (ac.put o.dst (.slice a' (xs.length + 1) c')) w') :
    if Region.wanted o (yielded ops ac.tmps) = true then Oper.wp P o ac w K Q else E := by
  obtain ⟨i0, hi, hz0, hz1, hz2⟩ := info_parts hI
  have hcells : ∀ x, (f x).cells = #[f x] := by
    intro x
    have := h1 x
    revert this; cases f x <;> simp [Value.oneCell', Value.cells]
  refine step_append_lies _ hg s y t hop base e i0 (f d) 1 by_ hT hi hz0 hz1 hz2 (by rw [hcells]; rfl) (by decide) (.slice a xs.length c) xs.length (xs.map f) hs hown ⟨B, 0, none⟩ 1 1 [f x] hy rfl (World.news_of_block (cs := #[f x]) hB) ?_ (by decide) ?_ ?_ hbase _ rfl ?_
  · intro u hu; simp at hu; subst hu; exact h1 x
  · unfold maxLen; omega
  · calc (xs.length + 1) * by_ ≤ (1048576 * 1024 + 1) * 65536 := Nat.mul_le_mul (by omega) hby
      _ ≤ _ := by omega
  · intro g cap w' ho hgr hat _
    have ho' : Own f e w' base (some ⟨g, 0, none⟩) cap (xs ++ [x]) := by unfold Own; simpa using ho
    have hob : (Value.slice a xs.length c).ownBlock = a.map (·.block) := by cases a <;> rfl
    rw [hob] at hgr hat
    refine hK _ _ w' ho' hgr ?_
    intro p hp
    simp at hp
    subst hp
    rcases hat with h | h
    · left
      cases ha : a with
      | none => rw [ha] at h; simp at h
      | some q => rw [ha] at h; simp at h; exact ⟨q, rfl, h⟩
    · exact .inr h

theorem idxOf_findIdx {α : Type} (p : α → Bool) (xs : List α) : (idxOf p xs = (xs.findIdx p : Int) ∧ xs.findIdx p < xs.length) ∨ (idxOf p xs = -1 ∧ xs.findIdx p = xs.length) := by
  unfold idxOf
  cases h : xs.findIdx? p with
  | none => exact .inr ⟨rfl, List.findIdx?_eq_none_iff_findIdx_eq.1 h⟩
  | some i =>
    obtain ⟨h1, h2⟩ := List.findIdx?_eq_some_iff_findIdx_eq.1 h
    subst h2
    exact .inl ⟨rfl, h1⟩

end Go.Proofs.YtockifchghllhaaDoor
