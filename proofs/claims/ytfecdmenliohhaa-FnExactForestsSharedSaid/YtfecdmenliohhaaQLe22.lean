/- Goroutine 0 beside leavers: what it knows of the memory: the old blocks stand; blocks of its own. Plain. -/
import Derived.Test.YtfecdmenliohhaaQLe17
import Derived.Test.YtfecdmenliohhaaQLe19
set_option linter.unusedVariables false
set_option linter.unusedSimpArgs false
set_option linter.unusedSimpArgs false
set_option linter.unusedVariables false
namespace Go.Proofs.Ytfecdmenliohhaa
open Go Go.Conc Go.RowKit

/-- Since w0: the old blocks stand; these blocks hold this; it owns S. -/
structure FSt (w0 : World) (cl : List (Nat × Obj)) (S : OwnB) (w : World) : Prop where
  size : w0.heap.size ≤ w.heap.size
  old : ∀ b, b < w0.heap.size → w.heap[b]? = w0.heap[b]?
  blk : ∀ x ∈ cl, w.heap[x.1]? = some x.2 ∧ w0.heap.size ≤ x.1 ∧ S x.1
  bnd : ∀ b, S b → w0.heap.size ≤ b ∧ b < w.heap.size

section
variable {w0 w w' : World} {cl : List (Nat × Obj)} {S S' : OwnB}
theorem FSt.at (h : FSt w0 cl S w) (d : Nat) : FSt w0 cl S (w.at d) := ⟨h.size, h.old, h.blk, h.bnd⟩
theorem FSt.begin (w : World) : FSt w [] (fun _ => False) w := ⟨Nat.le_refl _, fun _ _ => rfl, fun x hx => by simp at hx, fun b hb => hb.elim⟩
theorem FSt.alloc (h : FSt w0 cl S w) (o : Obj) : FSt w0 ((w.heap.size, o) :: cl) (fun b => S b ∨ b = w.heap.size) (w.alloc o) := by
  have hs : (w.alloc o).heap = w.heap.push o := rfl
  have hsz := h.size
  have same : ∀ b, b < w.heap.size → (w.alloc o).heap[b]? = w.heap[b]? := fun b hb => by rw [hs, Array.getElem?_push_lt hb, Array.getElem?_eq_getElem hb]
  refine ⟨by rw [hs, Array.size_push]; omega, fun b hb => (same b (by omega)).trans (h.old b hb), fun x hx => ?_, fun b hb => ?_⟩
  · rcases List.mem_cons.1 hx with rfl | hx
    · exact ⟨by rw [hs]; simp, hsz, .inr rfl⟩
    · obtain ⟨h1, h2, h3⟩ := h.blk x hx
      exact ⟨(same _ (h.bnd _ h3).2).trans h1, h2, .inl h3⟩
  · rw [hs, Array.size_push]
    rcases hb with hb | rfl
    · have := h.bnd b hb; omega
    · omega
/-- A block of its own is written. -/
theorem FSt.write {n : Nat} {o o' : Obj} (h : FSt w0 ((n, o) :: cl) S w) (hn : ∀ x ∈ cl, x.1 ≠ n) (hw : ∀ b, b ≠ n → w'.heap[b]? = w.heap[b]?) (ho : w'.heap[n]? = some o') (hs : w'.heap.size = w.heap.size) : FSt w0 ((n, o') :: cl) S w' := by
  obtain ⟨_, h2, h3⟩ := h.blk (n, o) (List.mem_cons_self ..)
  refine ⟨by rw [hs]; exact h.size, fun b hb => (hw b (by simp only at h2; omega)).trans (h.old b hb), fun x hx => ?_, fun b hb => by rw [hs]; exact h.bnd b hb⟩
  rcases List.mem_cons.1 hx with rfl | hx
  · exact ⟨ho, h2, h3⟩
  · obtain ⟨h4, h5, h6⟩ := h.blk x (List.mem_cons_of_mem _ hx)
    exact ⟨(hw _ (hn x hx)).trans h4, h5, h6⟩
theorem FSt.put1 {n : Nat} {v v' : Value} {e : TypeId} (h : FSt w0 ((n, .cells #[v] e (0, 0)) :: cl) S w) (hn : ∀ x ∈ cl, x.1 ≠ n) : FSt w0 ((n, .cells #[v'] e (0, 0)) :: cl) S (w.setCell ⟨n, 0, none⟩ v') := by
  refine h.write hn (fun b hb => by rw [heap_setCell, if_neg (Ne.symm hb)]) ?_ (by simp [World.setCell])
  rw [heap_setCell, if_pos rfl, (h.blk _ (List.mem_cons_self ..)).1]
  simp
theorem FSt.cell (h : FSt w0 cl S w) {n : Nat} {v : Value} {e : TypeId} (hx : (n, Obj.cells #[v] e (0, 0)) ∈ cl) : w.cell? ⟨n, 0, none⟩ = some v ∧ w.frozen? ⟨n, 0, none⟩ = false ∧ S n := by
  obtain ⟨h1, _, h3⟩ := h.blk _ hx
  simp only at h1
  exact ⟨by simp [World.cell?, h1], by simp [World.frozen?, h1], h3⟩
/-- Behind a call that writes nothing of this. -/
theorem FSt.after (h : FSt w0 cl S w) (hK : KL S S' w w') (hS : ∀ b, S' b → b < w'.heap.size) (hs : ∀ b, b < w0.heap.size ∨ S b → w'.heap[b]? = w.heap[b]?) : FSt w0 cl S' w' := by
  refine ⟨Nat.le_trans h.size hK.size, fun b hb => (hs b (.inl hb)).trans (h.old b hb), fun x hx => ?_, fun b hb => ⟨?_, hS b hb⟩⟩
  · obtain ⟨h1, h2, h3⟩ := h.blk x hx
    exact ⟨(hs _ (.inr h3)).trans h1, h2, hK.grow _ h3⟩
  · rcases hK.fresh b hb with h1 | h1
    · exact (h.bnd b h1).1
    · exact Nat.le_trans h.size h1.1
theorem FSt.drop {x : Nat × Obj} (h : FSt w0 (x :: cl) S w) : FSt w0 cl S w := ⟨h.size, h.old, fun y hy => h.blk y (List.mem_cons_of_mem _ hy), h.bnd⟩
theorem FSt.sub {cl' : List (Nat × Obj)} (h : FSt w0 cl S w) (hc : ∀ x ∈ cl', x ∈ cl) : FSt w0 cl' S w := ⟨h.size, h.old, fun y hy => h.blk y (hc y hy), h.bnd⟩
theorem FSt.rl {w₁ : World} (h : FSt w0 cl S w) (r : RL S w w₁) : FSt w0 cl S w₁ := by
  obtain ⟨d, rfl⟩ := r
  exact h.at d
end

/-- What was to be read of the old blocks is to be read. -/
theorem rd_old {α : Type} [Inhabited α] {f : α → Value} {w0 w : World} {a : Option Addr} {c : Nat} {xs : List α} (h : Rd f w0 a c xs) (hs : w0.heap.size ≤ w.heap.size) (ho : ∀ b, b < w0.heap.size → w.heap[b]? = w0.heap[b]?) : Rd f w a c xs := by
  refine ⟨h.cap, h.max, h.nil, fun h0 => let ⟨b, o, e, hlt⟩ := h.here h0; ⟨b, o, e, Nat.lt_of_lt_of_le hlt hs⟩, fun k hk => ?_⟩
  obtain ⟨b, o, e, hlt⟩ := h.here (by omega)
  have := h.cell k hk
  rw [e, elt_some] at this ⊢
  rw [← this]
  unfold World.cell?
  simp only [ho b hlt]
end Go.Proofs.Ytfecdmenliohhaa
