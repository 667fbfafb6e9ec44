/- A block that is known whole. -/
import Derived.Test.YtockifchghllhaaDoorCut
namespace Go.Proofs.YtockifchghllhaaDoor
open Go.RowKit

/-- Block k holds cs. -/
def Blk (w : World) (k : Nat) (cs : Array Value) (T : TypeId) : Prop := w.heap[k]? = some (.cells cs T (0, 0))

section
variable {w w' : World} {k : Nat} {cs : Array Value} {T : TypeId}
theorem Blk.lt (h : Blk w k cs T) : k < w.heap.size := (Array.getElem?_eq_some_iff.1 h).1
theorem Blk.cell (h : Blk w k cs T) {i : Nat} {v : Value} (hv : cs[i]? = some v) : w.cell? ⟨k, i, none⟩ = some v := by
  rw [cell_of_row w k i cs T (0, 0) h]; exact hv
theorem Blk.free (h : Blk w k cs T) (i : Nat) : w.frozen? ⟨k, i, none⟩ = false := frozen_of_row w k i cs T h
theorem Blk.new (w : World) (cs : Array Value) (T : TypeId) : Blk (w.alloc (.cells cs T)) w.heap.size cs T := heap_alloc_new w _
theorem Blk.new' {w : World} {cs : Array Value} {T : TypeId} {k : Nat} (h : k = w.heap.size) : Blk (w.alloc (.cells cs T)) k cs T := heap_new' h
theorem Blk.alloc (h : Blk w k cs T) (o : Obj) : Blk (w.alloc o) k cs T := heap_old' h.lt h
theorem Blk.below (h : Blk w k cs T) {B : Nat} (hb : Below B w w') (hB : w.heap.size ≤ B) : Blk w' k cs T := by
  have := h.lt
  unfold Blk at *
  rw [hb.block k (by omega)]; exact h
theorem Blk.drewN (h : Blk w k cs T) (n : Nat) : Blk (w.drewN n) k cs T := h
theorem Blk.drew (h : Blk w k cs T) : Blk w.drew k cs T := h
theorem Blk.far (h : Blk w k cs T) {p : Addr} (hp : p.block ≠ k) (v : Value) : Blk (w.setCell p v) k cs T := by
  have hg := (grown_setCell w p v).block k h.lt (by simp; exact fun e => hp e.symm)
  unfold Blk at *
  rw [hg]; exact h
theorem Blk.set (h : Blk w k cs T) (i : Nat) (v : Value) : Blk (w.setCell ⟨k, i, none⟩ v) k (cs.setIfInBounds i v) T := by
  unfold Blk at *
  unfold World.setCell
  simp [Array.getElem?_modify, h]
theorem Blk.grown (h : Blk w k cs T) {row : Option Nat} (hg : w.grownBy w' row) (hne : some k ≠ row) : Blk w' k cs T := by
  unfold Blk at *
  rw [hg.block k (Array.getElem?_eq_some_iff.1 h).1 hne]; exact h
end

end Go.Proofs.YtockifchghllhaaDoor
