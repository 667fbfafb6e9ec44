/- What a window keeps, in the program's text. -/
import Derived.Test.YtockifchghllhaaDoorWinV
import Derived.Test.YtockifchghllhaaDoorCloneI
import Derived.Test.YtockifchghllhaaDoorCalm
namespace Go.Proofs.YtockifchghllhaaDoor
open Go.RowKit

theorem bcell {W w1 : World} (hb : Below W.heap.size W w1) : (∀ b o, b < W.heap.size → w1.cell? ⟨b, o, none⟩ = W.cell? ⟨b, o, none⟩) ∧ (∀ b o, b < W.heap.size → w1.frozen? ⟨b, o, none⟩ = W.frozen? ⟨b, o, none⟩) :=
  ⟨fun b o h => hb.cell (p := ⟨b, o, none⟩) h, fun b o h => hb.frozen (p := ⟨b, o, none⟩) h⟩

def lastOk (ts : List Int) (t : Int) : Bool := ts.length == 0 || decide (at0 ts (ts.length - 1) ≤ t)
def lateB (L P : Int) (ts ss : List Int) (t : Int) : Bool := winB L P ts ss && inR t 0 1000000 && lastOk ts t

/-- The three variables of 'kept' have been made. -/
def keptW (w : World) (L P : Int) (ta : Option Addr) (tl tc : Nat) (sa : Option Addr) (sl sc : Nat) (t : Int) : World :=
  ((w.alloc (.cells #[.int .i64 L, .int .i64 P, .slice ta tl tc, .slice sa sl sc] 56)).alloc (.cells #[.int .i64 t] 2)).alloc (.cells #[.int .i64 0, .int .i64 0, .slice none 0 0, .slice none 0 0] 56)
structure KeptW (w W : World) (L P : Int) (ta : Option Addr) (tl tc : Nat) (sa : Option Addr) (sl sc : Nat) (t : Int) : Prop where
  c0 : W.cell? ⟨w.heap.size, 0, none⟩ = some (.int .i64 L)
  c1 : W.cell? ⟨w.heap.size, 1, none⟩ = some (.int .i64 P)
  c2 : W.cell? ⟨w.heap.size, 2, none⟩ = some (.slice ta tl tc)
  c3 : W.cell? ⟨w.heap.size, 3, none⟩ = some (.slice sa sl sc)
  ct : W.cell? ⟨w.heap.size + 1, 0, none⟩ = some (.int .i64 t)
  r0 : W.cell? ⟨w.heap.size + 1 + 1, 0, none⟩ = some (.int .i64 0)
  r1 : W.cell? ⟨w.heap.size + 1 + 1, 1, none⟩ = some (.int .i64 0)
  r2 : W.cell? ⟨w.heap.size + 1 + 1, 2, none⟩ = some (.slice none 0 0)
  r3 : W.cell? ⟨w.heap.size + 1 + 1, 3, none⟩ = some (.slice none 0 0)
  f0 : ∀ o, W.frozen? ⟨w.heap.size + 1 + 1, o, none⟩ = false
  z : w.heap.size + 3 ≤ W.heap.size
  B : Below w.heap.size w W
theorem keptW_is (w : World) (L P : Int) (ta : Option Addr) (tl tc : Nat) (sa : Option Addr) (sl sc : Nat) (t : Int) : KeptW w (keptW w L P ta tl tc sa sl sc t) L P ta tl tc sa sl sc t := by
  unfold keptW
  refine ⟨?_, ?_, ?_, ?_, ?_, ?_, ?_, ?_, ?_, ?_, by simp, (((Below.refl _ _).alloc (Nat.le_refl _) _).alloc (by simp) _).alloc (by simp; omega) _⟩
  case refine_10 => intro o; simp [go_sem]
  all_goals simp [go_sem]
theorem KeptW.below {w W W' : World} {L P : Int} {ta : Option Addr} {tl tc : Nat} {sa : Option Addr} {sl sc : Nat} {t : Int} (h : KeptW w W L P ta tl tc sa sl sc t) (hb : Below W.heap.size W W') : KeptW w W' L P ta tl tc sa sl sc t := by
  have hz := h.z
  have hc := fun b o (hl : b < W.heap.size) => hb.cell (p := ⟨b, o, none⟩) hl
  have hf := fun b o (hl : b < W.heap.size) => hb.frozen (p := ⟨b, o, none⟩) hl
  refine ⟨?_, ?_, ?_, ?_, ?_, ?_, ?_, ?_, ?_, fun o => ?_, Nat.le_trans hz hb.size, h.B.trans (hb.mono h.B.size)⟩
  · rw [hc _ _ (by omega)]; exact h.c0
  · rw [hc _ _ (by omega)]; exact h.c1
  · rw [hc _ _ (by omega)]; exact h.c2
  · rw [hc _ _ (by omega)]; exact h.c3
  · rw [hc _ _ (by omega)]; exact h.ct
  · rw [hc _ _ (by omega)]; exact h.r0
  · rw [hc _ _ (by omega)]; exact h.r1
  · rw [hc _ _ (by omega)]; exact h.r2
  · rw [hc _ _ (by omega)]; exact h.r3
  · rw [hf _ _ (by omega)]; exact h.f0 o

end Go.Proofs.YtockifchghllhaaDoor
