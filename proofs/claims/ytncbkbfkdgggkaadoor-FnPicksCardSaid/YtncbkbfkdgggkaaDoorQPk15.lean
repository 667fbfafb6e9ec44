/- The lines of a text, in both texts. -/
import Derived.Test.YtncbkbfkdgggkaaDoorQPk9
import Derived.Test.YtncbkbfkdgggkaaDoorQPk0
set_option linter.unusedVariables false
set_option linter.unusedSimpArgs false
namespace Go.Proofs.YtncbkbfkdgggkaaDoor
open Go.RowKit

theorem headRunC {α : Type} [Inhabited α] {f : α → Value} {w : World} {a : Option Addr} {c : Nat} {xs : List α} (h : Rd f w a c xs) {P : Program} {T : TypeId} (hT : P.underlying T = some (.slice (P.elem T))) (hs : ∀ w, (sizeOf (P.elem T)).run P w = .ok 1 w) {hi : Nat} (hk : hi ≤ xs.length) :
    ∃ a2 c2, (∀ w' : World, (Instr.sliceAt T (.slice a xs.length c) none (some (.int .i64 (hi : Int))) none).run P w' = .ok (.slice a2 hi c2) w') ∧ ∀ w', Rd f w' a c xs → Rd f w' a2 c2 (xs.take hi) := by
  have hcap := h.cap
  refine ⟨_, _, fun w' => ?_, fun w' hr => by have := (hr.take hi).cut (k := 0) (by simp); simpa using this⟩
  rw [run_sliceAt_slice (h := hT), run_slice_h (ht := hT) (h0 := by omega) (h2 := by omega), hs]
  simp [Result.andThen, sliced]

/-- The lines, and what is behind them. -/
def linesL (s : ByteArray) : List ByteArray := (parts s 10).take ((parts s 10).length - 1)
def restT (s : ByteArray) : ByteArray := (parts s 10)[(parts s 10).length - 1]?.getD ⟨#[]⟩
def linB (s : ByteArray) : Bool := decide (s.size ≤ 16000) && (restT s).toList.isEmpty

end Go.Proofs.YtncbkbfkdgggkaaDoor
