/- What a text begins with, what all of it holds: plain. -/
import Derived.Test.YtdpolaedfjljmaaLdQ
import Derived.Test.YtdpolaedfjljmaaLdB
import Derived.Test.YtdpolaedfjljmaaStoD
namespace Go.Proofs.Ytdpolaedfjljmaa
open Go.RowKit

def ldOk (s : ByteArray) : Bool := decide (ldE s ≤ s.size) && savedV (ldS s) && ((storeT (ldS s)).toList == (s.extract 0 (ldE s)).toList)
def ldV (s : ByteArray) : Sv := if ldOk s then ldS s else sv0
def ldN0 (s : ByteArray) : Nat := if ldOk s then ldE s else 0
theorem ldOk_short {s : ByteArray} (h : s.size < ldE s) : ldOk s = false := by unfold ldOk; rw [decide_eq_false (by omega)]; rfl
theorem ldOk_invalid {s : ByteArray} (h : savedV (ldS s) = false) : ldOk s = false := by unfold ldOk; rw [h]; simp
theorem ldOk_yes {s : ByteArray} (h : ldE s ≤ s.size) (h2 : savedV (ldS s) = true) : ldOk s = ((storeT (ldS s)).toList == (s.extract 0 (ldE s)).toList) := by unfold ldOk; rw [decide_eq_true h, h2]; rfl
theorem ldE_pos (s : ByteArray) : 15 ≤ ldE s := by unfold ldE ldA3 ldA1; omega
/-- The saved one that a call loads: its value, its size, whether there is one. -/
def RetLd (w : World) (x : Sv) (n : Nat) (ok : Bool) (e : Ending) (w' : World) : Prop :=
  ∃ h : SvH, e = .returned (.tuple #[.agg #[.string x.nm, .int .i64 x.W, .int .i64 x.D, .int .i64 x.S, .slice h.a0 x.cs.length h.c0, .int .i64 x.R, .slice h.a1 x.ks.length h.c1, .slice h.a2 x.ts.length h.c2, .slice h.a3 x.es.length h.c3], .int .i64 (n : Int), .bool ok]) ∧ SvOwn w' w.heap.size h x ∧ SvSep h ∧ Below w.heap.size w w'

end Go.Proofs.Ytdpolaedfjljmaa
