/- The bytes of what is saved: how they lie. -/
import Derived.Test.YtncbkbfkdgggkaaDoorQPk19
import Derived.Test.YtncbkbfkdgggkaaDoorQPk4
import Derived.Test.YtncbkbfkdgggkaaDoorQPk6
set_option linter.unusedVariables false
set_option linter.unusedSimpArgs false
namespace Go.Proofs.YtncbkbfkdgggkaaDoor
open Go.RowKit

structure SvOk (s : Sv) : Prop where
  nm1 : 1 ≤ s.nm.size
  nm : s.nm.size ≤ 8
  W : 0 ≤ s.W ∧ s.W < 256
  D : 0 ≤ s.D ∧ s.D < 256
  S : 0 ≤ s.S ∧ s.S < 4294967296
  csl : s.cs.length ≤ 384
  cs : ∀ k, k < s.cs.length → 0 ≤ at0 s.cs k ∧ at0 s.cs k < 4294967296
  R : 0 ≤ s.R ∧ s.R < 256
  ksl : s.ks.length ≤ 32
  tsl : s.ts.length = s.ks.length
  esl : s.es.length = s.ks.length
  ks : ∀ k, k < s.ks.length → 0 ≤ at0 s.ks k ∧ at0 s.ks k < 4294967296
  ts : ∀ k, k < s.ks.length → 0 ≤ at0 s.ts k ∧ at0 s.ts k < 4294967296
  es : ∀ k, k < s.ks.length → 0 ≤ at0 s.es k ∧ at0 s.es k < 4294967296
/-- The counts, the rows. -/
def cntL (s : Sv) : Nat → List Int
  | 0 => []
  | k + 1 => cntL s k ++ le (at0 s.cs k) 4
def rowsL (s : Sv) : Nat → List Int
  | 0 => []
  | k + 1 => ((rowsL s k ++ le (at0 s.ks k) 4) ++ le (at0 s.ts k) 4) ++ le (at0 s.es k) 4
def headL (s : Sv) : List Int := ((([83, 75, 84, 49] ++ [(s.nm.size : Int)]) ++ bytesI s.nm) ++ [s.W, s.D]) ++ le s.S 4
def bodyL (s : Sv) : List Int := ((headL s ++ cntL s s.cs.length) ++ [s.R, (s.ks.length : Int)]) ++ rowsL s s.ks.length
def storeL (s : Sv) : List Int := bodyL s ++ le (chk 0 (strOf (bodyL s)) (strOf (bodyL s)).size) 2
def storeT (s : Sv) : ByteArray := strOf (storeL s)
theorem cntL_len (s : Sv) (k : Nat) : (cntL s k).length = 4 * k := by
  induction k with
  | zero => rfl
  | succ k ih => unfold cntL; rw [List.length_append, ih, le_len]; omega
theorem rowsL_len (s : Sv) (k : Nat) : (rowsL s k).length = 12 * k := by
  induction k with
  | zero => rfl
  | succ k ih => unfold rowsL; simp only [List.length_append, ih, le_len]; omega
theorem headL_len (s : Sv) : (headL s).length = s.nm.size + 11 := by
  unfold headL; simp only [List.length_append, le_len, bytesI_len, List.length_cons, List.length_nil]; omega
theorem bodyL_len (s : Sv) : (bodyL s).length = s.nm.size + 13 + 4 * s.cs.length + 12 * s.ks.length := by
  unfold bodyL; simp only [List.length_append, headL_len, cntL_len, rowsL_len, List.length_cons, List.length_nil]; omega
theorem storeT_size (s : Sv) : (storeT s).size = s.nm.size + 15 + 4 * s.cs.length + 12 * s.ks.length := by
  unfold storeT storeL; rw [strOf_size, List.length_append, bodyL_len, le_len]; omega

end Go.Proofs.YtncbkbfkdgggkaaDoor
