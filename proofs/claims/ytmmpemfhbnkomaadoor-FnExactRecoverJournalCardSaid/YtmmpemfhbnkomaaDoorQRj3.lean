/- Hashes: both texts mix alike. -/
import Derived.Test.YtmmpemfhbnkomaaDoorRows
import Derived.Test.YtmmpemfhbnkomaaDoorQRj0
import Derived.OpenShut
set_option linter.unusedVariables false
set_option linter.unusedSimpArgs false
namespace Go.Proofs.YtmmpemfhbnkomaaDoor
open Go.RowKit

/-- The digits mixed. -/
def mixZ (x : Int) : Int :=
  bits .xor .u64
    (IntKind.u64.wrap (bits .xor .u64 (IntKind.u64.wrap (bits .xor .u64 x (x / 1073741824) * 13787848793156543929)) (IntKind.u64.wrap (bits .xor .u64 x (x / 1073741824) * 13787848793156543929) / 134217728) * 10723151780598845931))
    (IntKind.u64.wrap (bits .xor .u64 (IntKind.u64.wrap (bits .xor .u64 x (x / 1073741824) * 13787848793156543929)) (IntKind.u64.wrap (bits .xor .u64 x (x / 1073741824) * 13787848793156543929) / 134217728) * 10723151780598845931) / 2147483648)

/-- What is mixed of a key and a salt. -/
def argZ (k s : Int) : Int := IntKind.u64.wrap (k + 4294967296 * s + 11400714819323198485)
/-- The hash. -/
def hashZ (k s : Int) : Int := mixZ (argZ k s) / 4294967296
theorem wrap_u64_bd (n : Int) : 0 ≤ IntKind.u64.wrap n ∧ IntKind.u64.wrap n ≤ 18446744073709551615 := by
  have h : (Lit.int .u64 (IntKind.u64.wrap n)).wf = true := wf_wrap .u64 n
  simp [Lit.wf, IntKind.min, IntKind.max, IntKind.signed, IntKind.bits] at h
  omega
theorem argZ_bd (k s : Int) : 0 ≤ argZ k s := (wrap_u64_bd _).1
theorem mixZ_bd (x : Int) : 0 ≤ mixZ x ∧ mixZ x ≤ 18446744073709551615 := by
  have h : (Lit.int .u64 (mixZ x)).wf = true := wf_bits _ .u64 _ _
  simp [Lit.wf, IntKind.min, IntKind.max, IntKind.signed, IntKind.bits] at h
  omega
theorem hashZ_bd (k s : Int) : 0 ≤ hashZ k s ∧ hashZ k s < 4294967296 := by
  have h := mixZ_bd (argZ k s)
  unfold hashZ
  omega
theorem argZ_comm (k s : Int) : IntKind.u64.wrap (k + s * 4294967296 + 11400714819323198485) = argZ k s := by
  unfold argZ; rw [Int.mul_comm]

def sgn (k s : Int) : Int := if hashZ k s < 2147483648 then 1 else -1

end Go.Proofs.YtmmpemfhbnkomaaDoor
