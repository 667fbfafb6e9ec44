/- Hashes: both texts mix alike. -/
import Derived.Test.YtfecdmenliohhaaRows
import Derived.Test.YtfecdmenliohhaaQFo6
import Derived.OpenShut
set_option linter.unusedVariables false
set_option linter.unusedSimpArgs false
namespace Go.Proofs.Ytfecdmenliohhaa
open Go.RowKit

/-- The digits mixed. -/
def mixZ (x : Int) : Int :=
  bits .xor .u64
    (IntKind.u64.wrap (bits .xor .u64 (IntKind.u64.wrap (bits .xor .u64 x (x / 1073741824) * 13787848793156543929)) (IntKind.u64.wrap (bits .xor .u64 x (x / 1073741824) * 13787848793156543929) / 134217728) * 10723151780598845931))
    (IntKind.u64.wrap (bits .xor .u64 (IntKind.u64.wrap (bits .xor .u64 x (x / 1073741824) * 13787848793156543929)) (IntKind.u64.wrap (bits .xor .u64 x (x / 1073741824) * 13787848793156543929) / 134217728) * 10723151780598845931) / 2147483648)

set_option maxHeartbeats 400000 in
theorem mix_any {x : Int} {w : World} (h0 : 0 ≤ x) : Calls Try.prog 53 #[.int .u64 x] w fun e w' => e = .returned (.int .u64 (mixZ x)) ∧ w = w' := by
  go_enter Try.func53, Try.ntmps53
  go_wp2
  go_ret
  exact ⟨rfl, rfl⟩
/-- What is mixed of a key and a salt. -/
def argZ (k s : Int) : Int := IntKind.u64.wrap (k + 4294967296 * s + 11400714819323198485)
/-- The hash. -/
def hashZ (k s : Int) : Int := mixZ (argZ k s) / 4294967296
theorem wrap_u64_bd (n : Int) : 0 ≤ IntKind.u64.wrap n ∧ IntKind.u64.wrap n ≤ 18446744073709551615 := by
  have h : (Lit.int .u64 (IntKind.u64.wrap n)).wf = true := wf_wrap .u64 n
  simp [Lit.wf, IntKind.min, IntKind.max, IntKind.signed, IntKind.bits] at h
  omega
theorem argZ_bd (k s : Int) : 0 ≤ argZ k s := (wrap_u64_bd _).1
theorem mixZ_bd (x : Int) : 0 ≤ mixZ x ∧ mixZ x ≤ 18446744073709551615 := by
  have h : (Lit.int .u64 (mixZ x)).wf = true := wf_bits _ .u64 _ _
  simp [Lit.wf, IntKind.min, IntKind.max, IntKind.signed, IntKind.bits] at h
  omega
theorem hashZ_bd (k s : Int) : 0 ≤ hashZ k s ∧ hashZ k s < 4294967296 := by
  have h := mixZ_bd (argZ k s)
  unfold hashZ
  omega
theorem argZ_comm (k s : Int) : IntKind.u64.wrap (k + s * 4294967296 + 11400714819323198485) = argZ k s := by
  unfold argZ; rw [Int.mul_comm]

set_option maxHeartbeats 400000 in
theorem hash_any {k s : Int} {w : World} (k0 : 0 ≤ k) (k1 : k < 4294967296) (s0 : 0 ≤ s) (s1 : s < 4294967296) :
    Calls Try.prog 39 #[.int .i64 k, .int .i64 s] w fun e w' => e = .returned (.int .i64 (hashZ k s)) ∧ w = w' := by
  have hb := mixZ_bd (argZ k s)
  have hb1 := hb.1
  have hb2 : mixZ (argZ k s) / 4294967296 ≤ 4294967295 := by omega
  have hb3 : 0 ≤ mixZ (argZ k s) / 4294967296 := by omega
  clear hb
  go_enter Try.func39, Try.ntmps39
  go_wp2_with fail
  refine (mix_any (x := argZ k s) (argZ_bd k s)).mono ?_
  rintro e w1 ⟨rfl, rfl⟩
  go_wp2
  go_ret
  exact ⟨rfl, rfl⟩
def sgn (k s : Int) : Int := if hashZ k s < 2147483648 then 1 else -1

end Go.Proofs.Ytfecdmenliohhaa
