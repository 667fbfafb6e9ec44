/- Valid sieves in both texts. -/
import Derived.Test.YtofbnddmahjanaaWinS
import Derived.Test.YtofbnddmahjanaaWinV
import Derived.Test.YtofbnddmahjanaaKeys
import Derived.Test.YtofbnddmahjanaaRow
namespace Go.Proofs.Ytofbnddmahjanaa
open Go.RowKit

def sieveB (R S : Int) (n : Nat) : Bool := inR R 1 8 && isKey S && decide (1 ≤ n) && decide (n ≤ 512)
theorem sieveB_R {R S : Int} {n : Nat} (h : inR R 1 8 = false) : sieveB R S n = false := by simp [sieveB, h]
theorem sieveB_S {R S : Int} {n : Nat} (h : isKey S = false) : sieveB R S n = false := by simp [sieveB, h]
theorem sieveB_0 {R S : Int} {n : Nat} (h : ¬ 1 ≤ n) : sieveB R S n = false := by simp [sieveB]; omega
theorem sieveB_n {R S : Int} {n : Nat} (h : ¬ n ≤ 512) : sieveB R S n = false := by simp [sieveB]; omega
theorem sieveB_yes {R S : Int} {n : Nat} (h1 : inR R 1 8 = true) (h2 : isKey S = true) (h3 : 1 ≤ n) (h4 : n ≤ 512) : sieveB R S n = true := by simp [sieveB, h1, h2, h3, h4]

theorem areRounds_any {R : Int} {w : World} : Calls Try.prog 134 #[.int .i64 R] w fun e w' => e = .returned (.bool (inR R 1 8)) ∧ w = w' := by
  go_enter Try.func134, Try.ntmps134
  go_wp2_with fail
  refine (within_any _ _ _ _).mono ?_
  rintro e w1 ⟨rfl, rfl⟩
  go_wp2
  go_ret
  exact ⟨rfl, rfl⟩

end Go.Proofs.Ytofbnddmahjanaa
