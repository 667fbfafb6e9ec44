/- Powers and times in the reference's text. -/
import Derived.Test.YtihbckoldblpcaaWinL
namespace Go.Proofs.Ytihbckoldblpcaa
open Go.RowKit

theorem l06Time_any {x : Int} {w : World} : Calls Try.prog 103 #[.int .i64 x] w fun e w' => e = .returned (.bool (inR x 0 1000000)) ∧ w = w' := by
  go_enter Try.func103, Try.ntmps103
  go_wp2_with fail
  refine (l00In_any _ _ _ _).mono ?_
  rintro e w1 ⟨rfl, rfl⟩
  go_wp2
  go_ret
  exact ⟨rfl, rfl⟩
theorem l06Time_quiet {x : Int} {w : World} {n : Nat} : Calls Try.prog 103 #[.int .i64 x] (w.drewN n) fun e w'' => e = .returned (.bool (inR x 0 1000000)) ∧ ∃ m, w'' = w.drewN m :=
  l06Time_any.mono fun _ _ ⟨he, hw⟩ => ⟨he, n, hw.symm⟩

theorem pw_cast (j : Nat) : ((2 : Int) ^ j) = (((2 : Nat) ^ j : Nat) : Int) := by simp
theorem pw_le {j : Nat} (h : (2 : Int) ^ j ≤ 1048576) : j ≤ 20 := by
  by_cases hj : j ≤ 20
  · exact hj
  · have : (2 : Nat) ^ 21 ≤ 2 ^ j := Nat.pow_le_pow_right (by omega) (by omega)
    rw [pw_cast] at h
    omega
theorem pw_big {j : Nat} (h : ¬ (2 : Int) ^ j ≤ 1048576) : 21 ≤ j := by
  by_cases hj : 21 ≤ j
  · exact hj
  · have : (2 : Nat) ^ j ≤ 2 ^ 20 := Nat.pow_le_pow_right (by omega) (by omega)
    rw [pw_cast] at h
    omega
theorem pw_pos (j : Nat) : 1 ≤ (2 : Int) ^ j := by
  have := Nat.two_pow_pos j
  rw [pw_cast]; omega
theorem isPow_not {n : Int} {j : Nat} (hj : 21 ≤ j) (h : ∀ i, i < j → ¬ (2 : Int) ^ i = n) : isPow n = false := by
  cases hp : isPow n with
  | false => rfl
  | true =>
    simp only [isPow, List.any_eq_true, List.mem_range, beq_iff_eq] at hp
    obtain ⟨i, hi, rfl⟩ := hp
    exact absurd rfl (h i (by omega))
theorem isPow_at {n : Int} {j : Nat} (hj : j ≤ 20) (h : (2 : Int) ^ j = n) : isPow n = true := by
  simp only [isPow, List.any_eq_true, List.mem_range, beq_iff_eq]
  exact ⟨j, by omega, h.symm⟩

end Go.Proofs.Ytihbckoldblpcaa
