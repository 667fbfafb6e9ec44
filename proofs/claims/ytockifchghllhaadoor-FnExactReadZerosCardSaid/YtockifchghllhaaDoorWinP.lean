/- Powers and times in the reference's text. -/
import Derived.Test.YtockifchghllhaaDoorWinL
namespace Go.Proofs.YtockifchghllhaaDoor
open Go.RowKit

theorem l06Time_any {x : Int} {w : World} : Calls Tryd.prog 109 #[.int .i64 x] w fun e w' => e = .returned (.bool (inR x 0 1000000)) ∧ w = w' := by
  go_enter Tryd.func109, Tryd.ntmps109
  go_wp2_with fail
  refine (l00In_any _ _ _ _).mono ?_
  rintro e w1 ⟨rfl, rfl⟩
  go_wp2
  go_ret
  exact ⟨rfl, rfl⟩
theorem l06Time_quiet {x : Int} {w : World} {n : Nat} : Calls Tryd.prog 109 #[.int .i64 x] (w.drewN n) fun e w'' => e = .returned (.bool (inR x 0 1000000)) ∧ ∃ m, w'' = w.drewN m :=
  l06Time_any.mono fun _ _ ⟨he, hw⟩ => ⟨he, n, hw.symm⟩

theorem pw_cast (j : Nat) : ((2 : Int) ^ j) = (((2 : Nat) ^ j : Nat) : Int) := by simp
theorem pw_le {j : Nat} (h : (2 : Int) ^ j ≤ 1048576) : j ≤ 20 := by
  by_cases hj : j ≤ 20
  · exact hj
  · have : (2 : Nat) ^ 21 ≤ 2 ^ j := Nat.pow_le_pow_right (by omega) (by omega)
    rw [pw_cast] at h
    omega
theorem pw_big {j : Nat} (h : ¬ (2 : Int) ^ j ≤ 1048576) : 21 ≤ j := by
  by_cases hj : 21 ≤ j
  · exact hj
  · have : (2 : Nat) ^ j ≤ 2 ^ 20 := Nat.pow_le_pow_right (by omega) (by omega)
    rw [pw_cast] at h
    omega
theorem pw_pos (j : Nat) : 1 ≤ (2 : Int) ^ j := by
  have := Nat.two_pow_pos j
  rw [pw_cast]; omega
theorem isPow_not {n : Int} {j : Nat} (hj : 21 ≤ j) (h : ∀ i, i < j → ¬ (2 : Int) ^ i = n) : isPow n = false := by
  cases hp : isPow n with
  | false => rfl
  | true =>
    simp only [isPow, List.any_eq_true, List.mem_range, beq_iff_eq] at hp
    obtain ⟨i, hi, rfl⟩ := hp
    exact absurd rfl (h i (by omega))
theorem isPow_at {n : Int} {j : Nat} (hj : j ≤ 20) (h : (2 : Int) ^ j = n) : isPow n = true := by
  simp only [isPow, List.any_eq_true, List.mem_range, beq_iff_eq]
  exact ⟨j, by omega, h.symm⟩

set_option maxHeartbeats 400000 in
theorem l04Power_any {n : Int} {w : World} : Calls Tryd.prog 104 #[.int .i64 n, .int .i64 1, .int .i64 1048576] w fun e w' => e = .returned (.bool (isPow n)) ∧ w = w' := by
  go_enter Tryd.func104, Tryd.ntmps104
  go_wp2
  go_loop [7] (fun p => ∃ (j : Nat) (z : Int), 1 ≤ z ∧ z ≤ 2097152 ∧ p = .int .i64 z ∧ Hid ((2 : Int) ^ j = z) ∧ Hid (∀ i, i < j → ¬ (2 : Int) ^ i = n)) (fun p => (2097153 - intOf p).toNat)
  case atStart => exact ⟨0, 1, by omega, by omega, rfl, by show _ = _; rfl, by show ∀ i, _; intro i hi; omega⟩
  case round =>
    obtain ⟨j, z, hz1, hz2, rfl, HZ, HN⟩ := hrel
    by_cases hle : z ≤ 1048576
    · by_cases he : z = n
      · have hd : (z == n) = true := by simp [he]
        have HE := Lib.hid he
        clear he
        go_wp2
        go_ret
        exact ⟨ret_bool (isPow_at (pw_le (by rw [HZ.out]; exact hle)) (HZ.out.trans HE.out)).symm, rfl⟩
      · have hd : (z == n) = false := by simpa using he
        have HE := Lib.hid he
        clear he
        go_wp2
        go_round
        case rel =>
          refine ⟨j + 1, 2 * z, by omega, by omega, rfl, ?_, ?_⟩
          · show _ = _
            rw [Int.pow_succ, HZ.out, Int.mul_comm]
          · show ∀ i, _
            intro i hi
            by_cases h : i = j
            · subst h; rw [HZ.out]; exact HE.out
            · exact HN.out i (by omega)
        case measure => simp [intOf]; omega
    · go_wp2
      go_ret
      exact ⟨ret_bool (isPow_not (pw_big (by rw [HZ.out]; omega)) HN.out).symm, rfl⟩
theorem l04Power_quiet {x : Int} {w : World} {n : Nat} : Calls Tryd.prog 104 #[.int .i64 x, .int .i64 1, .int .i64 1048576] (w.drewN n) fun e w'' => e = .returned (.bool (isPow x)) ∧ ∃ m, w'' = w.drewN m :=
  l04Power_any.mono fun _ _ ⟨he, hw⟩ => ⟨he, n, hw.symm⟩

end Go.Proofs.YtockifchghllhaaDoor
