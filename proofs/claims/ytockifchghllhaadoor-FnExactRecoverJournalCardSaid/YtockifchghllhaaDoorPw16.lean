/- Powers of two from 16 to 256, in both texts. -/
import Derived.Test.YtockifchghllhaaDoorWinL
namespace Go.Proofs.YtockifchghllhaaDoor
open Go.RowKit

def pw16 (n : Int) : Bool := inR n 16 256 && isPow n
theorem pw16_out {n : Int} (h : inR n 16 256 = false) : pw16 n = false := by simp [pw16, h]
theorem pw16_in {n : Int} (h : inR n 16 256 = true) : pw16 n = isPow n := by simp [pw16, h]
theorem pw16_at {n : Int} {j : Nat} (h : (2 : Int) ^ j = n) (h1 : 16 ≤ n) (h2 : n ≤ 256) : pw16 n = true := by
  rw [pw16_in ((inR_eq _ _ _).2 ⟨h1, h2⟩)]
  exact isPow_at (pw_le (by rw [h]; omega)) h
theorem pw16_not {n z : Int} {j : Nat} (hz : (2 : Int) ^ j = z) (h1 : 256 < z) (h : ∀ i, 4 ≤ i → i < j → ¬ (2 : Int) ^ i = n) : pw16 n = false := by
  cases hp : pw16 n with
  | false => rfl
  | true =>
    simp only [pw16, Bool.and_eq_true, inR_eq, isPow, List.any_eq_true, List.mem_range, beq_iff_eq] at hp
    obtain ⟨⟨ha, hb⟩, i, hi, rfl⟩ := hp
    refine absurd rfl (h i ?_ ?_)
    · by_cases h4 : 4 ≤ i
      · exact h4
      · have : (2 : Nat) ^ i ≤ 2 ^ 3 := Nat.pow_le_pow_right (by omega) (by omega)
        rw [pw_cast] at ha
        omega
    · by_cases hj : i < j
      · exact hj
      · have : (2 : Nat) ^ j ≤ 2 ^ i := Nat.pow_le_pow_right (by omega) (by omega)
        rw [pw_cast] at hb hz
        omega
theorem and_test {s : Int} (h1 : 1 ≤ s) (h2 : s ≤ 1048576) : (bits .and .i64 s (s - 1) == 0) = isPow s := by
  have h := pow_test h1 h2
  cases hb : (bits .and .i64 s (s - 1) == 0) <;> simp [bne, hb] at h <;> simp [h]

set_option maxHeartbeats 400000 in
theorem l04Power16_any {n : Int} {w : World} : Calls Tryd.prog 104 #[.int .i64 n, .int .i64 16, .int .i64 256] w fun e w' => e = .returned (.bool (pw16 n)) ∧ w = w' := by
  go_enter Tryd.func104, Tryd.ntmps104
  go_wp2
  go_loop [7] (fun p => ∃ (j : Nat) (z : Int), 16 ≤ z ∧ z ≤ 512 ∧ p = .int .i64 z ∧ Hid ((2 : Int) ^ j = z) ∧ Hid (∀ i, 4 ≤ i → i < j → ¬ (2 : Int) ^ i = n)) (fun p => (513 - intOf p).toNat)
  case atStart => exact ⟨4, 16, by omega, by omega, rfl, by show _ = _; rfl, by show ∀ i, _; intro i hi; omega⟩
  case round =>
    obtain ⟨j, z, hz1, hz2, rfl, HZ, HN⟩ := hrel
    by_cases hle : z ≤ 256
    · by_cases he : z = n
      · have hd : (z == n) = true := by simp [he]
        have HE := Lib.hid he
        clear he
        go_wp2
        go_ret
        exact ⟨ret_bool (pw16_at (HZ.out.trans HE.out) (by have := HE.out; omega) (by have := HE.out; omega)).symm, rfl⟩
      · have hd : (z == n) = false := by simpa using he
        have HE := Lib.hid he
        clear he
        go_wp2
        go_round
        case rel =>
          refine ⟨j + 1, 2 * z, by omega, by omega, rfl, ?_, ?_⟩
          · show _ = _
            rw [Int.pow_succ, HZ.out, Int.mul_comm]
          · show ∀ i, _
            intro i hi hj
            by_cases h : i = j
            · subst h; rw [HZ.out]; exact HE.out
            · exact HN.out i hi (by omega)
        case measure => simp [intOf]; omega
    · go_wp2
      go_ret
      exact ⟨ret_bool (pw16_not HZ.out (by omega) HN.out).symm, rfl⟩

set_option maxHeartbeats 400000 in
theorem isPowerOfTwo16_any {n : Nat} {w : World} : Calls Tryd.prog 106 #[.int .i64 n, .int .i64 16, .int .i64 256] w fun e w' => e = .returned (.bool (pw16 n)) ∧ w = w' := by
  by_cases h1 : 16 ≤ n
  case neg =>
    go_enter Tryd.func106, Tryd.ntmps106
    go_wp2
    go_ret
    exact ⟨ret_bool (pw16_out (by simp [inR]; omega)).symm, rfl⟩
  case pos =>
  by_cases h2 : n ≤ 256
  case neg =>
    go_enter Tryd.func106, Tryd.ntmps106
    go_wp2
    go_ret
    exact ⟨ret_bool (pw16_out (by simp [inR]; omega)).symm, rfl⟩
  case pos =>
    have ht := and_test (s := (n : Int)) (by omega) (by omega)
    have hp := pw16_in (n := (n : Int)) ((inR_eq _ _ _).2 ⟨by omega, by omega⟩)
    rw [hp]
    clear hp
    generalize isPow (n : Int) = bb at ht ⊢
    go_enter Tryd.func106, Tryd.ntmps106
    go_wp2
    go_ret
    exact ⟨rfl, rfl⟩

end Go.Proofs.YtockifchghllhaaDoor
