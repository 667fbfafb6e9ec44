/- Zeros before the first 1: the table's answer and the loop's. -/
import Derived.Test.YtgkmmilmdhhleaaRow
import Derived.Lib.BitFns
import Derived.Lib.ItoaNum
namespace Go.Proofs.Ytgkmmilmdhhleaa
open Go.RowKit

theorem w2_in (n : Nat) (k : Int) (hn : n ≤ 8) (h0 : 0 ≤ k) (h1 : k ≤ 24) : wrap64 (k + wrap64 (n : Int)) = k + n := by
  unfold wrap64; omega
theorem w2_in0 (n : Nat) (hn : n ≤ 8) : wrap64 (wrap64 (n : Int)) = n := by
  unfold wrap64; omega
set_option maxHeartbeats 1000000 in
set_option maxRecDepth 100000 in
theorem len32_any (x : Int) (w : World) (h0 : 0 ≤ x) (h1 : x ≤ 4294967295) :
    Calls Try.prog 178 #[.int .u32 x] w fun e w' => e = .returned (.int .i64 (Lib.bitLen x.toNat)) ∧ w = w' := by
  go_enter Try.func178, Try.ntmps178
  by_cases c1 : 65536 ≤ x
  · by_cases c2 : 256 ≤ x / 65536
    · have a0 : 0 ≤ x / 65536 / 256 := by omega
      have a1 : x / 65536 / 256 ≤ 255 := by omega
      have e8 := Lib.len8_of _ a0 a1
      have l := Lib.bitLen_le8' _ a0 a1
      have e : (x / 65536 / 256).toNat = x.toNat / 16777216 := by omega
      have s := Lib.bitLen_shift24 x.toNat (by omega) (by omega)
      go_wp2
      go_ret
      refine ⟨congrArg Ending.returned (congrArg (Value.int IntKind.i64) ?_), rfl⟩
      rw [e] at l
      first | rfl | (refine (w2_in _ _ (by omega) (by omega) (by omega)).trans ?_; omega) | (refine (w2_in0 _ (by omega)).trans ?_; omega)
    · have a0 : 0 ≤ x / 65536 := by omega
      have a1 : x / 65536 ≤ 255 := by omega
      have e8 := Lib.len8_of _ a0 a1
      have l := Lib.bitLen_le8' _ a0 a1
      have e : (x / 65536).toNat = x.toNat / 65536 := by omega
      have s := Lib.bitLen_shift16 x.toNat (by omega) (by omega)
      go_wp2
      go_ret
      refine ⟨congrArg Ending.returned (congrArg (Value.int IntKind.i64) ?_), rfl⟩
      rw [e] at l
      first | rfl | (refine (w2_in _ _ (by omega) (by omega) (by omega)).trans ?_; omega) | (refine (w2_in0 _ (by omega)).trans ?_; omega)
  · by_cases c2 : 256 ≤ x
    · have a0 : 0 ≤ x / 256 := by omega
      have a1 : x / 256 ≤ 255 := by omega
      have e8 := Lib.len8_of _ a0 a1
      have l := Lib.bitLen_le8' _ a0 a1
      have e : (x / 256).toNat = x.toNat / 256 := by omega
      have s := Lib.bitLen_shift8 x.toNat (by omega) (by omega)
      go_wp2
      go_ret
      refine ⟨congrArg Ending.returned (congrArg (Value.int IntKind.i64) ?_), rfl⟩
      rw [e] at l
      first | rfl | (refine (w2_in _ _ (by omega) (by omega) (by omega)).trans ?_; omega) | (refine (w2_in0 _ (by omega)).trans ?_; omega)
    · have a1 : x ≤ 255 := by omega
      have e8 := Lib.len8_of _ h0 a1
      have l := Lib.bitLen_le8' _ h0 a1
      go_wp2
      go_ret
      refine ⟨congrArg Ending.returned (congrArg (Value.int IntKind.i64) ?_), rfl⟩
      first | rfl | (refine (w2_in _ _ (by omega) (by omega) (by omega)).trans ?_; omega) | (refine (w2_in0 _ (by omega)).trans ?_; omega)

theorem bitLen_le_iff (x k : Nat) (hk : k ≤ 64) (hx : x < 2 ^ 64) : Lib.bitLen x ≤ k ↔ x < 2 ^ k := by
  constructor
  · intro h
    by_cases h0 : x = 0
    · subst h0; exact Nat.two_pow_pos k
    · obtain ⟨_, _, h3⟩ := Lib.bitLenAux_bounds 64 x hx h0
      exact Nat.lt_of_lt_of_le h3 (Nat.pow_le_pow_right (by omega) h)
  · exact Lib.bitLen_le x k hk

/-- How many zeros. -/
def zerosZ (x : Int) : Int := 32 - (Lib.bitLen x.toNat : Int)
theorem zerosZ_bd (x : Int) (h0 : 0 ≤ x) (h1 : x < 4294967296) : 0 ≤ zerosZ x ∧ zerosZ x ≤ 32 := by
  have := Lib.bitLen_le x.toNat 32 (by omega) (by omega)
  unfold zerosZ; omega

theorem lead32_any (x : Int) (w : World) (h0 : 0 ≤ x) (h1 : x ≤ 4294967295) :
    Calls Try.prog 138 #[.int .u32 x] w fun e w' => e = .returned (.int .i64 (zerosZ x)) ∧ w = w' := by
  have hz := zerosZ_bd x h0 (by omega)
  have hl : (Lib.bitLen x.toNat : Int) = 32 - zerosZ x := by unfold zerosZ; omega
  go_enter Try.func138, Try.ntmps138
  go_wp2_with fail
  refine (len32_any x _ h0 h1).mono ?_
  rintro e w1 ⟨rfl, rfl⟩
  rw [hl]
  go_wp2
  go_ret
  refine ⟨?_, rfl⟩
  go_num

theorem zerosOf_any {x : Int} {w : World} (h0 : 0 ≤ x) (h1 : x < 4294967296) :
    Calls Try.prog 80 #[.int .i64 x] w fun e w' => e = .returned (.tuple #[.int .i64 (zerosZ x), .bool true]) ∧ w = w' := by
  have hk : isKey x = true := (inR_eq _ _ _).2 (by omega)
  have hz := zerosZ_bd x h0 h1
  go_enter Try.func80, Try.ntmps80
  go_wp2_with fail
  refine (implIsKey_any).mono ?_
  rintro e w1 ⟨rfl, rfl⟩
  rw [hk]
  go_wp2_with fail
  refine (lead32_any x _ h0 (by omega)).mono ?_
  rintro e w1 ⟨rfl, rfl⟩
  go_wp2
  go_ret2
  exact ⟨rfl, rfl⟩

theorem zerosZ_step {x : Int} {k : Nat} (h0 : 0 ≤ x) (h1 : x < 4294967296) (hk : k < 32) : ((k : Int) < zerosZ x) ↔ (x / 2 ^ (31 - k) = 0) := by
  have hb := bitLen_le_iff x.toNat (31 - k) (by omega) (by omega)
  have hp : (0 : Int) < 2 ^ (31 - k) := by exact_mod_cast Nat.two_pow_pos (31 - k)
  have hc : ((2 ^ (31 - k) : Nat) : Int) = (2 : Int) ^ (31 - k) := by simp
  have h3 : x / 2 ^ (31 - k) = 0 ↔ x < 2 ^ (31 - k) := by
    constructor
    · intro h
      exact Int.lt_of_not_ge fun hge => by
        have h2 : 1 ≤ x / 2 ^ (31 - k) := (Int.le_ediv_iff_mul_le hp).2 (by rw [Int.one_mul]; exact hge)
        omega
    · intro h
      exact Int.ediv_eq_zero_of_lt h0 h
  rw [h3]
  unfold zerosZ
  constructor
  · intro h
    have := hb.1 (by omega)
    omega
  · intro h
    have := hb.2 (by omega)
    omega

set_option maxHeartbeats 800000 in
theorem l02Zeros_any {x : Int} {w : World} (h0 : 0 ≤ x) (h1 : x < 4294967296) :
    Calls Try.prog 75 #[.int .i64 x] w fun e w' => e = .returned (.int .i64 (zerosZ x)) ∧ w = w' := by
  have hz := zerosZ_bd x h0 h1
  go_enter Try.func75, Try.ntmps75
  go_wp2
  go_loopw [3] (fun i wr => ∃ (k : Nat), (k : Int) ≤ zerosZ x ∧ i = .int .i64 k ∧ wr = w) (fun i _ => 32 - (intOf i).toNat)
  case atStart => exact ⟨0, by omega, rfl, rfl⟩
  case round =>
    obtain ⟨k, hk, rfl, rfl⟩ := hrel
    by_cases hlt : k < 32
    · have hst := zerosZ_step h0 h1 hlt
      by_cases hc : (k : Int) < zerosZ x
      · have hd : (x / 2 ^ (31 - k) == 0) = true := by simpa using hst.1 hc
        clear hst
        go_wp2
        go_roundw
        case rel => exact ⟨k + 1, by omega, by go_num, trivial⟩
        case measure => simp [intOf]; omega
      · have hd : (x / 2 ^ (31 - k) == 0) = false := by
          rw [beq_eq_false_iff_ne]; exact fun h => hc (hst.2 h)
        clear hst
        have he : zerosZ x = k := by omega
        go_wp2
        go_ret
        exact ⟨rfl, rfl⟩
    · have he : zerosZ x = k := by omega
      go_wp2
      go_ret
      exact ⟨rfl, rfl⟩
end Go.Proofs.Ytgkmmilmdhhleaa
