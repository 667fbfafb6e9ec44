/- Zeros before the first 1: the table's answer and the loop's. -/
import Derived.Test.YtihbckoldblpcaaRow
import Derived.Lib.BitFns
import Derived.Lib.ItoaNum
namespace Go.Proofs.Ytihbckoldblpcaa
open Go.RowKit

theorem w2_in (n : Nat) (k : Int) (hn : n ≤ 8) (h0 : 0 ≤ k) (h1 : k ≤ 24) : wrap64 (k + wrap64 (n : Int)) = k + n := by
  unfold wrap64; omega
theorem w2_in0 (n : Nat) (hn : n ≤ 8) : wrap64 (wrap64 (n : Int)) = n := by
  unfold wrap64; omega
set_option maxHeartbeats 1000000 in
set_option maxRecDepth 100000 in
theorem len32_any (x : Int) (w : World) (h0 : 0 ≤ x) (h1 : x ≤ 4294967295) :
    Calls Try.prog 155 #[.int .u32 x] w fun e w' => e = .returned (.int .i64 (Lib.bitLen x.toNat)) ∧ w = w' := by
  go_enter Try.func155, Try.ntmps155
  by_cases c1 : 65536 ≤ x
  · by_cases c2 : 256 ≤ x / 65536
    · have a0 : 0 ≤ x / 65536 / 256 := by omega
      have a1 : x / 65536 / 256 ≤ 255 := by omega
      have e8 := Lib.len8_of _ a0 a1
      have l := Lib.bitLen_le8' _ a0 a1
      have e : (x / 65536 / 256).toNat = x.toNat / 16777216 := by omega
      have s := Lib.bitLen_shift24 x.toNat (by omega) (by omega)
      go_wp2
      go_ret
      refine ⟨congrArg Ending.returned (congrArg (Value.int IntKind.i64) ?_), rfl⟩
      rw [e] at l
      first | rfl | (refine (w2_in _ _ (by omega) (by omega) (by omega)).trans ?_; omega) | (refine (w2_in0 _ (by omega)).trans ?_; omega)
    · have a0 : 0 ≤ x / 65536 := by omega
      have a1 : x / 65536 ≤ 255 := by omega
      have e8 := Lib.len8_of _ a0 a1
      have l := Lib.bitLen_le8' _ a0 a1
      have e : (x / 65536).toNat = x.toNat / 65536 := by omega
      have s := Lib.bitLen_shift16 x.toNat (by omega) (by omega)
      go_wp2
      go_ret
      refine ⟨congrArg Ending.returned (congrArg (Value.int IntKind.i64) ?_), rfl⟩
      rw [e] at l
      first | rfl | (refine (w2_in _ _ (by omega) (by omega) (by omega)).trans ?_; omega) | (refine (w2_in0 _ (by omega)).trans ?_; omega)
  · by_cases c2 : 256 ≤ x
    · have a0 : 0 ≤ x / 256 := by omega
      have a1 : x / 256 ≤ 255 := by omega
      have e8 := Lib.len8_of _ a0 a1
      have l := Lib.bitLen_le8' _ a0 a1
      have e : (x / 256).toNat = x.toNat / 256 := by omega
      have s := Lib.bitLen_shift8 x.toNat (by omega) (by omega)
      go_wp2
      go_ret
      refine ⟨congrArg Ending.returned (congrArg (Value.int IntKind.i64) ?_), rfl⟩
      rw [e] at l
      first | rfl | (refine (w2_in _ _ (by omega) (by omega) (by omega)).trans ?_; omega) | (refine (w2_in0 _ (by omega)).trans ?_; omega)
    · have a1 : x ≤ 255 := by omega
      have e8 := Lib.len8_of _ h0 a1
      have l := Lib.bitLen_le8' _ h0 a1
      go_wp2
      go_ret
      refine ⟨congrArg Ending.returned (congrArg (Value.int IntKind.i64) ?_), rfl⟩
      first | rfl | (refine (w2_in _ _ (by omega) (by omega) (by omega)).trans ?_; omega) | (refine (w2_in0 _ (by omega)).trans ?_; omega)

theorem bitLen_le_iff (x k : Nat) (hk : k ≤ 64) (hx : x < 2 ^ 64) : Lib.bitLen x ≤ k ↔ x < 2 ^ k := by
  constructor
  · intro h
    by_cases h0 : x = 0
    · subst h0; exact Nat.two_pow_pos k
    · obtain ⟨_, _, h3⟩ := Lib.bitLenAux_bounds 64 x hx h0
      exact Nat.lt_of_lt_of_le h3 (Nat.pow_le_pow_right (by omega) h)
  · exact Lib.bitLen_le x k hk

/-- How many zeros. -/
def zerosZ (x : Int) : Int := 32 - (Lib.bitLen x.toNat : Int)
theorem zerosZ_bd (x : Int) (h0 : 0 ≤ x) (h1 : x < 4294967296) : 0 ≤ zerosZ x ∧ zerosZ x ≤ 32 := by
  have := Lib.bitLen_le x.toNat 32 (by omega) (by omega)
  unfold zerosZ; omega

theorem zerosZ_step {x : Int} {k : Nat} (h0 : 0 ≤ x) (h1 : x < 4294967296) (hk : k < 32) : ((k : Int) < zerosZ x) ↔ (x / 2 ^ (31 - k) = 0) := by
  have hb := bitLen_le_iff x.toNat (31 - k) (by omega) (by omega)
  have hp : (0 : Int) < 2 ^ (31 - k) := by exact_mod_cast Nat.two_pow_pos (31 - k)
  have hc : ((2 ^ (31 - k) : Nat) : Int) = (2 : Int) ^ (31 - k) := by simp
  have h3 : x / 2 ^ (31 - k) = 0 ↔ x < 2 ^ (31 - k) := by
    constructor
    · intro h
      exact Int.lt_of_not_ge fun hge => by
        have h2 : 1 ≤ x / 2 ^ (31 - k) := (Int.le_ediv_iff_mul_le hp).2 (by rw [Int.one_mul]; exact hge)
        omega
    · intro h
      exact Int.ediv_eq_zero_of_lt h0 h
  rw [h3]
  unfold zerosZ
  constructor
  · intro h
    have := hb.1 (by omega)
    omega
  · intro h
    have := hb.2 (by omega)
    omega

end Go.Proofs.Ytihbckoldblpcaa
