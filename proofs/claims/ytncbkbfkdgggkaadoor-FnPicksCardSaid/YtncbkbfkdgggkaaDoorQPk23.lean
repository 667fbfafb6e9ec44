/- math/bits.TrailingZeros32 out of its table, and what is made of it in both texts. -/
import Derived.Test.YtncbkbfkdgggkaaDoorQPk14
import Derived.Test.YtncbkbfkdgggkaaDoorQPk5
import Derived.Test.YtncbkbfkdgggkaaDoorQPk10
import Derived.Shelf.Spec.TrailingZeros
import Derived.IntWalk
set_option linter.unusedVariables false
set_option linter.unusedSimpArgs false
namespace Go.Proofs.YtncbkbfkdgggkaaDoor
open Go.RowKit

/-- The library's table in its variable. -/
def Tab (w : World) : Prop := TabAt 0 Lib.deBruijn32tab w
theorem Tab.below {w w' : World} (h : Tab w) (hb : Below w.heap.size w w') : Tab w' := fun j hj => by
  have h1 := h j hj
  have := World.block_lt_of_cell? w _ h1
  rw [hb.cell this]; exact h1
theorem Tab.drewN {w : World} (h : Tab w) (n : Nat) : Tab (w.drewN n) := fun j hj => h j hj
theorem Tab.grown {w w' : World} {row : Option Nat} (h : Tab w) (hg : w.grownBy w' row) (hne : row ≠ some 0) : Tab w' := fun j hj => by
  have h1 := h j hj
  have hlt := World.block_lt_of_cell? w _ h1
  have hbl := hg.block 0 hlt (fun e => hne e.symm)
  unfold World.cell? at *
  simp only at *
  rw [hbl]; exact h1
theorem Tab.lt {w : World} (h : Tab w) : 0 < w.heap.size := by
  have h1 := h 0 (by decide)
  exact World.block_lt_of_cell? w _ h1

set_option maxHeartbeats 1000000 in
theorem tz32_core {x k idx : Nat} {w : World} (hx0 : ((x : Int) == 0) = false) (key : bits BinOp.and IntKind.u32 (x : Int) (-(x : Int) % 4294967296) * 125613361 % 4294967296 / 134217728 = (idx : Int))
    (hi : idx < 32) (hk : k < 32) (hcell : w.cell? ⟨0, idx, none⟩ = some (.int .u8 k)) :
    Calls Tryd.prog 51 #[.int .u32 x] w fun e w' => e = .returned (.int .i64 k) ∧ w = w' := by
  go_enter Tryd.func51, Tryd.ntmps51
  go_wp2_with (simp only [key])
  go_ret
  exact ⟨rfl, rfl⟩
theorem tz32_zero {w : World} : Calls Tryd.prog 51 #[.int .u32 0] w fun e w' => e = .returned (.int .i64 32) ∧ w = w' := by
  go_enter Tryd.func51, Tryd.ntmps51
  go_wp2
  go_ret
  exact ⟨rfl, rfl⟩
theorem tz32_any {x : Int} {w : World} (h0 : 0 ≤ x) (h1 : x < 4294967296) (hT : Tab w) :
    Calls Tryd.prog 51 #[.int .u32 x] w fun e w' => e = .returned (.int .i64 (lowZ x)) ∧ w = w' := by
  obtain ⟨y, rfl⟩ := Int.eq_ofNat_of_zero_le h0
  unfold lowZ
  rw [Int.toNat_natCast]
  by_cases hy : y = 0
  · subst hy; exact tz32_zero
  · obtain ⟨hlow, hk⟩ := Lib.lowest_bit 32 y hy (by omega)
    obtain ⟨hi, htab⟩ := Lib.deBruijn32_at _ hk
    have hcell := hT _ hi
    rw [htab] at hcell
    exact tz32_core (by simp; omega) (tz32_key y _ (by omega) hy hlow) hi hk hcell

theorem implLow_any {x : Int} {w : World} (h0 : 0 ≤ x) (h1 : x < 4294967296) (hT : Tab w) :
    Calls Tryd.prog 20 #[.int .i64 x] w fun e w' => e = .returned (.tuple #[.int .i64 (lowZ x), .bool true]) ∧ w = w' := by
  have hk : isKey x = true := by simp [isKey, inR]; omega
  have HT : Hid (Tab w) := hT
  have ew : IntKind.u32.wrap x = x := by rw [IntKind.wrap_u32]; omega
  have hbd := lowZ_bd h0 h1
  clear hT
  go_enter Tryd.func20, Tryd.ntmps20
  go_wp2_with fail
  refine implIsKey_any.mono ?_
  rintro e w1 ⟨rfl, rfl⟩
  rw [hk]
  go_wp2_with fail
  refine (tz32_any h0 h1 HT.out).mono ?_
  rintro e w1 ⟨rfl, rfl⟩
  go_wp2
  go_ret2
  exact ⟨rfl, rfl⟩

theorem and_one64 {y : Int} (h0 : 0 ≤ y) (h1 : y < 4294967296) : bits .and .i64 y 1 = y % 2 := by
  obtain ⟨a, rfl⟩ := Int.eq_ofNat_of_zero_le h0
  have e1 : (BitVec.ofInt 64 (a : Int)).toNat = a := by
    rw [BitVec.ofInt_natCast, BitVec.toNat_ofNat]; exact Nat.mod_eq_of_lt (by omega)
  show IntKind.i64.wrap ((BitVec.ofInt 64 (a : Int) &&& BitVec.ofInt 64 1).toNat : Int) = _
  have e2 : (BitVec.ofInt 64 1).toNat = 1 := by decide
  rw [BitVec.toNat_and, e1, e2, Nat.and_one_is_mod, IntWalk.i64_in _ (by omega)]
  omega
theorem low_bit {x : Int} {k : Nat} (h0 : 0 ≤ x) (h1 : x < 4294967296) (hk : k < 32) (hle : (k : Int) ≤ lowZ x) : (bits .and .i64 (x / 2 ^ k) 1 == 0) = decide ((k : Int) < lowZ x) := by
  have hp : (0 : Int) < 2 ^ k := by exact_mod_cast Nat.two_pow_pos k
  have hb0 : 0 ≤ x / 2 ^ k := Int.ediv_nonneg h0 (by omega)
  have hb1 : x / 2 ^ k < 4294967296 := Int.lt_of_le_of_lt (Int.ediv_le_self _ h0) h1
  rw [and_one64 hb0 hb1]
  by_cases h : (k : Int) < lowZ x
  · rw [lowZ_zero h0 h1 h, decide_eq_true h]; rfl
  · rw [lowZ_one h0 h1 (by omega) hk, decide_eq_false h]; rfl

end Go.Proofs.YtncbkbfkdgggkaaDoor
