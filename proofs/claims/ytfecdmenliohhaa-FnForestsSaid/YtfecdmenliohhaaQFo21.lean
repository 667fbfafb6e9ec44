/- Zeros before the first 1: the table's answer and the loop's. EdgeSketch: what one edge adds, and the plain law. -/
import Derived.Test.YtfecdmenliohhaaQFo17
import Derived.Lib.BitFns
import Derived.Lib.ItoaNum
import Derived.Test.YtfecdmenliohhaaQFo10
set_option linter.unusedVariables false
set_option linter.unusedSimpArgs false
namespace Go.Proofs.Ytfecdmenliohhaa
open Go.RowKit

theorem w2_in (n : Nat) (k : Int) (hn : n ≤ 8) (h0 : 0 ≤ k) (h1 : k ≤ 24) : wrap64 (k + wrap64 (n : Int)) = k + n := by
  unfold wrap64; omega
theorem w2_in0 (n : Nat) (hn : n ≤ 8) : wrap64 (wrap64 (n : Int)) = n := by
  unfold wrap64; omega
set_option maxHeartbeats 1000000 in
set_option maxRecDepth 100000 in
theorem len32_any (x : Int) (w : World) (h0 : 0 ≤ x) (h1 : x ≤ 4294967295) :
    Calls Try.prog 70 #[.int .u32 x] w fun e w' => e = .returned (.int .i64 (Lib.bitLen x.toNat)) ∧ w = w' := by
  go_enter Try.func70, Try.ntmps70
  by_cases c1 : 65536 ≤ x
  · by_cases c2 : 256 ≤ x / 65536
    · have a0 : 0 ≤ x / 65536 / 256 := by omega
      have a1 : x / 65536 / 256 ≤ 255 := by omega
      have e8 := Lib.len8_of _ a0 a1
      have l := Lib.bitLen_le8' _ a0 a1
      have e : (x / 65536 / 256).toNat = x.toNat / 16777216 := by omega
      have s := Lib.bitLen_shift24 x.toNat (by omega) (by omega)
      go_wp2
      go_ret
      refine ⟨congrArg Ending.returned (congrArg (Value.int IntKind.i64) ?_), rfl⟩
      rw [e] at l
      first | rfl | (refine (w2_in _ _ (by omega) (by omega) (by omega)).trans ?_; omega) | (refine (w2_in0 _ (by omega)).trans ?_; omega)
    · have a0 : 0 ≤ x / 65536 := by omega
      have a1 : x / 65536 ≤ 255 := by omega
      have e8 := Lib.len8_of _ a0 a1
      have l := Lib.bitLen_le8' _ a0 a1
      have e : (x / 65536).toNat = x.toNat / 65536 := by omega
      have s := Lib.bitLen_shift16 x.toNat (by omega) (by omega)
      go_wp2
      go_ret
      refine ⟨congrArg Ending.returned (congrArg (Value.int IntKind.i64) ?_), rfl⟩
      rw [e] at l
      first | rfl | (refine (w2_in _ _ (by omega) (by omega) (by omega)).trans ?_; omega) | (refine (w2_in0 _ (by omega)).trans ?_; omega)
  · by_cases c2 : 256 ≤ x
    · have a0 : 0 ≤ x / 256 := by omega
      have a1 : x / 256 ≤ 255 := by omega
      have e8 := Lib.len8_of _ a0 a1
      have l := Lib.bitLen_le8' _ a0 a1
      have e : (x / 256).toNat = x.toNat / 256 := by omega
      have s := Lib.bitLen_shift8 x.toNat (by omega) (by omega)
      go_wp2
      go_ret
      refine ⟨congrArg Ending.returned (congrArg (Value.int IntKind.i64) ?_), rfl⟩
      rw [e] at l
      first | rfl | (refine (w2_in _ _ (by omega) (by omega) (by omega)).trans ?_; omega) | (refine (w2_in0 _ (by omega)).trans ?_; omega)
    · have a1 : x ≤ 255 := by omega
      have e8 := Lib.len8_of _ h0 a1
      have l := Lib.bitLen_le8' _ h0 a1
      go_wp2
      go_ret
      refine ⟨congrArg Ending.returned (congrArg (Value.int IntKind.i64) ?_), rfl⟩
      first | rfl | (refine (w2_in _ _ (by omega) (by omega) (by omega)).trans ?_; omega) | (refine (w2_in0 _ (by omega)).trans ?_; omega)

theorem bitLen_le_iff (x k : Nat) (hk : k ≤ 64) (hx : x < 2 ^ 64) : Lib.bitLen x ≤ k ↔ x < 2 ^ k := by
  constructor
  · intro h
    by_cases h0 : x = 0
    · subst h0; exact Nat.two_pow_pos k
    · obtain ⟨_, _, h3⟩ := Lib.bitLenAux_bounds 64 x hx h0
      exact Nat.lt_of_lt_of_le h3 (Nat.pow_le_pow_right (by omega) h)
  · exact Lib.bitLen_le x k hk

/-- How many zeros. -/
def zerosZ (x : Int) : Int := 32 - (Lib.bitLen x.toNat : Int)
theorem zerosZ_bd (x : Int) (h0 : 0 ≤ x) (h1 : x < 4294967296) : 0 ≤ zerosZ x ∧ zerosZ x ≤ 32 := by
  have := Lib.bitLen_le x.toNat 32 (by omega) (by omega)
  unfold zerosZ; omega

theorem lead32_any (x : Int) (w : World) (h0 : 0 ≤ x) (h1 : x ≤ 4294967295) :
    Calls Try.prog 52 #[.int .u32 x] w fun e w' => e = .returned (.int .i64 (zerosZ x)) ∧ w = w' := by
  have hz := zerosZ_bd x h0 (by omega)
  have hl : (Lib.bitLen x.toNat : Int) = 32 - zerosZ x := by unfold zerosZ; omega
  go_enter Try.func52, Try.ntmps52
  go_wp2_with fail
  refine (len32_any x _ h0 h1).mono ?_
  rintro e w1 ⟨rfl, rfl⟩
  rw [hl]
  go_wp2
  go_ret
  refine ⟨?_, rfl⟩
  go_num

theorem zerosOf_any {x : Int} {w : World} (h0 : 0 ≤ x) (h1 : x < 4294967296) :
    Calls Try.prog 38 #[.int .i64 x] w fun e w' => e = .returned (.tuple #[.int .i64 (zerosZ x), .bool true]) ∧ w = w' := by
  have hk : isKey x = true := (inR_eq _ _ _).2 (by omega)
  have hz := zerosZ_bd x h0 h1
  go_enter Try.func38, Try.ntmps38
  go_wp2_with fail
  refine (implIsKey_any).mono ?_
  rintro e w1 ⟨rfl, rfl⟩
  rw [hk]
  go_wp2_with fail
  refine (lead32_any x _ h0 (by omega)).mono ?_
  rintro e w1 ⟨rfl, rfl⟩
  go_wp2
  go_ret2
  exact ⟨rfl, rfl⟩

theorem zerosZ_step {x : Int} {k : Nat} (h0 : 0 ≤ x) (h1 : x < 4294967296) (hk : k < 32) : ((k : Int) < zerosZ x) ↔ (x / 2 ^ (31 - k) = 0) := by
  have hb := bitLen_le_iff x.toNat (31 - k) (by omega) (by omega)
  have hp : (0 : Int) < 2 ^ (31 - k) := by exact_mod_cast Nat.two_pow_pos (31 - k)
  have hc : ((2 ^ (31 - k) : Nat) : Int) = (2 : Int) ^ (31 - k) := by simp
  have h3 : x / 2 ^ (31 - k) = 0 ↔ x < 2 ^ (31 - k) := by
    constructor
    · intro h
      exact Int.lt_of_not_ge fun hge => by
        have h2 : 1 ≤ x / 2 ^ (31 - k) := (Int.le_ediv_iff_mul_le hp).2 (by rw [Int.one_mul]; exact hge)
        omega
    · intro h
      exact Int.ediv_eq_zero_of_lt h0 h
  rw [h3]
  unfold zerosZ
  constructor
  · intro h
    have := hb.1 (by omega)
    omega
  · intro h
    have := hb.2 (by omega)
    omega

end Go.Proofs.Ytfecdmenliohhaa

namespace Go.Proofs.Ytfecdmenliohhaa
open Go.RowKit

def bump (O : List Int) (i : Nat) (v : Int) : List Int := O.set i (wrap64 (O[i]?.getD 0 + v))
theorem bump_length (O : List Int) (i : Nat) (v : Int) : (bump O i v).length = O.length := by simp [bump]
/-- One level. -/
def lev3 (s m : Int) (O : List Int) (l : Nat) : List Int := bump (bump (bump O (3 * l) s) (3 * l + 1) (s * m)) (3 * l + 2) (s * m * m)
theorem lev3_length (s m : Int) (O : List Int) (l : Nat) : (lev3 s m O l).length = O.length := by simp [lev3, bump_length]
def levs (s m : Int) (O : List Int) (L : Nat) : List Int := (List.range L).foldl (lev3 s m) O
theorem levs_succ (s m : Int) (O : List Int) (L : Nat) : levs s m O (L + 1) = lev3 s m (levs s m O L) L := by
  unfold levs; rw [List.range_succ, List.foldl_append]; rfl
theorem levs_length (s m : Int) (O : List Int) (L : Nat) : (levs s m O L).length = O.length := by
  induction L with
  | zero => rfl
  | succ L ih => rw [levs_succ, lev3_length, ih]
/-- The sign of an edge at a node. -/
def sgnE (a b v : Int) : Int := if a = v then 1 else if b = v then -1 else 0
theorem sgnE_bd (a b v : Int) : -1 ≤ sgnE a b v ∧ sgnE a b v ≤ 1 := by
  unfold sgnE
  split
  · omega
  · split <;> omega
/-- How many levels. -/
def levN (m salt : Int) : Nat := Nat.min 16 ((zerosZ (hashZ m salt)).toNat + 1)
def estep (n v salt : Int) (xs : List Int) (O : List Int) (j : Nat) : List Int :=
  let a := min (xs[2 * j]?.getD 0) (xs[2 * j + 1]?.getD 0)
  let b := max (xs[2 * j]?.getD 0) (xs[2 * j + 1]?.getD 0)
  levs (sgnE a b v) (a * n + b) O (levN (a * n + b) salt)
def esk (n v salt : Int) (xs : List Int) (k : Nat) : List Int := (List.range k).foldl (estep n v salt xs) (List.replicate 48 0)
theorem foldl_snoc {α : Type} (f : α → Nat → α) (d : α) (k : Nat) : (List.range (k + 1)).foldl f d = f ((List.range k).foldl f d) k := by
  rw [List.range_succ, List.foldl_append]; rfl
theorem esk_succ (n v salt : Int) (xs : List Int) (k : Nat) : esk n v salt xs (k + 1) = estep n v salt xs (esk n v salt xs k) k := foldl_snoc (estep n v salt xs) (List.replicate 48 0) k
theorem esk_length (n v salt : Int) (xs : List Int) (k : Nat) : (esk n v salt xs k).length = 48 := by
  induction k with
  | zero => simp [esk]
  | succ k ih => simp [esk_succ, estep, levs_length, ih]
theorem estep_eq {n v salt : Int} {xs O : List Int} {j : Nat} {x y a b : Int} (hx : xs[2 * j]?.getD 0 = x) (hy : xs[2 * j + 1]?.getD 0 = y) (ha : min x y = a) (hb : max x y = b) :
    estep n v salt xs O j = levs (sgnE a b v) (a * n + b) O (levN (a * n + b) salt) := by
  simp only [estep, hx, hy, ha, hb]


theorem min15 (Z : Nat) : ∃ M : Nat, (if (15 : Int) < (Z : Int) then (15 : Int) else (Z : Int)) = (M : Int) ∧ M ≤ 15 ∧ Nat.min 16 (Z + 1) = M + 1 := by
  have hm : ∀ a b : Nat, Nat.min a b = if a ≤ b then a else b := fun a b => Nat.min_def
  by_cases h : 15 < Z
  · exact ⟨15, by rw [if_pos (by omega)]; rfl, Nat.le_refl _, by rw [hm, if_pos (by omega)]⟩
  · refine ⟨Z, by rw [if_neg (by omega)], by omega, ?_⟩
    rw [hm]
    split <;> omega
theorem levN_of {z : Int} {Z : Nat} (hZ : z = (Z : Int)) : z.toNat = Z := by rw [hZ]; rfl
/-- The hash's zeros, and the last level. -/
theorem lev_hid {m s : Int} : ∃ Z M : Nat, zerosZ (hashZ m s) = (Z : Int) ∧ Z ≤ 32 ∧ (if (15 : Int) < (Z : Int) then (15 : Int) else (Z : Int)) = (M : Int) ∧ M ≤ 15 ∧ levN m s = M + 1 := by
  have hb := hashZ_bd m s
  unfold levN
  generalize hashZ m s = h at hb
  have hz := zerosZ_bd h hb.1 hb.2
  generalize zerosZ h = z at hz
  obtain ⟨Z, rfl⟩ : ∃ Z : Nat, z = (Z : Int) := ⟨z.toNat, by omega⟩
  obtain ⟨M, h1, h2, h3⟩ := min15 Z
  exact ⟨Z, M, rfl, by omega, h1, h2, h3⟩
end Go.Proofs.Ytfecdmenliohhaa
