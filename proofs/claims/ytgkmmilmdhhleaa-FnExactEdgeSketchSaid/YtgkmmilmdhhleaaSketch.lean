/- EdgeSketch: what one edge adds, and the plain law. -/
import Derived.Test.YtgkmmilmdhhleaaZeros
import Derived.Test.YtgkmmilmdhhleaaForest
namespace Go.Proofs.Ytgkmmilmdhhleaa
open Go.RowKit

def bump (O : List Int) (i : Nat) (v : Int) : List Int := O.set i (wrap64 (O[i]?.getD 0 + v))
theorem bump_length (O : List Int) (i : Nat) (v : Int) : (bump O i v).length = O.length := by simp [bump]
/-- One level. -/
def lev3 (s m : Int) (O : List Int) (l : Nat) : List Int := bump (bump (bump O (3 * l) s) (3 * l + 1) (s * m)) (3 * l + 2) (s * m * m)
theorem lev3_length (s m : Int) (O : List Int) (l : Nat) : (lev3 s m O l).length = O.length := by simp [lev3, bump_length]
def levs (s m : Int) (O : List Int) (L : Nat) : List Int := (List.range L).foldl (lev3 s m) O
theorem levs_succ (s m : Int) (O : List Int) (L : Nat) : levs s m O (L + 1) = lev3 s m (levs s m O L) L := by
  unfold levs; rw [List.range_succ, List.foldl_append]; rfl
theorem levs_length (s m : Int) (O : List Int) (L : Nat) : (levs s m O L).length = O.length := by
  induction L with
  | zero => rfl
  | succ L ih => rw [levs_succ, lev3_length, ih]
/-- The sign of an edge at a node. -/
def sgnE (a b v : Int) : Int := if a = v then 1 else if b = v then -1 else 0
theorem sgnE_bd (a b v : Int) : -1 ≤ sgnE a b v ∧ sgnE a b v ≤ 1 := by
  unfold sgnE
  split
  · omega
  · split <;> omega
/-- How many levels. -/
def levN (m salt : Int) : Nat := Nat.min 16 ((zerosZ (hashZ m salt)).toNat + 1)
def estep (n v salt : Int) (xs : List Int) (O : List Int) (j : Nat) : List Int :=
  let a := min (xs[2 * j]?.getD 0) (xs[2 * j + 1]?.getD 0)
  let b := max (xs[2 * j]?.getD 0) (xs[2 * j + 1]?.getD 0)
  levs (sgnE a b v) (a * n + b) O (levN (a * n + b) salt)
def esk (n v salt : Int) (xs : List Int) (k : Nat) : List Int := (List.range k).foldl (estep n v salt xs) (List.replicate 48 0)
theorem foldl_snoc {α : Type} (f : α → Nat → α) (d : α) (k : Nat) : (List.range (k + 1)).foldl f d = f ((List.range k).foldl f d) k := by
  rw [List.range_succ, List.foldl_append]; rfl
theorem esk_succ (n v salt : Int) (xs : List Int) (k : Nat) : esk n v salt xs (k + 1) = estep n v salt xs (esk n v salt xs k) k := foldl_snoc (estep n v salt xs) (List.replicate 48 0) k
theorem esk_length (n v salt : Int) (xs : List Int) (k : Nat) : (esk n v salt xs k).length = 48 := by
  induction k with
  | zero => simp [esk]
  | succ k ih => simp [esk_succ, estep, levs_length, ih]
theorem estep_eq {n v salt : Int} {xs O : List Int} {j : Nat} {x y a b : Int} (hx : xs[2 * j]?.getD 0 = x) (hy : xs[2 * j + 1]?.getD 0 = y) (ha : min x y = a) (hb : max x y = b) :
    estep n v salt xs O j = levs (sgnE a b v) (a * n + b) O (levN (a * n + b) salt) := by
  simp only [estep, hx, hy, ha, hb]


theorem min15 (Z : Nat) : ∃ M : Nat, (if (15 : Int) < (Z : Int) then (15 : Int) else (Z : Int)) = (M : Int) ∧ M ≤ 15 ∧ Nat.min 16 (Z + 1) = M + 1 := by
  have hm : ∀ a b : Nat, Nat.min a b = if a ≤ b then a else b := fun a b => Nat.min_def
  by_cases h : 15 < Z
  · exact ⟨15, by rw [if_pos (by omega)]; rfl, Nat.le_refl _, by rw [hm, if_pos (by omega)]⟩
  · refine ⟨Z, by rw [if_neg (by omega)], by omega, ?_⟩
    rw [hm]
    split <;> omega
theorem levN_of {z : Int} {Z : Nat} (hZ : z = (Z : Int)) : z.toNat = Z := by rw [hZ]; rfl
/-- The hash's zeros, and the last level. -/
theorem lev_hid {m s : Int} : ∃ Z M : Nat, zerosZ (hashZ m s) = (Z : Int) ∧ Z ≤ 32 ∧ (if (15 : Int) < (Z : Int) then (15 : Int) else (Z : Int)) = (M : Int) ∧ M ≤ 15 ∧ levN m s = M + 1 := by
  have hb := hashZ_bd m s
  unfold levN
  generalize hashZ m s = h at hb
  have hz := zerosZ_bd h hb.1 hb.2
  generalize zerosZ h = z at hz
  obtain ⟨Z, rfl⟩ : ∃ Z : Nat, z = (Z : Int) := ⟨z.toNat, by omega⟩
  obtain ⟨M, h1, h2, h3⟩ := min15 Z
  exact ⟨Z, M, rfl, by omega, h1, h2, h3⟩
end Go.Proofs.Ytgkmmilmdhhleaa
