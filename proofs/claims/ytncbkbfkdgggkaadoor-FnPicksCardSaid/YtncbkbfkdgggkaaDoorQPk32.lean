/- Lists of numbers as texts, in both texts. ListText, and what has a text, in both texts. -/
import Derived.Test.YtncbkbfkdgggkaaDoorQPk29
import Derived.Test.YtncbkbfkdgggkaaDoorQPk9
import Derived.Test.YtncbkbfkdgggkaaDoorQPk0
import Derived.Test.YtncbkbfkdgggkaaDoorQPk6
import Derived.Test.YtncbkbfkdgggkaaDoorQPk4
import Derived.Lib.Join
set_option linter.unusedVariables false
set_option linter.unusedSimpArgs false
namespace Go.Proofs.YtncbkbfkdgggkaaDoor
open Go.RowKit

theorem nDigits_le {u k : Nat} (h : u < 10 ^ (k + 1)) : Lib.nDigits u ≤ k + 1 := by
  induction k generalizing u with
  | zero => rw [Lib.nDigits_small (by simpa using h)]; exact Nat.le_refl _
  | succ k ih =>
    by_cases hs : u < 10
    · rw [Lib.nDigits_small hs]; omega
    · rw [Lib.nDigits_big hs]
      have := ih (u := u / 10) (by rw [Nat.div_lt_iff_lt_mul (by decide)]; rw [Nat.pow_succ] at h; exact h)
      omega
theorem decT_size {n : Int} (h0 : -9223372036854775808 ≤ n) (h1 : n ≤ 9223372036854775807) : (decT n).size ≤ 20 := by
  have e : (decT n).size = (Lib.itoa n).length := by
    unfold decT ByteArray.size
    simp
  have hp : (10 : Nat) ^ (18 + 1) = 10000000000000000000 := by decide
  rw [e]
  unfold Lib.itoa
  split
  · rw [List.length_cons, Lib.decDigits_length]
    have := nDigits_le (u := n.natAbs) (k := 18) (by omega)
    omega
  · rw [Lib.decDigits_length]
    have := nDigits_le (u := n.toNat) (k := 18) (by omega)
    omega
theorem toL_append (a b : ByteArray) : toL (a ++ b) = toL a ++ toL b := by
  unfold toL
  rw [ByteArray.data_append]
  simp

/-- Numbers with commas. -/
def jT (xs : List Int) : Nat → ByteArray
  | 0 => ⟨#[]⟩
  | k + 1 => if k = 0 then decT (at0 xs 0) else jT xs k ++ (⟨#[44]⟩ ++ decT (at0 xs k))
def lstT (xs : List Int) : ByteArray := if xs.length = 0 then ⟨#[110, 111, 110, 101]⟩ else jT xs xs.length
theorem jT_one (xs : List Int) : jT xs 1 = decT (at0 xs 0) := rfl
theorem jT_succ {xs : List Int} {k : Nat} (h : k ≠ 0) : jT xs (k + 1) = jT xs k ++ (⟨#[44]⟩ ++ decT (at0 xs k)) := by rw [jT, if_neg h]
def InB (xs : List Int) : Prop := ∀ k, k < xs.length → -9223372036854775808 ≤ at0 xs k ∧ at0 xs k ≤ 9223372036854775807
theorem jT_size {xs : List Int} (hb : InB xs) (k : Nat) (hk : k ≤ xs.length) : (jT xs k).size ≤ 21 * k := by
  induction k with
  | zero => exact Nat.le_refl _
  | succ k ih =>
    have h1 := hb k (by omega)
    by_cases h : k = 0
    · subst h; rw [jT_one]; have := decT_size h1.1 h1.2; omega
    · rw [jT_succ h, ByteArray.size_append, ByteArray.size_append]
      have := decT_size h1.1 h1.2
      have := ih (by omega)
      have e : (⟨#[44]⟩ : ByteArray).size = 1 := rfl
      omega
theorem lstT_size {xs : List Int} (hb : InB xs) : (lstT xs).size ≤ 21 * xs.length + 4 := by
  unfold lstT
  split
  · show 4 ≤ _; omega
  · have := jT_size hb xs.length (Nat.le_refl _); omega
theorem joinTail_snoc (sep : List UInt8) (r : List (List UInt8)) (b : List UInt8) : Lib.joinTail sep (r ++ [b]) = Lib.joinTail sep r ++ (sep ++ b) := by
  unfold Lib.joinTail
  simp
theorem jT_join (x : Int) (r : List Int) (j : Nat) (hj : j ≤ r.length) : toL (jT (x :: r) (j + 1)) = Lib.itoa x ++ Lib.joinTail [44] ((r.take j).map Lib.itoa) := by
  induction j with
  | zero => rw [jT_one]; simp [at0, toL, decT, Lib.joinTail]
  | succ j ih =>
    rw [jT_succ (by omega), toL_append, toL_append, ih (by omega), List.take_add_one, List.getElem?_eq_getElem (by omega)]
    simp only [Option.toList_some, List.map_append, List.map_cons, List.map_nil]
    rw [joinTail_snoc, List.append_assoc]
    have : at0 (x :: r) (j + 1) = r[j] := by simp [at0, show j < r.length by omega]
    rw [this]
    rfl
theorem join_lst {xs : List Int} (h : xs.length ≠ 0) : (⟨(Lib.join ((xs.map decT).map (·.data.toList)) [44]).toArray⟩ : ByteArray) = lstT xs := by
  unfold lstT
  rw [if_neg h]
  apply toL_inj
  cases xs with
  | nil => exact absurd rfl h
  | cons x r =>
    have e : ((x :: r).map decT).map (fun b => b.data.toList) = Lib.itoa x :: r.map Lib.itoa := by
      rw [List.map_map, List.map_cons]
      congr 1
    have := jT_join x r r.length (Nat.le_refl _)
    rw [List.take_length] at this
    rw [e, Lib.join_cons, List.length_cons, this]
    simp [toL]

/-- A list that has a text. -/
def valR (x : Int) : Bool := inR x (-1000000000000000) 1000000000000000
def valsB (xs : List Int) : Bool := xs.all valR && decide (xs.length ≤ 64)
theorem valsB_in {xs : List Int} (h : valsB xs = true) : InB xs ∧ xs.length ≤ 64 := by
  unfold valsB at h
  rw [Bool.and_eq_true, List.all_eq_true, decide_eq_true_eq] at h
  refine ⟨fun k hk => ?_, h.2⟩
  have e : at0 xs k = xs[k] := by simp [at0, hk]
  rw [e]
  have := h.1 _ (List.getElem_mem hk)
  unfold valR at this
  rw [inR_eq] at this
  omega
theorem valsB_no {xs : List Int} {k : Nat} (hk : k < xs.length) (h : valR xs[k] = false) : valsB xs = false := by
  unfold valsB
  have : xs.all valR = false := by rw [List.all_eq_false]; exact ⟨_, List.getElem_mem hk, by rw [h]; simp⟩
  rw [this]; rfl
theorem valsB_yes {xs : List Int} (h : ∀ x ∈ xs, (!valR x) = false) : valsB xs = decide (xs.length ≤ 64) := by
  unfold valsB
  have : xs.all valR = true := by rw [List.all_eq_true]; intro x hx; simpa using h x hx
  rw [this]; rfl

end Go.Proofs.YtncbkbfkdgggkaaDoor

namespace Go.Proofs.YtncbkbfkdgggkaaDoor
open Go.RowKit

/-- ListText. -/
def ltT (xs : List Int) : ByteArray := if valsB xs then lstT xs else ⟨#[]⟩
theorem ltT_yes {xs : List Int} (h : valsB xs = true) : ltT xs = lstT xs := by unfold ltT; rw [h]; rfl
theorem ltT_no {xs : List Int} (h : valsB xs = false) : ltT xs = ⟨#[]⟩ := by unfold ltT; rw [h]; rfl
end Go.Proofs.YtncbkbfkdgggkaaDoor
