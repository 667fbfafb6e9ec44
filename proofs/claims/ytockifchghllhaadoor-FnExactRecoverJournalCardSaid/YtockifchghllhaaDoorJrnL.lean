/- Journals: plain. -/
import Derived.Test.YtockifchghllhaaDoorTxt
import Derived.Test.YtockifchghllhaaDoorLines
namespace Go.Proofs.YtockifchghllhaaDoor
open Go.RowKit

def bsT (L : List ByteArray) (k : Nat) : ByteArray := L[k]?.getD ⟨#[]⟩
/-- The check number behind k lines. -/
def jC (L : List ByteArray) : Nat → Int
  | 0 => 0
  | k + 1 => chk (jC L k) (bsT L k) (bsT L k).size
theorem jC_bd (L : List ByteArray) (k : Nat) : 0 ≤ jC L k ∧ jC L k < 65003 := by
  induction k with
  | zero => exact ⟨Int.le_refl _, by show (0 : Int) < 65003; decide⟩
  | succ k ih => exact chk_bd ih _
/-- A line of a journal. -/
def jLine (c : Int) (l : ByteArray) : ByteArray := ((decT c ++ ⟨#[32]⟩) ++ l) ++ ⟨#[10]⟩
/-- The journal of k lines. -/
def jJ (L : List ByteArray) : Nat → ByteArray
  | 0 => ⟨#[]⟩
  | k + 1 => jJ L k ++ jLine (jC L (k + 1)) (bsT L k)
def noNL (s : ByteArray) : Bool := decide (Go.Lib.index (toL s) [10] = -1)
def jOk (L : List ByteArray) : Bool := L.all noNL && decide ((jJ L L.length).size ≤ 16000)
def jR (L : List ByteArray) : ByteArray := if jOk L then jJ L L.length else ⟨#[]⟩
def lnS (L : List ByteArray) : Nat → Nat
  | 0 => 0
  | k + 1 => lnS L k + ((bsT L k).size + 3)
theorem jLine_size {c : Int} (h : 0 ≤ c ∧ c < 65003) (l : ByteArray) : l.size + 3 ≤ (jLine c l).size ∧ (jLine c l).size ≤ l.size + 22 := by
  unfold jLine
  rw [ByteArray.size_append, ByteArray.size_append, ByteArray.size_append]
  have h1 := decT_size (n := c) (by omega) (by omega)
  have h2 : 1 ≤ (decT c).size := by
    have : (decT c).size = (Lib.itoa c).length := by unfold decT ByteArray.size; simp
    rw [this]; exact itoa_len c
  have e1 : (⟨#[32]⟩ : ByteArray).size = 1 := rfl
  have e2 : (⟨#[10]⟩ : ByteArray).size = 1 := rfl
  omega
theorem jJ_mono (L : List ByteArray) {j k : Nat} (h : j ≤ k) : (jJ L j).size ≤ (jJ L k).size := by
  induction k with
  | zero => rw [Nat.le_zero.1 h]; exact Nat.le_refl _
  | succ k ih =>
    rcases Nat.lt_or_ge j (k + 1) with h2 | h2
    · have := ih (by omega)
      rw [jJ, ByteArray.size_append]; omega
    · rw [show j = k + 1 by omega]; exact Nat.le_refl _
theorem lnS_le (L : List ByteArray) (k : Nat) : lnS L k ≤ (jJ L k).size := by
  induction k with
  | zero => exact Nat.zero_le _
  | succ k ih =>
    rw [lnS, jJ, ByteArray.size_append]
    have := (jLine_size (jC_bd L (k + 1)) (bsT L k)).1
    omega
theorem jOk_nl {L : List ByteArray} {k : Nat} (hk : k < L.length) (h : noNL (bsT L k) = false) : jOk L = false := by
  unfold jOk
  have : L.all noNL = false := by
    rw [List.all_eq_false]
    refine ⟨L[k], List.getElem_mem hk, ?_⟩
    have e : bsT L k = L[k] := by simp [bsT, hk]
    rw [← e, h]; simp
  rw [this]; rfl
theorem jOk_big {L : List ByteArray} {k : Nat} (hk : k ≤ L.length) (h : 16000 < (jJ L k).size) : jOk L = false := by
  unfold jOk
  have := jJ_mono L hk
  rw [decide_eq_false (p := (jJ L L.length).size ≤ 16000) (by omega), Bool.and_false]
theorem jOk_ln {L : List ByteArray} {k : Nat} (hk : k ≤ L.length) (h : 16000 < lnS L k) : jOk L = false :=
  jOk_big hk (Nat.lt_of_lt_of_le h (lnS_le L k))
theorem jOk_yes {L : List ByteArray} (h : ∀ k, k < L.length → noNL (bsT L k) = true) : jOk L = decide ((jJ L L.length).size ≤ 16000) := by
  unfold jOk
  have : L.all noNL = true := by
    rw [List.all_eq_true]
    intro x hx
    obtain ⟨k, hk, rfl⟩ := List.mem_iff_getElem.1 hx
    have e : bsT L k = L[k] := by simp [bsT, hk]
    rw [← e]; exact h k hk
  rw [this]; rfl

end Go.Proofs.YtockifchghllhaaDoor
