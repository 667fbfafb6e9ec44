/- Names: letters of a text, in both texts. -/
import Derived.Test.YtockifchghllhaaDoorWith
import Derived.IntWalk
namespace Go.Proofs.YtockifchghllhaaDoor
open Go.RowKit

/-- A text's byte. -/
def byt (s : ByteArray) (k : Nat) : Nat := (s.get! k).toNat
theorem byt_eq {s : ByteArray} {k : Nat} (h : k < s.size) : (s[k]'h).toNat = byt s k := by
  unfold byt
  cases s with
  | mk d =>
    have hd : k < d.size := h
    simp [ByteArray.get!, hd]
    rfl
theorem byt_lt (s : ByteArray) (k : Nat) : byt s k < 256 := UInt8.toNat_lt _

def lowB (s : ByteArray) (k : Nat) : Bool := decide (97 ≤ byt s k) && decide (byt s k ≤ 122)
def nameB (s : ByteArray) : Bool := decide (1 ≤ s.size) && decide (s.size ≤ 8) && (List.range s.size).all (lowB s)
theorem nameB_no {s : ByteArray} {k : Nat} (hk : k < s.size) (h : lowB s k = false) : nameB s = false := by
  unfold nameB
  have : (List.range s.size).all (lowB s) = false := by rw [List.all_eq_false]; exact ⟨k, List.mem_range.2 hk, by rw [h]; simp⟩
  rw [this]; simp
theorem nameB_yes {s : ByteArray} (h : ∀ k, k < s.size → lowB s k = true) : nameB s = (decide (1 ≤ s.size) && decide (s.size ≤ 8)) := by
  unfold nameB
  have : (List.range s.size).all (lowB s) = true := by rw [List.all_eq_true]; intro k hk; exact h k (List.mem_range.1 hk)
  rw [this]; simp

end Go.Proofs.YtockifchghllhaaDoor
