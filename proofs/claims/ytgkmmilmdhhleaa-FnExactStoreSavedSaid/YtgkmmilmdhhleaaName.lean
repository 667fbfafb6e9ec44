/- Names: letters of a text, in both texts. -/
import Derived.Test.YtgkmmilmdhhleaaWith
import Derived.IntWalk
namespace Go.Proofs.Ytgkmmilmdhhleaa
open Go.RowKit

/-- A text's byte. -/
def byt (s : ByteArray) (k : Nat) : Nat := (s.get! k).toNat
theorem byt_eq {s : ByteArray} {k : Nat} (h : k < s.size) : (s[k]'h).toNat = byt s k := by
  unfold byt
  cases s with
  | mk d =>
    have hd : k < d.size := h
    simp [ByteArray.get!, hd]
    rfl
theorem byt_lt (s : ByteArray) (k : Nat) : byt s k < 256 := UInt8.toNat_lt _

def lowB (s : ByteArray) (k : Nat) : Bool := decide (97 ≤ byt s k) && decide (byt s k ≤ 122)
def nameB (s : ByteArray) : Bool := decide (1 ≤ s.size) && decide (s.size ≤ 8) && (List.range s.size).all (lowB s)
theorem nameB_no {s : ByteArray} {k : Nat} (hk : k < s.size) (h : lowB s k = false) : nameB s = false := by
  unfold nameB
  have : (List.range s.size).all (lowB s) = false := by rw [List.all_eq_false]; exact ⟨k, List.mem_range.2 hk, by rw [h]; simp⟩
  rw [this]; simp
theorem nameB_yes {s : ByteArray} (h : ∀ k, k < s.size → lowB s k = true) : nameB s = (decide (1 ≤ s.size) && decide (s.size ≤ 8)) := by
  unfold nameB
  have : (List.range s.size).all (lowB s) = true := by rw [List.all_eq_true]; intro k hk; exact h k (List.mem_range.1 hk)
  rw [this]; simp

set_option maxHeartbeats 1000000 in
theorem isName_any {s : ByteArray} {w : World} (hs : s.size ≤ 9223372036854775807) : Calls Try.prog 113 #[.string s] w fun e w' => e = .returned (.bool (nameB s)) ∧ w = w' := by
  obtain ⟨b, hb⟩ : ∃ b, nameB s = b := ⟨_, rfl⟩
  have HB := Lib.hid hb
  rw [hb]
  clear hb
  go_enter Try.func113, Try.ntmps113
  go_wp2
  go_loopw [3, 6] (fun _ vi wr => ∃ k : Nat, vi = .int .i64 k ∧ k ≤ s.size ∧ Hid (∀ j, j < k → lowB s j = true) ∧ wr = w) (fun _ vi _ => s.size - (intOf vi).toNat)
  case atStart => exact ⟨0, rfl, Nat.zero_le _, Lib.hid (fun j h => by omega), rfl⟩
  case round =>
    obtain ⟨k, rfl, hk, HP, rfl⟩ := hrel
    by_cases hlt : k < s.size
    · have hltz : (k : Int) < (s.size : Int) := by omega
      have hbe := byt_eq hlt
      have ewk : IntKind.i64.wrap ((k : Int) + 1) = (k : Int) + 1 := IntWalk.i64_in _ (by omega)
      have hlw : lowB s k = (decide (97 ≤ byt s k) && decide (byt s k ≤ 122)) := rfl
      have HLW := Lib.hid hlw
      clear hlw
      obtain ⟨x, hx⟩ : ∃ x, byt s k = x := ⟨_, rfl⟩
      rw [hx] at hbe HLW
      clear hx
      by_cases h1 : x < 97
      · have hd1 : decide ((x : Int) < 97) = true := decide_eq_true (by omega)
        have HE : Hid (b = false) := Lib.hid (by rw [← HB.out]; exact nameB_no hlt (by rw [HLW.out, decide_eq_false (by omega)]; rfl))
        go_wp2
        go_ret
        exact ⟨ret_bool HE.out.symm, rfl⟩
      · have hd1 : decide ((x : Int) < 97) = false := decide_eq_false (by omega)
        by_cases h2 : 122 < x
        · have hd2 : decide ((122 : Int) < (x : Int)) = true := decide_eq_true (by omega)
          have HE : Hid (b = false) := Lib.hid (by rw [← HB.out]; exact nameB_no hlt (by rw [HLW.out, decide_eq_false (show ¬ x ≤ 122 by omega), Bool.and_false]))
          go_wp2
          go_ret
          exact ⟨ret_bool HE.out.symm, rfl⟩
        · have hd2 : decide ((122 : Int) < (x : Int)) = false := decide_eq_false (by omega)
          have HP1 : Hid (∀ j, j < k + 1 → lowB s j = true) := Lib.hid (fun j h => by
            by_cases e : j = k
            · rw [e, HLW.out, decide_eq_true (by omega), decide_eq_true (by omega)]; rfl
            · exact HP.out j (by omega))
          go_wp2
          go_roundw
          case rel => exact ⟨k + 1, by go_num, by omega, HP1, trivial⟩
          case measure => simp [intOf]; omega
    · obtain rfl : k = s.size := by omega
      have hltz : ¬ (s.size : Int) < (s.size : Int) := by omega
      have HE : Hid (b = (decide (1 ≤ s.size) && decide (s.size ≤ 8))) := Lib.hid (by rw [← HB.out]; exact nameB_yes HP.out)
      by_cases h1 : 1 ≤ s.size
      · have hd1 : decide ((1 : Int) ≤ (s.size : Int)) = true := decide_eq_true (by omega)
        have hd2 : decide ((s.size : Int) ≤ 8) = decide (s.size ≤ 8) := by by_cases h : s.size ≤ 8 <;> simp [h] <;> omega
        have hd3 : decide (1 ≤ s.size) = true := decide_eq_true h1
        go_wp2
        go_ret
        exact ⟨ret_bool (by rw [HE.out, hd3]; simp), rfl⟩
      · have hd1 : decide ((1 : Int) ≤ (s.size : Int)) = false := decide_eq_false (by omega)
        have hd3 : decide (1 ≤ s.size) = false := decide_eq_false h1
        go_wp2
        go_ret
        exact ⟨ret_bool (by rw [HE.out, hd3]; rfl), rfl⟩

set_option maxHeartbeats 1000000 in
theorem l07Name_any {s : ByteArray} {w : World} (hs : s.size ≤ 9223372036854775807) : Calls Try.prog 161 #[.string s] w fun e w' => e = .returned (.bool (nameB s)) ∧ w = w' := by
  obtain ⟨b, hb⟩ : ∃ b, nameB s = b := ⟨_, rfl⟩
  have HB := Lib.hid hb
  rw [hb]
  clear hb
  go_enter Try.func161, Try.ntmps161
  go_wp2
  go_loopw [3] (fun vi wr => ∃ k : Nat, vi = .int .i64 k ∧ k ≤ s.size ∧ Hid (∀ j, j < k → lowB s j = true) ∧ wr = w) (fun vi _ => s.size - (intOf vi).toNat)
  case atStart => exact ⟨0, rfl, Nat.zero_le _, Lib.hid (fun j h => by omega), rfl⟩
  case round =>
    obtain ⟨k, rfl, hk, HP, rfl⟩ := hrel
    by_cases hlt : k < s.size
    · have hltz : (k : Int) < (s.size : Int) := by omega
      have hbe := byt_eq hlt
      have ewk : IntKind.i64.wrap ((k : Int) + 1) = (k : Int) + 1 := IntWalk.i64_in _ (by omega)
      have hlw : lowB s k = (decide (97 ≤ byt s k) && decide (byt s k ≤ 122)) := rfl
      have HLW := Lib.hid hlw
      clear hlw
      obtain ⟨x, hx⟩ : ∃ x, byt s k = x := ⟨_, rfl⟩
      rw [hx] at hbe HLW
      clear hx
      by_cases h1 : x < 97
      · have hd1 : decide ((x : Int) < 97) = true := decide_eq_true (by omega)
        have HE : Hid (b = false) := Lib.hid (by rw [← HB.out]; exact nameB_no hlt (by rw [HLW.out, decide_eq_false (by omega)]; rfl))
        go_wp2
        go_ret
        exact ⟨ret_bool HE.out.symm, rfl⟩
      · have hd1 : decide ((x : Int) < 97) = false := decide_eq_false (by omega)
        by_cases h2 : 122 < x
        · have hd2 : decide ((122 : Int) < (x : Int)) = true := decide_eq_true (by omega)
          have HE : Hid (b = false) := Lib.hid (by rw [← HB.out]; exact nameB_no hlt (by rw [HLW.out, decide_eq_false (show ¬ x ≤ 122 by omega), Bool.and_false]))
          go_wp2
          go_ret
          exact ⟨ret_bool HE.out.symm, rfl⟩
        · have hd2 : decide ((122 : Int) < (x : Int)) = false := decide_eq_false (by omega)
          have HP1 : Hid (∀ j, j < k + 1 → lowB s j = true) := Lib.hid (fun j h => by
            by_cases e : j = k
            · rw [e, HLW.out, decide_eq_true (by omega), decide_eq_true (by omega)]; rfl
            · exact HP.out j (by omega))
          go_wp2
          go_roundw
          case rel => exact ⟨k + 1, by go_num, by omega, HP1, trivial⟩
          case measure => simp [intOf]; omega
    · obtain rfl : k = s.size := by omega
      have hltz : ¬ (s.size : Int) < (s.size : Int) := by omega
      have HE : Hid (b = (decide (1 ≤ s.size) && decide (s.size ≤ 8))) := Lib.hid (by rw [← HB.out]; exact nameB_yes HP.out)
      by_cases h1 : 1 ≤ s.size
      · have hd1 : decide ((1 : Int) ≤ (s.size : Int)) = true := decide_eq_true (by omega)
        have hd2 : decide ((s.size : Int) ≤ 8) = decide (s.size ≤ 8) := by by_cases h : s.size ≤ 8 <;> simp [h] <;> omega
        have hd3 : decide (1 ≤ s.size) = true := decide_eq_true h1
        go_wp2
        go_ret
        exact ⟨ret_bool (by rw [HE.out, hd3]; simp), rfl⟩
      · have hd1 : decide ((1 : Int) ≤ (s.size : Int)) = false := decide_eq_false (by omega)
        have hd3 : decide (1 ≤ s.size) = false := decide_eq_false h1
        go_wp2
        go_ret
        exact ⟨ret_bool (by rw [HE.out, hd3]; rfl), rfl⟩

end Go.Proofs.Ytgkmmilmdhhleaa
