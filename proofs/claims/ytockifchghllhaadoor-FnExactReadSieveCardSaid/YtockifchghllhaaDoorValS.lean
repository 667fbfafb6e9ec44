/- Valid sieves in both texts. -/
import Derived.Test.YtockifchghllhaaDoorWinS
import Derived.Test.YtockifchghllhaaDoorWinV
import Derived.Test.YtockifchghllhaaDoorKeys
import Derived.Test.YtockifchghllhaaDoorRow
namespace Go.Proofs.YtockifchghllhaaDoor
open Go.RowKit

def sieveB (R S : Int) (n : Nat) : Bool := inR R 1 8 && isKey S && decide (1 ≤ n) && decide (n ≤ 512)
theorem sieveB_R {R S : Int} {n : Nat} (h : inR R 1 8 = false) : sieveB R S n = false := by simp [sieveB, h]
theorem sieveB_S {R S : Int} {n : Nat} (h : isKey S = false) : sieveB R S n = false := by simp [sieveB, h]
theorem sieveB_0 {R S : Int} {n : Nat} (h : ¬ 1 ≤ n) : sieveB R S n = false := by simp [sieveB]; omega
theorem sieveB_n {R S : Int} {n : Nat} (h : ¬ n ≤ 512) : sieveB R S n = false := by simp [sieveB]; omega
theorem sieveB_yes {R S : Int} {n : Nat} (h1 : inR R 1 8 = true) (h2 : isKey S = true) (h3 : 1 ≤ n) (h4 : n ≤ 512) : sieveB R S n = true := by simp [sieveB, h1, h2, h3, h4]

theorem areRounds_any {R : Int} {w : World} : Calls Tryd.prog 95 #[.int .i64 R] w fun e w' => e = .returned (.bool (inR R 1 8)) ∧ w = w' := by
  go_enter Tryd.func95, Tryd.ntmps95
  go_wp2_with fail
  refine (within_any _ _ _ _).mono ?_
  rintro e w1 ⟨rfl, rfl⟩
  go_wp2
  go_ret
  exact ⟨rfl, rfl⟩

set_option maxHeartbeats 1000000 in
theorem validSieve_any {a : Option Addr} {c : Nat} {bs : List Bool} {R S : Int} {w : World} (hr : Rd Value.bool w a c bs) :
    Calls Tryd.prog 56 #[.agg #[.int .i64 R, .int .i64 S, .slice a bs.length c]] w fun e w' => e = .returned (.bool (sieveB R S bs.length)) ∧ Below w.heap.size w w' := by
  have hln := hr.len
  have hb0 : Below w.heap.size w (w.alloc (.cells #[.int .i64 R, .int .i64 S, .slice a bs.length c] 31)) := (Below.refl _ _).alloc (Nat.le_refl _) _
  cases h1 : inR R 1 8 with
  | false =>
    go_enter Tryd.func56, Tryd.ntmps56
    go_wp2_with fail
    refine areRounds_any.mono ?_
    rintro e w1 ⟨rfl, rfl⟩
    rw [h1]
    go_wp2
    go_ret
    exact ⟨ret_bool (sieveB_R h1).symm, hb0⟩
  | true =>
  cases h2 : isKey S with
  | false =>
    go_enter Tryd.func56, Tryd.ntmps56
    go_wp2_with fail
    refine areRounds_any.mono ?_
    rintro e w1 ⟨rfl, rfl⟩
    rw [h1]
    go_wp2_with fail
    refine implIsKey_any.mono ?_
    rintro e w1 ⟨rfl, rfl⟩
    rw [h2]
    go_wp2
    go_ret
    exact ⟨ret_bool (sieveB_S h2).symm, hb0⟩
  | true =>
  by_cases h3 : 1 ≤ bs.length
  case neg =>
    have h3' : decide (1 ≤ (bs.length : Int)) = false := decide_eq_false (by omega)
    go_enter Tryd.func56, Tryd.ntmps56
    go_wp2_with fail
    refine areRounds_any.mono ?_
    rintro e w1 ⟨rfl, rfl⟩
    rw [h1]
    go_wp2_with fail
    refine implIsKey_any.mono ?_
    rintro e w1 ⟨rfl, rfl⟩
    rw [h2]
    go_wp2
    go_ret
    exact ⟨ret_bool (sieveB_0 h3).symm, hb0⟩
  case pos =>
  by_cases h4 : bs.length ≤ 512
  case neg =>
    go_enter Tryd.func56, Tryd.ntmps56
    go_wp2_with fail
    refine areRounds_any.mono ?_
    rintro e w1 ⟨rfl, rfl⟩
    rw [h1]
    go_wp2_with fail
    refine implIsKey_any.mono ?_
    rintro e w1 ⟨rfl, rfl⟩
    rw [h2]
    go_wp2
    go_ret
    exact ⟨ret_bool ((decide_eq_false (by omega)).trans (sieveB_n h4).symm), hb0⟩
  case pos =>
    go_enter Tryd.func56, Tryd.ntmps56
    go_wp2_with fail
    refine areRounds_any.mono ?_
    rintro e w1 ⟨rfl, rfl⟩
    rw [h1]
    go_wp2_with fail
    refine implIsKey_any.mono ?_
    rintro e w1 ⟨rfl, rfl⟩
    rw [h2]
    go_wp2
    go_ret
    exact ⟨ret_bool ((decide_eq_true (by omega)).trans (sieveB_yes h1 h2 h3 h4).symm), hb0⟩

set_option maxHeartbeats 1000000 in
theorem l04Is_any {b o : Nat} {a : Option Addr} {c : Nat} {bs : List Bool} {R S : Int} {w : World} (hr : Rd Value.bool w a c bs)
    (c0 : w.cell? ⟨b, o, none⟩ = some (.int .i64 R)) (c1 : w.cell? ⟨b, o + 1, none⟩ = some (.int .i64 S)) (c2 : w.cell? ⟨b, o + 2, none⟩ = some (.slice a bs.length c)) :
    Calls Tryd.prog 53 #[.pointer (some ⟨b, o, none⟩)] w fun e w' => e = .returned (.bool (sieveB R S bs.length)) ∧ w = w' := by
  have hln := hr.len
  cases h1 : inR R 1 8 with
  | false =>
    go_enter Tryd.func53, Tryd.ntmps53
    go_wp2_with fail
    refine (l00In_any _ _ _ _).mono ?_
    rintro e w1 ⟨rfl, rfl⟩
    rw [h1]
    go_wp2
    go_ret
    exact ⟨ret_bool (sieveB_R h1).symm, rfl⟩
  | true =>
  cases h2 : isKey S with
  | false =>
    go_enter Tryd.func53, Tryd.ntmps53
    go_wp2_with fail
    refine (l00In_any _ _ _ _).mono ?_
    rintro e w1 ⟨rfl, rfl⟩
    rw [h1]
    go_wp2_with fail
    refine l02Key_any.mono ?_
    rintro e w1 ⟨rfl, rfl⟩
    rw [h2]
    go_wp2
    go_ret
    exact ⟨ret_bool (sieveB_S h2).symm, rfl⟩
  | true =>
  by_cases h3 : 1 ≤ bs.length
  case neg =>
    have h3' : decide (1 ≤ (bs.length : Int)) = false := decide_eq_false (by omega)
    go_enter Tryd.func53, Tryd.ntmps53
    go_wp2_with fail
    refine (l00In_any _ _ _ _).mono ?_
    rintro e w1 ⟨rfl, rfl⟩
    rw [h1]
    go_wp2_with fail
    refine l02Key_any.mono ?_
    rintro e w1 ⟨rfl, rfl⟩
    rw [h2]
    go_wp2
    go_ret
    exact ⟨ret_bool (sieveB_0 h3).symm, rfl⟩
  case pos =>
  by_cases h4 : bs.length ≤ 512
  case neg =>
    go_enter Tryd.func53, Tryd.ntmps53
    go_wp2_with fail
    refine (l00In_any _ _ _ _).mono ?_
    rintro e w1 ⟨rfl, rfl⟩
    rw [h1]
    go_wp2_with fail
    refine l02Key_any.mono ?_
    rintro e w1 ⟨rfl, rfl⟩
    rw [h2]
    go_wp2
    go_ret
    exact ⟨ret_bool ((decide_eq_false (by omega)).trans (sieveB_n h4).symm), rfl⟩
  case pos =>
    go_enter Tryd.func53, Tryd.ntmps53
    go_wp2_with fail
    refine (l00In_any _ _ _ _).mono ?_
    rintro e w1 ⟨rfl, rfl⟩
    rw [h1]
    go_wp2_with fail
    refine l02Key_any.mono ?_
    rintro e w1 ⟨rfl, rfl⟩
    rw [h2]
    go_wp2
    go_ret
    exact ⟨ret_bool ((decide_eq_true (by omega)).trans (sieveB_yes h1 h2 h3 h4).symm), rfl⟩

end Go.Proofs.YtockifchghllhaaDoor
