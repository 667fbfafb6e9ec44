/- Windows: what is valid, in plain words. Powers and times in the reference's text. ValidWindow in the program's text. -/
import Derived.Test.YtmmpemfhbnkomaaQJd2
import Derived.Laws.Entries
set_option linter.unusedVariables false
set_option linter.unusedSimpArgs false
namespace Go.Proofs.Ytmmpemfhbnkomaa
open Go.RowKit

def at0 (xs : List Int) (k : Nat) : Int := xs[k]?.getD 0
def isPow (n : Int) : Bool := (List.range 21).any fun j => n == (2 : Int) ^ j
def timeOk (ts : List Int) (k : Nat) : Bool := inR (at0 ts k) 0 1000000 && (k == 0 || decide (at0 ts (k - 1) ≤ at0 ts k))
/-- How many sizes up to k are equal, at the end. -/
def runK (ss : List Int) : Nat → Int
  | 0 => 0
  | k + 1 => (if k = 0 ∨ at0 ss k ≠ at0 ss (k - 1) then 0 else runK ss k) + 1
def sizeOk (P : Int) (ss : List Int) (k : Nat) : Bool := isPow (at0 ss k) && (k == 0 || decide (at0 ss k ≤ at0 ss (k - 1))) && decide (runK ss (k + 1) ≤ P + 1)
def winB (L P : Int) (ts ss : List Int) : Bool :=
  inR L 1 1000000 && inR P 1 16 && decide (ts.length ≤ 128) && decide (ss.length = ts.length) && (List.range ts.length).all (timeOk ts) && (List.range ts.length).all (sizeOk P ss)

theorem winB_parts {L P : Int} {ts ss : List Int} (h : winB L P ts ss = true) :
    1 ≤ L ∧ L ≤ 1000000 ∧ 1 ≤ P ∧ P ≤ 16 ∧ ts.length ≤ 128 ∧ ss.length = ts.length ∧ (∀ k, k < ts.length → timeOk ts k = true) ∧ ∀ k, k < ts.length → sizeOk P ss k = true := by
  simp only [winB, Bool.and_eq_true, inR, decide_eq_true_eq, List.all_eq_true, List.mem_range] at h
  obtain ⟨⟨⟨⟨⟨⟨h1, h2⟩, h3, h4⟩, h5⟩, h6⟩, h7⟩, h8⟩ := h
  exact ⟨h1, h2, h3, h4, h5, h6, h7, h8⟩

theorem runK_bd (ss : List Int) (k : Nat) : 0 ≤ runK ss k ∧ runK ss k ≤ k := by
  induction k with
  | zero => simp [runK]
  | succ k ih =>
    unfold runK
    split <;> omega
theorem runK_zero (ss : List Int) : runK ss 1 = 1 := by simp [runK]
theorem runK_new {ss : List Int} {k : Nat} (h : at0 ss k ≠ at0 ss (k - 1)) : runK ss (k + 1) = 1 := by simp [runK, h]
theorem runK_same {ss : List Int} {k : Nat} (hk : 0 < k) (h : at0 ss k = at0 ss (k - 1)) : runK ss (k + 1) = runK ss k + 1 := by
  have : ¬ k = 0 := by omega
  simp [runK, h, this]

theorem isPow_bd {n : Int} (h : isPow n = true) : 1 ≤ n ∧ n ≤ 1048576 := by
  simp only [isPow, List.any_eq_true, List.mem_range, beq_iff_eq] at h
  obtain ⟨j, hj, rfl⟩ := h
  have h1 : (2 : Nat) ^ j ≤ 2 ^ 20 := Nat.pow_le_pow_right (by omega) (by omega)
  have h2 : 0 < (2 : Nat) ^ j := Nat.two_pow_pos j
  have h3 : ((2 : Int) ^ j) = (((2 : Nat) ^ j : Nat) : Int) := by simp
  rw [h3]
  omega

theorem pow_land_nat (n : Nat) (h1 : 1 ≤ n) : (n &&& (n - 1) = 0) ↔ ∃ j, n = 2 ^ j := by
  constructor
  · intro h
    refine ⟨n.log2, ?_⟩
    have hn : n ≠ 0 := by omega
    have hlo : 2 ^ n.log2 ≤ n := Nat.log2_self_le hn
    have hhi : n < 2 ^ (n.log2 + 1) := Nat.lt_log2_self
    by_cases he : n = 2 ^ n.log2
    · exact he
    · exfalso
      have hp := Nat.two_pow_pos n.log2
      have hb : (n &&& (n - 1)).testBit n.log2 = true := by
        rw [Nat.testBit_and]
        have e : ∀ m, 2 ^ n.log2 ≤ m → m < 2 ^ (n.log2 + 1) → m.testBit n.log2 = true := by
          intro m h2 h3
          rw [Nat.testBit_eq_decide_div_mod_eq]
          have : m / 2 ^ n.log2 = 1 := by
            rw [Nat.pow_succ] at h3
            exact Nat.div_eq_of_lt_le (by omega) (by omega)
          simp [this]
        rw [e n hlo hhi, e (n - 1) (by omega) (by omega)]
        rfl
      rw [h] at hb
      simp at hb
  · rintro ⟨j, rfl⟩
    apply Nat.eq_of_testBit_eq
    intro i
    rw [Nat.testBit_and, Nat.testBit_two_pow, Nat.testBit_two_pow_sub_one]
    simp
    omega

theorem isPow_nat (n : Nat) (h1 : 1 ≤ n) (h2 : n ≤ 1048576) : isPow (n : Int) = decide (n &&& (n - 1) = 0) := by
  rw [Bool.eq_iff_iff, decide_eq_true_eq, pow_land_nat n h1]
  simp only [isPow, List.any_eq_true, List.mem_range, beq_iff_eq]
  constructor
  · rintro ⟨j, hj, h⟩
    refine ⟨j, ?_⟩
    have h3 : ((2 : Int) ^ j) = (((2 : Nat) ^ j : Nat) : Int) := by simp
    rw [h3] at h
    omega
  · rintro ⟨j, rfl⟩
    have hj : j < 21 := by
      by_cases h : j < 21
      · exact h
      · have : (2 : Nat) ^ 21 ≤ 2 ^ j := Nat.pow_le_pow_right (by omega) (by omega)
        omega
    exact ⟨j, hj, by simp⟩

theorem bits_and_small (a b : Nat) (ha : a < 2097152) (hb : b < 2097152) : bits .and .i64 (a : Int) (b : Int) = ((a &&& b : Nat) : Int) := by
  have hl : a &&& b ≤ a := Nat.and_le_left
  have e1 : (BitVec.ofInt 64 (a : Int)).toNat = a := by
    rw [BitVec.ofInt_natCast, BitVec.toNat_ofNat]; omega
  have e2 : (BitVec.ofInt 64 (b : Int)).toNat = b := by
    rw [BitVec.ofInt_natCast, BitVec.toNat_ofNat]; omega
  show IntKind.i64.wrap ((BitVec.ofInt 64 (a : Int) &&& BitVec.ofInt 64 (b : Int)).toNat) = _
  rw [BitVec.toNat_and, e1, e2]
  generalize a &&& b = r at hl
  exact IntWalk.i64_in _ (by omega)

/-- The program's test on a size. -/
theorem pow_test {s : Int} (h1 : 1 ≤ s) (h2 : s ≤ 1048576) : (bits .and .i64 s (s - 1) != 0) = !isPow s := by
  obtain ⟨n, rfl⟩ : ∃ n : Nat, s = (n : Int) := ⟨s.toNat, by omega⟩
  rw [isPow_nat n (by omega) (by omega), show ((n : Int) - 1) = ((n - 1 : Nat) : Int) by omega, bits_and_small n (n - 1) (by omega) (by omega)]
  rw [Bool.eq_iff_iff]
  simp

theorem isPow_out {s : Int} (h : inR s 1 1048576 = false) : isPow s = false := by
  cases hp : isPow s with
  | false => rfl
  | true =>
    have := isPow_bd hp
    simp [inR] at h
    omega
theorem sizeOk_pow {P : Int} {ss : List Int} {k : Nat} {s : Int} (hs : at0 ss k = s) (h : isPow s = false) : sizeOk P ss k = false := by simp [sizeOk, hs, h]
theorem sizeOk_gt {P : Int} {ss : List Int} {m : Nat} {s p : Int} (hs : at0 ss (m + 1) = s) (hp : at0 ss m = p) (h : p < s) : sizeOk P ss (m + 1) = false := by
  simp only [sizeOk, hs, Nat.add_sub_cancel, hp]
  simp
  omega
theorem sizeOk_run {P : Int} {ss : List Int} {k : Nat} (h : P + 1 < runK ss (k + 1)) : sizeOk P ss k = false := by
  simp only [sizeOk]
  simp
  omega
theorem sizeOk_first {P : Int} {ss : List Int} {s : Int} (hs : at0 ss 0 = s) (h : isPow s = true) (hP : 1 ≤ P) : sizeOk P ss 0 = true := by
  have := runK_zero ss
  simp only [sizeOk, hs, h]
  simp
  omega
theorem sizeOk_next {P : Int} {ss : List Int} {m : Nat} {s p : Int} (hs : at0 ss (m + 1) = s) (hp : at0 ss m = p) (h : isPow s = true) (hle : s ≤ p) (hr : runK ss (m + 1 + 1) ≤ P + 1) : sizeOk P ss (m + 1) = true := by
  simp only [sizeOk, hs, Nat.add_sub_cancel, hp, h]
  simp
  omega
theorem runK_less {ss : List Int} {m : Nat} {s p : Int} (hs : at0 ss (m + 1) = s) (hp : at0 ss m = p) (h : s < p) : runK ss (m + 1 + 1) = 1 := by
  refine runK_new ?_
  rw [Nat.add_sub_cancel, hs, hp]; omega
theorem runK_eq {ss : List Int} {m : Nat} {s p : Int} (hs : at0 ss (m + 1) = s) (hp : at0 ss m = p) (h : s = p) : runK ss (m + 1 + 1) = runK ss (m + 1) + 1 := by
  refine runK_same (by omega) ?_
  rw [Nat.add_sub_cancel, hs, hp]; exact h
theorem timeOk_out {ts : List Int} {k : Nat} {t : Int} (ht : at0 ts k = t) (h : inR t 0 1000000 = false) : timeOk ts k = false := by simp [timeOk, ht, h]
theorem timeOk_lt {ts : List Int} {m : Nat} {t p : Int} (ht : at0 ts (m + 1) = t) (hp : at0 ts m = p) (h : t < p) : timeOk ts (m + 1) = false := by
  simp only [timeOk, ht, Nat.add_sub_cancel, hp]
  simp
  omega
theorem timeOk_first {ts : List Int} {t : Int} (ht : at0 ts 0 = t) (h : inR t 0 1000000 = true) : timeOk ts 0 = true := by simp [timeOk, ht, h]
theorem timeOk_next {ts : List Int} {m : Nat} {t p : Int} (ht : at0 ts (m + 1) = t) (hp : at0 ts m = p) (h : inR t 0 1000000 = true) (hle : p ≤ t) : timeOk ts (m + 1) = true := by
  simp only [timeOk, ht, Nat.add_sub_cancel, hp, h]
  simp
  omega

theorem winB_L {L P : Int} {ts ss : List Int} (h : inR L 1 1000000 = false) : winB L P ts ss = false := by simp [winB, h]
theorem winB_P {L P : Int} {ts ss : List Int} (h : inR P 1 16 = false) : winB L P ts ss = false := by simp [winB, h]
theorem winB_long {L P : Int} {ts ss : List Int} (h : ¬ ts.length ≤ 128) : winB L P ts ss = false := by simp [winB, h]
theorem winB_len {L P : Int} {ts ss : List Int} (h : ¬ ss.length = ts.length) : winB L P ts ss = false := by simp [winB, h]
theorem winB_time {L P : Int} {ts ss : List Int} {k : Nat} (hk : k < ts.length) (h : timeOk ts k = false) : winB L P ts ss = false := by
  have : (List.range ts.length).all (timeOk ts) = false := by
    rw [List.all_eq_false]; exact ⟨k, by simpa using hk, by simp [h]⟩
  simp [winB, this]
theorem winB_times {L P : Int} {ts ss : List Int} (h : (List.range ts.length).all (timeOk ts) = false) : winB L P ts ss = false := by simp [winB, h]
theorem winB_size {L P : Int} {ts ss : List Int} {k : Nat} (hk : k < ts.length) (h : sizeOk P ss k = false) : winB L P ts ss = false := by
  have : (List.range ts.length).all (sizeOk P ss) = false := by
    rw [List.all_eq_false]; exact ⟨k, by simpa using hk, by simp [h]⟩
  simp [winB, this]
theorem winB_yes {L P : Int} {ts ss : List Int} (h1 : inR L 1 1000000 = true) (h2 : inR P 1 16 = true) (h3 : ts.length ≤ 128) (h4 : ss.length = ts.length) (h5 : (List.range ts.length).all (timeOk ts) = true) (h6 : ∀ j, j < ts.length → sizeOk P ss j = true) : winB L P ts ss = true := by
  have h7 : (List.range ts.length).all (sizeOk P ss) = true := by
    rw [List.all_eq_true]; intro j hj; exact h6 j (by simpa using hj)
  simp [winB, h1, h2, h3, h4, h5, h7]

def ascB (ts : List Int) : Bool := (List.range ts.length).all fun k => k == 0 || decide (at0 ts (k - 1) ≤ at0 ts k)
theorem times_and (ts : List Int) : (List.range ts.length).all (timeOk ts) = (ts.all (fun x => inR x 0 1000000) && ascB ts) := by
  rw [Bool.eq_iff_iff]
  simp only [ascB, timeOk, Bool.and_eq_true, List.all_eq_true, List.mem_range]
  constructor
  · intro h
    refine ⟨fun x hx => ?_, fun k hk => (h k hk).2⟩
    obtain ⟨k, hk, rfl⟩ := List.mem_iff_getElem.1 hx
    have := (h k hk).1
    simpa [at0, hk] using this
  · rintro ⟨h1, h2⟩ k hk
    refine ⟨?_, h2 k hk⟩
    have := h1 _ (List.getElem_mem hk)
    simpa [at0, hk] using this
theorem ascB_no {ts : List Int} {m : Nat} (hm : m + 1 < ts.length) (h : at0 ts (m + 1) < at0 ts m) : ascB ts = false := by
  unfold ascB
  rw [List.all_eq_false]
  refine ⟨m + 1, by simpa using hm, ?_⟩
  rw [Nat.add_sub_cancel]
  simp
  omega
theorem ascB_yes {ts : List Int} (h : ∀ j, 0 < j → j < ts.length → at0 ts (j - 1) ≤ at0 ts j) : ascB ts = true := by
  unfold ascB
  rw [List.all_eq_true]
  intro k hk
  simp only [List.mem_range] at hk
  by_cases h0 : k = 0
  · simp [h0]
  · have := h k (by omega) hk
    simp [this]
end Go.Proofs.Ytmmpemfhbnkomaa

namespace Go.Proofs.Ytmmpemfhbnkomaa
open Go.RowKit

theorem l06Time_any {x : Int} {w : World} : Calls Try.prog 17 #[.int .i64 x] w fun e w' => e = .returned (.bool (inR x 0 1000000)) ∧ w = w' := by
  go_enter Try.func17, Try.ntmps17
  go_wp2_with fail
  refine (l00In_any _ _ _ _).mono ?_
  rintro e w1 ⟨rfl, rfl⟩
  go_wp2
  go_ret
  exact ⟨rfl, rfl⟩
theorem l06Time_quiet {x : Int} {w : World} {n : Nat} : Calls Try.prog 17 #[.int .i64 x] (w.drewN n) fun e w'' => e = .returned (.bool (inR x 0 1000000)) ∧ ∃ m, w'' = w.drewN m :=
  l06Time_any.mono fun _ _ ⟨he, hw⟩ => ⟨he, n, hw.symm⟩

theorem pw_cast (j : Nat) : ((2 : Int) ^ j) = (((2 : Nat) ^ j : Nat) : Int) := by simp
theorem pw_le {j : Nat} (h : (2 : Int) ^ j ≤ 1048576) : j ≤ 20 := by
  by_cases hj : j ≤ 20
  · exact hj
  · have : (2 : Nat) ^ 21 ≤ 2 ^ j := Nat.pow_le_pow_right (by omega) (by omega)
    rw [pw_cast] at h
    omega
theorem pw_big {j : Nat} (h : ¬ (2 : Int) ^ j ≤ 1048576) : 21 ≤ j := by
  by_cases hj : 21 ≤ j
  · exact hj
  · have : (2 : Nat) ^ j ≤ 2 ^ 20 := Nat.pow_le_pow_right (by omega) (by omega)
    rw [pw_cast] at h
    omega
theorem pw_pos (j : Nat) : 1 ≤ (2 : Int) ^ j := by
  have := Nat.two_pow_pos j
  rw [pw_cast]; omega
theorem isPow_not {n : Int} {j : Nat} (hj : 21 ≤ j) (h : ∀ i, i < j → ¬ (2 : Int) ^ i = n) : isPow n = false := by
  cases hp : isPow n with
  | false => rfl
  | true =>
    simp only [isPow, List.any_eq_true, List.mem_range, beq_iff_eq] at hp
    obtain ⟨i, hi, rfl⟩ := hp
    exact absurd rfl (h i (by omega))
theorem isPow_at {n : Int} {j : Nat} (hj : j ≤ 20) (h : (2 : Int) ^ j = n) : isPow n = true := by
  simp only [isPow, List.any_eq_true, List.mem_range, beq_iff_eq]
  exact ⟨j, by omega, h.symm⟩

end Go.Proofs.Ytmmpemfhbnkomaa

namespace Go.Proofs.Ytmmpemfhbnkomaa
open Go.RowKit

theorem drewN_more {w wr : World} (h : ∃ n, wr = w.drewN n) (m : Nat) : ∃ n, wr.drewN m = w.drewN n := by
  obtain ⟨n, rfl⟩ := h
  exact ⟨_, World.drewN_drewN _ _ _⟩
theorem at0_cell {w : World} {a : Option Addr} {c : Nat} {xs : List Int} (hr : Rd (Value.int .i64) w a c xs) {k : Nat} (hk : k < xs.length) {x : Int} (hx : at0 xs k = x) : w.cell? (elt a k) = some (.int .i64 x) := by
  rw [hr.cell k hk, ← hx]; rfl

theorem isTime_any {x : Int} {w : World} : Calls Try.prog 22 #[.int .i64 x] w fun e w' => e = .returned (.bool (inR x 0 1000000)) ∧ w = w' := by
  go_enter Try.func22, Try.ntmps22
  go_wp2_with fail
  refine (within_any _ _ _ _).mono ?_
  rintro e w1 ⟨rfl, rfl⟩
  go_wp2
  go_ret
  exact ⟨rfl, rfl⟩

end Go.Proofs.Ytmmpemfhbnkomaa
