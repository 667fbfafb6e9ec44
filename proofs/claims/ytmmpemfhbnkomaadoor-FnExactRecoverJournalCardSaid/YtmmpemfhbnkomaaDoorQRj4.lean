/- Windows: what is valid, in plain words. Powers and times in the reference's text. ValidWindow in the program's text. Powers of two from 16 to 256, in both texts. The reference's windows: what is valid. -/
import Derived.Test.YtmmpemfhbnkomaaDoorQRj2
import Derived.Laws.Entries
set_option linter.unusedVariables false
set_option linter.unusedSimpArgs false
namespace Go.Proofs.YtmmpemfhbnkomaaDoor
open Go.RowKit

def at0 (xs : List Int) (k : Nat) : Int := xs[k]?.getD 0
def isPow (n : Int) : Bool := (List.range 21).any fun j => n == (2 : Int) ^ j
def timeOk (ts : List Int) (k : Nat) : Bool := inR (at0 ts k) 0 1000000 && (k == 0 || decide (at0 ts (k - 1) ≤ at0 ts k))
/-- How many sizes up to k are equal, at the end. -/
def runK (ss : List Int) : Nat → Int
  | 0 => 0
  | k + 1 => (if k = 0 ∨ at0 ss k ≠ at0 ss (k - 1) then 0 else runK ss k) + 1
def sizeOk (P : Int) (ss : List Int) (k : Nat) : Bool := isPow (at0 ss k) && (k == 0 || decide (at0 ss k ≤ at0 ss (k - 1))) && decide (runK ss (k + 1) ≤ P + 1)
def winB (L P : Int) (ts ss : List Int) : Bool :=
  inR L 1 1000000 && inR P 1 16 && decide (ts.length ≤ 128) && decide (ss.length = ts.length) && (List.range ts.length).all (timeOk ts) && (List.range ts.length).all (sizeOk P ss)

theorem winB_parts {L P : Int} {ts ss : List Int} (h : winB L P ts ss = true) :
    1 ≤ L ∧ L ≤ 1000000 ∧ 1 ≤ P ∧ P ≤ 16 ∧ ts.length ≤ 128 ∧ ss.length = ts.length ∧ (∀ k, k < ts.length → timeOk ts k = true) ∧ ∀ k, k < ts.length → sizeOk P ss k = true := by
  simp only [winB, Bool.and_eq_true, inR, decide_eq_true_eq, List.all_eq_true, List.mem_range] at h
  obtain ⟨⟨⟨⟨⟨⟨h1, h2⟩, h3, h4⟩, h5⟩, h6⟩, h7⟩, h8⟩ := h
  exact ⟨h1, h2, h3, h4, h5, h6, h7, h8⟩

theorem runK_bd (ss : List Int) (k : Nat) : 0 ≤ runK ss k ∧ runK ss k ≤ k := by
  induction k with
  | zero => simp [runK]
  | succ k ih =>
    unfold runK
    split <;> omega
theorem runK_zero (ss : List Int) : runK ss 1 = 1 := by simp [runK]
theorem runK_new {ss : List Int} {k : Nat} (h : at0 ss k ≠ at0 ss (k - 1)) : runK ss (k + 1) = 1 := by simp [runK, h]
theorem runK_same {ss : List Int} {k : Nat} (hk : 0 < k) (h : at0 ss k = at0 ss (k - 1)) : runK ss (k + 1) = runK ss k + 1 := by
  have : ¬ k = 0 := by omega
  simp [runK, h, this]

theorem isPow_bd {n : Int} (h : isPow n = true) : 1 ≤ n ∧ n ≤ 1048576 := by
  simp only [isPow, List.any_eq_true, List.mem_range, beq_iff_eq] at h
  obtain ⟨j, hj, rfl⟩ := h
  have h1 : (2 : Nat) ^ j ≤ 2 ^ 20 := Nat.pow_le_pow_right (by omega) (by omega)
  have h2 : 0 < (2 : Nat) ^ j := Nat.two_pow_pos j
  have h3 : ((2 : Int) ^ j) = (((2 : Nat) ^ j : Nat) : Int) := by simp
  rw [h3]
  omega

theorem pow_land_nat (n : Nat) (h1 : 1 ≤ n) : (n &&& (n - 1) = 0) ↔ ∃ j, n = 2 ^ j := by
  constructor
  · intro h
    refine ⟨n.log2, ?_⟩
    have hn : n ≠ 0 := by omega
    have hlo : 2 ^ n.log2 ≤ n := Nat.log2_self_le hn
    have hhi : n < 2 ^ (n.log2 + 1) := Nat.lt_log2_self
    by_cases he : n = 2 ^ n.log2
    · exact he
    · exfalso
      have hp := Nat.two_pow_pos n.log2
      have hb : (n &&& (n - 1)).testBit n.log2 = true := by
        rw [Nat.testBit_and]
        have e : ∀ m, 2 ^ n.log2 ≤ m → m < 2 ^ (n.log2 + 1) → m.testBit n.log2 = true := by
          intro m h2 h3
          rw [Nat.testBit_eq_decide_div_mod_eq]
          have : m / 2 ^ n.log2 = 1 := by
            rw [Nat.pow_succ] at h3
            exact Nat.div_eq_of_lt_le (by omega) (by omega)
          simp [this]
        rw [e n hlo hhi, e (n - 1) (by omega) (by omega)]
        rfl
      rw [h] at hb
      simp at hb
  · rintro ⟨j, rfl⟩
    apply Nat.eq_of_testBit_eq
    intro i
    rw [Nat.testBit_and, Nat.testBit_two_pow, Nat.testBit_two_pow_sub_one]
    simp
    omega

theorem isPow_nat (n : Nat) (h1 : 1 ≤ n) (h2 : n ≤ 1048576) : isPow (n : Int) = decide (n &&& (n - 1) = 0) := by
  rw [Bool.eq_iff_iff, decide_eq_true_eq, pow_land_nat n h1]
  simp only [isPow, List.any_eq_true, List.mem_range, beq_iff_eq]
  constructor
  · rintro ⟨j, hj, h⟩
    refine ⟨j, ?_⟩
    have h3 : ((2 : Int) ^ j) = (((2 : Nat) ^ j : Nat) : Int) := by simp
    rw [h3] at h
    omega
  · rintro ⟨j, rfl⟩
    have hj : j < 21 := by
      by_cases h : j < 21
      · exact h
      · have : (2 : Nat) ^ 21 ≤ 2 ^ j := Nat.pow_le_pow_right (by omega) (by omega)
        omega
    exact ⟨j, hj, by simp⟩

theorem bits_and_small (a b : Nat) (ha : a < 2097152) (hb : b < 2097152) : bits .and .i64 (a : Int) (b : Int) = ((a &&& b : Nat) : Int) := by
  have hl : a &&& b ≤ a := Nat.and_le_left
  have e1 : (BitVec.ofInt 64 (a : Int)).toNat = a := by
    rw [BitVec.ofInt_natCast, BitVec.toNat_ofNat]; omega
  have e2 : (BitVec.ofInt 64 (b : Int)).toNat = b := by
    rw [BitVec.ofInt_natCast, BitVec.toNat_ofNat]; omega
  show IntKind.i64.wrap ((BitVec.ofInt 64 (a : Int) &&& BitVec.ofInt 64 (b : Int)).toNat) = _
  rw [BitVec.toNat_and, e1, e2]
  generalize a &&& b = r at hl
  exact IntWalk.i64_in _ (by omega)

/-- The program's test on a size. -/
theorem pow_test {s : Int} (h1 : 1 ≤ s) (h2 : s ≤ 1048576) : (bits .and .i64 s (s - 1) != 0) = !isPow s := by
  obtain ⟨n, rfl⟩ : ∃ n : Nat, s = (n : Int) := ⟨s.toNat, by omega⟩
  rw [isPow_nat n (by omega) (by omega), show ((n : Int) - 1) = ((n - 1 : Nat) : Int) by omega, bits_and_small n (n - 1) (by omega) (by omega)]
  rw [Bool.eq_iff_iff]
  simp

theorem isPow_out {s : Int} (h : inR s 1 1048576 = false) : isPow s = false := by
  cases hp : isPow s with
  | false => rfl
  | true =>
    have := isPow_bd hp
    simp [inR] at h
    omega
theorem sizeOk_pow {P : Int} {ss : List Int} {k : Nat} {s : Int} (hs : at0 ss k = s) (h : isPow s = false) : sizeOk P ss k = false := by simp [sizeOk, hs, h]
theorem sizeOk_gt {P : Int} {ss : List Int} {m : Nat} {s p : Int} (hs : at0 ss (m + 1) = s) (hp : at0 ss m = p) (h : p < s) : sizeOk P ss (m + 1) = false := by
  simp only [sizeOk, hs, Nat.add_sub_cancel, hp]
  simp
  omega
theorem sizeOk_run {P : Int} {ss : List Int} {k : Nat} (h : P + 1 < runK ss (k + 1)) : sizeOk P ss k = false := by
  simp only [sizeOk]
  simp
  omega
theorem sizeOk_first {P : Int} {ss : List Int} {s : Int} (hs : at0 ss 0 = s) (h : isPow s = true) (hP : 1 ≤ P) : sizeOk P ss 0 = true := by
  have := runK_zero ss
  simp only [sizeOk, hs, h]
  simp
  omega
theorem sizeOk_next {P : Int} {ss : List Int} {m : Nat} {s p : Int} (hs : at0 ss (m + 1) = s) (hp : at0 ss m = p) (h : isPow s = true) (hle : s ≤ p) (hr : runK ss (m + 1 + 1) ≤ P + 1) : sizeOk P ss (m + 1) = true := by
  simp only [sizeOk, hs, Nat.add_sub_cancel, hp, h]
  simp
  omega
theorem runK_less {ss : List Int} {m : Nat} {s p : Int} (hs : at0 ss (m + 1) = s) (hp : at0 ss m = p) (h : s < p) : runK ss (m + 1 + 1) = 1 := by
  refine runK_new ?_
  rw [Nat.add_sub_cancel, hs, hp]; omega
theorem runK_eq {ss : List Int} {m : Nat} {s p : Int} (hs : at0 ss (m + 1) = s) (hp : at0 ss m = p) (h : s = p) : runK ss (m + 1 + 1) = runK ss (m + 1) + 1 := by
  refine runK_same (by omega) ?_
  rw [Nat.add_sub_cancel, hs, hp]; exact h
theorem timeOk_out {ts : List Int} {k : Nat} {t : Int} (ht : at0 ts k = t) (h : inR t 0 1000000 = false) : timeOk ts k = false := by simp [timeOk, ht, h]
theorem timeOk_lt {ts : List Int} {m : Nat} {t p : Int} (ht : at0 ts (m + 1) = t) (hp : at0 ts m = p) (h : t < p) : timeOk ts (m + 1) = false := by
  simp only [timeOk, ht, Nat.add_sub_cancel, hp]
  simp
  omega
theorem timeOk_first {ts : List Int} {t : Int} (ht : at0 ts 0 = t) (h : inR t 0 1000000 = true) : timeOk ts 0 = true := by simp [timeOk, ht, h]
theorem timeOk_next {ts : List Int} {m : Nat} {t p : Int} (ht : at0 ts (m + 1) = t) (hp : at0 ts m = p) (h : inR t 0 1000000 = true) (hle : p ≤ t) : timeOk ts (m + 1) = true := by
  simp only [timeOk, ht, Nat.add_sub_cancel, hp, h]
  simp
  omega

theorem winB_L {L P : Int} {ts ss : List Int} (h : inR L 1 1000000 = false) : winB L P ts ss = false := by simp [winB, h]
theorem winB_P {L P : Int} {ts ss : List Int} (h : inR P 1 16 = false) : winB L P ts ss = false := by simp [winB, h]
theorem winB_long {L P : Int} {ts ss : List Int} (h : ¬ ts.length ≤ 128) : winB L P ts ss = false := by simp [winB, h]
theorem winB_len {L P : Int} {ts ss : List Int} (h : ¬ ss.length = ts.length) : winB L P ts ss = false := by simp [winB, h]
theorem winB_time {L P : Int} {ts ss : List Int} {k : Nat} (hk : k < ts.length) (h : timeOk ts k = false) : winB L P ts ss = false := by
  have : (List.range ts.length).all (timeOk ts) = false := by
    rw [List.all_eq_false]; exact ⟨k, by simpa using hk, by simp [h]⟩
  simp [winB, this]
theorem winB_times {L P : Int} {ts ss : List Int} (h : (List.range ts.length).all (timeOk ts) = false) : winB L P ts ss = false := by simp [winB, h]
theorem winB_size {L P : Int} {ts ss : List Int} {k : Nat} (hk : k < ts.length) (h : sizeOk P ss k = false) : winB L P ts ss = false := by
  have : (List.range ts.length).all (sizeOk P ss) = false := by
    rw [List.all_eq_false]; exact ⟨k, by simpa using hk, by simp [h]⟩
  simp [winB, this]
theorem winB_yes {L P : Int} {ts ss : List Int} (h1 : inR L 1 1000000 = true) (h2 : inR P 1 16 = true) (h3 : ts.length ≤ 128) (h4 : ss.length = ts.length) (h5 : (List.range ts.length).all (timeOk ts) = true) (h6 : ∀ j, j < ts.length → sizeOk P ss j = true) : winB L P ts ss = true := by
  have h7 : (List.range ts.length).all (sizeOk P ss) = true := by
    rw [List.all_eq_true]; intro j hj; exact h6 j (by simpa using hj)
  simp [winB, h1, h2, h3, h4, h5, h7]

def ascB (ts : List Int) : Bool := (List.range ts.length).all fun k => k == 0 || decide (at0 ts (k - 1) ≤ at0 ts k)
theorem times_and (ts : List Int) : (List.range ts.length).all (timeOk ts) = (ts.all (fun x => inR x 0 1000000) && ascB ts) := by
  rw [Bool.eq_iff_iff]
  simp only [ascB, timeOk, Bool.and_eq_true, List.all_eq_true, List.mem_range]
  constructor
  · intro h
    refine ⟨fun x hx => ?_, fun k hk => (h k hk).2⟩
    obtain ⟨k, hk, rfl⟩ := List.mem_iff_getElem.1 hx
    have := (h k hk).1
    simpa [at0, hk] using this
  · rintro ⟨h1, h2⟩ k hk
    refine ⟨?_, h2 k hk⟩
    have := h1 _ (List.getElem_mem hk)
    simpa [at0, hk] using this
theorem ascB_no {ts : List Int} {m : Nat} (hm : m + 1 < ts.length) (h : at0 ts (m + 1) < at0 ts m) : ascB ts = false := by
  unfold ascB
  rw [List.all_eq_false]
  refine ⟨m + 1, by simpa using hm, ?_⟩
  rw [Nat.add_sub_cancel]
  simp
  omega
theorem ascB_yes {ts : List Int} (h : ∀ j, 0 < j → j < ts.length → at0 ts (j - 1) ≤ at0 ts j) : ascB ts = true := by
  unfold ascB
  rw [List.all_eq_true]
  intro k hk
  simp only [List.mem_range] at hk
  by_cases h0 : k = 0
  · simp [h0]
  · have := h k (by omega) hk
    simp [this]
end Go.Proofs.YtmmpemfhbnkomaaDoor

namespace Go.Proofs.YtmmpemfhbnkomaaDoor
open Go.RowKit

theorem l06Time_any {x : Int} {w : World} : Calls Tryd.prog 84 #[.int .i64 x] w fun e w' => e = .returned (.bool (inR x 0 1000000)) ∧ w = w' := by
  go_enter Tryd.func84, Tryd.ntmps84
  go_wp2_with fail
  refine (l00In_any _ _ _ _).mono ?_
  rintro e w1 ⟨rfl, rfl⟩
  go_wp2
  go_ret
  exact ⟨rfl, rfl⟩
theorem l06Time_quiet {x : Int} {w : World} {n : Nat} : Calls Tryd.prog 84 #[.int .i64 x] (w.drewN n) fun e w'' => e = .returned (.bool (inR x 0 1000000)) ∧ ∃ m, w'' = w.drewN m :=
  l06Time_any.mono fun _ _ ⟨he, hw⟩ => ⟨he, n, hw.symm⟩

theorem pw_cast (j : Nat) : ((2 : Int) ^ j) = (((2 : Nat) ^ j : Nat) : Int) := by simp
theorem pw_le {j : Nat} (h : (2 : Int) ^ j ≤ 1048576) : j ≤ 20 := by
  by_cases hj : j ≤ 20
  · exact hj
  · have : (2 : Nat) ^ 21 ≤ 2 ^ j := Nat.pow_le_pow_right (by omega) (by omega)
    rw [pw_cast] at h
    omega
theorem pw_big {j : Nat} (h : ¬ (2 : Int) ^ j ≤ 1048576) : 21 ≤ j := by
  by_cases hj : 21 ≤ j
  · exact hj
  · have : (2 : Nat) ^ j ≤ 2 ^ 20 := Nat.pow_le_pow_right (by omega) (by omega)
    rw [pw_cast] at h
    omega
theorem pw_pos (j : Nat) : 1 ≤ (2 : Int) ^ j := by
  have := Nat.two_pow_pos j
  rw [pw_cast]; omega
theorem isPow_not {n : Int} {j : Nat} (hj : 21 ≤ j) (h : ∀ i, i < j → ¬ (2 : Int) ^ i = n) : isPow n = false := by
  cases hp : isPow n with
  | false => rfl
  | true =>
    simp only [isPow, List.any_eq_true, List.mem_range, beq_iff_eq] at hp
    obtain ⟨i, hi, rfl⟩ := hp
    exact absurd rfl (h i (by omega))
theorem isPow_at {n : Int} {j : Nat} (hj : j ≤ 20) (h : (2 : Int) ^ j = n) : isPow n = true := by
  simp only [isPow, List.any_eq_true, List.mem_range, beq_iff_eq]
  exact ⟨j, by omega, h.symm⟩

set_option maxHeartbeats 400000 in
theorem l04Power_any {n : Int} {w : World} : Calls Tryd.prog 78 #[.int .i64 n, .int .i64 1, .int .i64 1048576] w fun e w' => e = .returned (.bool (isPow n)) ∧ w = w' := by
  go_enter Tryd.func78, Tryd.ntmps78
  go_wp2
  go_loop [7] (fun p => ∃ (j : Nat) (z : Int), 1 ≤ z ∧ z ≤ 2097152 ∧ p = .int .i64 z ∧ Hid ((2 : Int) ^ j = z) ∧ Hid (∀ i, i < j → ¬ (2 : Int) ^ i = n)) (fun p => (2097153 - intOf p).toNat)
  case atStart => exact ⟨0, 1, by omega, by omega, rfl, by show _ = _; rfl, by show ∀ i, _; intro i hi; omega⟩
  case round =>
    obtain ⟨j, z, hz1, hz2, rfl, HZ, HN⟩ := hrel
    by_cases hle : z ≤ 1048576
    · by_cases he : z = n
      · have hd : (z == n) = true := by simp [he]
        have HE := Lib.hid he
        clear he
        go_wp2
        go_ret
        exact ⟨ret_bool (isPow_at (pw_le (by rw [HZ.out]; exact hle)) (HZ.out.trans HE.out)).symm, rfl⟩
      · have hd : (z == n) = false := by simpa using he
        have HE := Lib.hid he
        clear he
        go_wp2
        go_round
        case rel =>
          refine ⟨j + 1, 2 * z, by omega, by omega, rfl, ?_, ?_⟩
          · show _ = _
            rw [Int.pow_succ, HZ.out, Int.mul_comm]
          · show ∀ i, _
            intro i hi
            by_cases h : i = j
            · subst h; rw [HZ.out]; exact HE.out
            · exact HN.out i (by omega)
        case measure => simp [intOf]; omega
    · go_wp2
      go_ret
      exact ⟨ret_bool (isPow_not (pw_big (by rw [HZ.out]; omega)) HN.out).symm, rfl⟩
theorem l04Power_quiet {x : Int} {w : World} {n : Nat} : Calls Tryd.prog 78 #[.int .i64 x, .int .i64 1, .int .i64 1048576] (w.drewN n) fun e w'' => e = .returned (.bool (isPow x)) ∧ ∃ m, w'' = w.drewN m :=
  l04Power_any.mono fun _ _ ⟨he, hw⟩ => ⟨he, n, hw.symm⟩

end Go.Proofs.YtmmpemfhbnkomaaDoor

namespace Go.Proofs.YtmmpemfhbnkomaaDoor
open Go.RowKit

theorem isNaNi_any {x : Int} {w : World} : Calls Tryd.prog 130 #[.int .i64 x] w fun e w' => e = .returned (.bool false) ∧ w = w' := by
  go_enter Tryd.func130, Tryd.ntmps130
  go_wp2
  go_ret
  exact ⟨ret_bool (by simp), rfl⟩
theorem lessi_any {x y : Int} {w : World} : Calls Tryd.prog 121 #[.int .i64 x, .int .i64 y] w fun e w' => e = .returned (.bool (decide (x < y))) ∧ w = w' := by
  go_enter Tryd.func121, Tryd.ntmps121
  go_wp2_with (go_at_call 130; refine isNaNi_any.mono ?_; rintro e w1 ⟨rfl, rfl⟩)
  go_ret
  exact ⟨rfl, rfl⟩
theorem lessi_quiet {x y : Int} {w : World} {n : Nat} : Calls Tryd.prog 121 #[.int .i64 x, .int .i64 y] (w.drewN n) fun e w'' => e = .returned (.bool (decide (x < y))) ∧ ∃ m, w'' = w.drewN m :=
  lessi_any.mono fun _ _ ⟨he, hw⟩ => ⟨he, n, hw.symm⟩

theorem drewN_more {w wr : World} (h : ∃ n, wr = w.drewN n) (m : Nat) : ∃ n, wr.drewN m = w.drewN n := by
  obtain ⟨n, rfl⟩ := h
  exact ⟨_, World.drewN_drewN _ _ _⟩
theorem at0_cell {w : World} {a : Option Addr} {c : Nat} {xs : List Int} (hr : Rd (Value.int .i64) w a c xs) {k : Nat} (hk : k < xs.length) {x : Int} (hx : at0 xs k = x) : w.cell? (elt a k) = some (.int .i64 x) := by
  rw [hr.cell k hk, ← hx]; rfl

set_option maxHeartbeats 800000 in
theorem isSorted_any {a : Option Addr} {c : Nat} {xs : List Int} {w : World} (hr : Rd (Value.int .i64) w a c xs) :
    Calls Tryd.prog 105 #[.slice a xs.length c] w fun e w' => e = .returned (.bool (ascB xs)) ∧ ∃ n, w' = w.drewN n := by
  have hln := hr.len
  go_enter Tryd.func105, Tryd.ntmps105
  go_wp2
  go_loopw [3] (fun i wr => ∃ (z : Int), -1 ≤ z ∧ z < xs.length ∧ i = .int .i64 z ∧ Hid (∀ j : Nat, 0 < j → j < xs.length → z < j → at0 xs (j - 1) ≤ at0 xs j) ∧ Hid (∃ n, wr = w.drewN n)) (fun i _ => (intOf i).toNat)
  case atStart => exact ⟨_, by omega, by omega, rfl, by show ∀ j : Nat, _; intro j _ _ _; omega, by show ∃ n, _; exact ⟨0, rfl⟩⟩
  case round =>
    obtain ⟨z, hz1, hz2, rfl, HA, HN⟩ := hrel
    have hbr : Below w.heap.size w wr := by obtain ⟨n, hn⟩ := HN.out; rw [hn]; exact below_of_drewN _ _ _
    have hr := hr.below hbr (Nat.le_refl _)
    clear hbr
    by_cases h0 : 0 < z
    · obtain ⟨m, rfl⟩ : ∃ m : Nat, z = (m : Int) + 1 := ⟨(z - 1).toNat, by omega⟩
      have hm1 : m + 1 < xs.length := by omega
      obtain ⟨x, hx⟩ : ∃ x, at0 xs (m + 1) = x := ⟨_, rfl⟩
      obtain ⟨y, hy⟩ : ∃ x, at0 xs m = x := ⟨_, rfl⟩
      have hcx := at0_cell hr (by omega) hx
      have hcy := at0_cell hr (by omega) hy
      have hi0 := rd_idxAt hr und_is siz_is (m + 1) (by omega) ((m : Int) + 1) (by omega)
      have hi1 := rd_idxAt hr und_is siz_is m (by omega) (m : Int) (by omega)
      have HX := Lib.hid hx
      have HY := Lib.hid hy
      have ew : IntKind.i64.wrap (m : Int) = (m : Int) := IntWalk.i64_in _ (by omega)
      have ew1 : IntKind.i64.wrap ((m : Int) + 1) = (m : Int) + 1 := IntWalk.i64_in _ (by omega)
      clear hx hy
      by_cases hlt : x < y
      · go_wp2_with fail
        go_quiet ((go_at_call 121; exact lessi_quiet))
        go_wp2
        go_ret
        exact ⟨ret_bool (ascB_no (m := m) hm1 (by rw [HX.out, HY.out]; exact hlt)).symm, drewN_more HN.out _⟩
      · have hd : decide (x < y) = false := by simpa using hlt
        go_wp2_with fail
        go_quiet ((go_at_call 121; exact lessi_quiet))
        go_wp2
        go_roundw
        case rel =>
          refine ⟨(m : Int), by omega, by omega, rfl, ?_, drewN_more HN.out _⟩
          show ∀ j : Nat, _
          intro j hj1 hj2 hj3
          by_cases hj : j = m + 1
          · subst hj; rw [Nat.add_sub_cancel, HX.out, HY.out]; omega
          · exact HA.out j hj1 hj2 (by omega)
        case measure => simp [intOf]
    · go_wp2
      go_ret
      exact ⟨ret_bool (ascB_yes fun j h1 h2 => HA.out j h1 h2 (by omega)).symm, HN.out⟩

theorem areTimes_any {a : Option Addr} {c : Nat} {xs : List Int} {w : World} (hr : Rd (Value.int .i64) w a c xs) :
    Calls Tryd.prog 88 #[.slice a xs.length c] w fun e w' => e = .returned (.bool ((List.range xs.length).all (timeOk xs))) ∧ Below w.heap.size w w' := by
  rw [times_and]
  cases h : xs.all (fun x => inR x 0 1000000) with
  | false =>
    go_enter Tryd.func88, Tryd.ntmps88
    go_wp2_with fail
    refine (areWithin_any a c xs 0 1000000 w hr).mono ?_
    rintro e w1 ⟨rfl, hb1⟩
    go_wp2
    go_ret
    exact ⟨ret_bool (by simp), hb1⟩
  | true =>
    go_enter Tryd.func88, Tryd.ntmps88
    go_wp2_with fail
    refine (areWithin_any a c xs 0 1000000 w hr).mono ?_
    rintro e w1 ⟨rfl, hb1⟩
    rw [h]
    go_wp2_with fail
    refine (isSorted_any (hr.below hb1 (Nat.le_refl _))).mono ?_
    rintro e w2 ⟨rfl, n, rfl⟩
    go_wp2
    go_ret
    exact ⟨ret_bool (by simp), hb1.trans (below_of_drewN _ _ _)⟩

end Go.Proofs.YtmmpemfhbnkomaaDoor

namespace Go.Proofs.YtmmpemfhbnkomaaDoor
open Go.RowKit

def pw16 (n : Int) : Bool := inR n 16 256 && isPow n
theorem pw16_out {n : Int} (h : inR n 16 256 = false) : pw16 n = false := by simp [pw16, h]
theorem pw16_in {n : Int} (h : inR n 16 256 = true) : pw16 n = isPow n := by simp [pw16, h]
theorem pw16_at {n : Int} {j : Nat} (h : (2 : Int) ^ j = n) (h1 : 16 ≤ n) (h2 : n ≤ 256) : pw16 n = true := by
  rw [pw16_in ((inR_eq _ _ _).2 ⟨h1, h2⟩)]
  exact isPow_at (pw_le (by rw [h]; omega)) h
theorem pw16_not {n z : Int} {j : Nat} (hz : (2 : Int) ^ j = z) (h1 : 256 < z) (h : ∀ i, 4 ≤ i → i < j → ¬ (2 : Int) ^ i = n) : pw16 n = false := by
  cases hp : pw16 n with
  | false => rfl
  | true =>
    simp only [pw16, Bool.and_eq_true, inR_eq, isPow, List.any_eq_true, List.mem_range, beq_iff_eq] at hp
    obtain ⟨⟨ha, hb⟩, i, hi, rfl⟩ := hp
    refine absurd rfl (h i ?_ ?_)
    · by_cases h4 : 4 ≤ i
      · exact h4
      · have : (2 : Nat) ^ i ≤ 2 ^ 3 := Nat.pow_le_pow_right (by omega) (by omega)
        rw [pw_cast] at ha
        omega
    · by_cases hj : i < j
      · exact hj
      · have : (2 : Nat) ^ j ≤ 2 ^ i := Nat.pow_le_pow_right (by omega) (by omega)
        rw [pw_cast] at hb hz
        omega
theorem and_test {s : Int} (h1 : 1 ≤ s) (h2 : s ≤ 1048576) : (bits .and .i64 s (s - 1) == 0) = isPow s := by
  have h := pow_test h1 h2
  cases hb : (bits .and .i64 s (s - 1) == 0) <;> simp [bne, hb] at h <;> simp [h]

set_option maxHeartbeats 400000 in
theorem l04Power16_any {n : Int} {w : World} : Calls Tryd.prog 78 #[.int .i64 n, .int .i64 16, .int .i64 256] w fun e w' => e = .returned (.bool (pw16 n)) ∧ w = w' := by
  go_enter Tryd.func78, Tryd.ntmps78
  go_wp2
  go_loop [7] (fun p => ∃ (j : Nat) (z : Int), 16 ≤ z ∧ z ≤ 512 ∧ p = .int .i64 z ∧ Hid ((2 : Int) ^ j = z) ∧ Hid (∀ i, 4 ≤ i → i < j → ¬ (2 : Int) ^ i = n)) (fun p => (513 - intOf p).toNat)
  case atStart => exact ⟨4, 16, by omega, by omega, rfl, by show _ = _; rfl, by show ∀ i, _; intro i hi; omega⟩
  case round =>
    obtain ⟨j, z, hz1, hz2, rfl, HZ, HN⟩ := hrel
    by_cases hle : z ≤ 256
    · by_cases he : z = n
      · have hd : (z == n) = true := by simp [he]
        have HE := Lib.hid he
        clear he
        go_wp2
        go_ret
        exact ⟨ret_bool (pw16_at (HZ.out.trans HE.out) (by have := HE.out; omega) (by have := HE.out; omega)).symm, rfl⟩
      · have hd : (z == n) = false := by simpa using he
        have HE := Lib.hid he
        clear he
        go_wp2
        go_round
        case rel =>
          refine ⟨j + 1, 2 * z, by omega, by omega, rfl, ?_, ?_⟩
          · show _ = _
            rw [Int.pow_succ, HZ.out, Int.mul_comm]
          · show ∀ i, _
            intro i hi hj
            by_cases h : i = j
            · subst h; rw [HZ.out]; exact HE.out
            · exact HN.out i hi (by omega)
        case measure => simp [intOf]; omega
    · go_wp2
      go_ret
      exact ⟨ret_bool (pw16_not HZ.out (by omega) HN.out).symm, rfl⟩

set_option maxHeartbeats 400000 in
theorem isPowerOfTwo16_any {n : Nat} {w : World} : Calls Tryd.prog 82 #[.int .i64 n, .int .i64 16, .int .i64 256] w fun e w' => e = .returned (.bool (pw16 n)) ∧ w = w' := by
  by_cases h1 : 16 ≤ n
  case neg =>
    go_enter Tryd.func82, Tryd.ntmps82
    go_wp2
    go_ret
    exact ⟨ret_bool (pw16_out (by simp [inR]; omega)).symm, rfl⟩
  case pos =>
  by_cases h2 : n ≤ 256
  case neg =>
    go_enter Tryd.func82, Tryd.ntmps82
    go_wp2
    go_ret
    exact ⟨ret_bool (pw16_out (by simp [inR]; omega)).symm, rfl⟩
  case pos =>
    have ht := and_test (s := (n : Int)) (by omega) (by omega)
    have hp := pw16_in (n := (n : Int)) ((inR_eq _ _ _).2 ⟨by omega, by omega⟩)
    rw [hp]
    clear hp
    generalize isPow (n : Int) = bb at ht ⊢
    go_enter Tryd.func82, Tryd.ntmps82
    go_wp2
    go_ret
    exact ⟨rfl, rfl⟩

end Go.Proofs.YtmmpemfhbnkomaaDoor

namespace Go.Proofs.YtmmpemfhbnkomaaDoor
open Go.RowKit

theorem l00In_q {x lo hi : Int} {w : World} {n : Nat} : Calls Tryd.prog 71 #[.int .i64 x, .int .i64 lo, .int .i64 hi] (w.drewN n) fun e w'' => e = .returned (.bool (inR x lo hi)) ∧ ∃ m, w'' = w.drewN m :=
  (l00In_any _ _ _ _).mono fun _ _ ⟨he, hw⟩ => ⟨he, n, hw.symm⟩
theorem at0_cell' {w : World} {a : Option Addr} {c : Nat} {xs : List Int} (hr : Rd (Value.int .i64) w a c xs) {k : Nat} (hk : k < xs.length) {x : Int} (hx : at0 xs k = x) : w.cell? (elt a k) = some (.int .i64 x) := by
  rw [hr.cell k hk, ← hx]; rfl
theorem drewN_more' {w wr : World} (h : ∃ n, wr = w.drewN n) (m : Nat) : ∃ n, wr.drewN m = w.drewN n := by
  obtain ⟨n, rfl⟩ := h
  exact ⟨_, World.drewN_drewN _ _ _⟩

/-- A window in memory. -/
structure WinAt (w : World) (b o : Nat) (L P : Int) (ta : Option Addr) (tl tc : Nat) (sa : Option Addr) (sl sc : Nat) : Prop where
  c0 : w.cell? ⟨b, o, none⟩ = some (.int .i64 L)
  c1 : w.cell? ⟨b, o + 1, none⟩ = some (.int .i64 P)
  c2 : w.cell? ⟨b, o + 2, none⟩ = some (.slice ta tl tc)
  c3 : w.cell? ⟨b, o + 3, none⟩ = some (.slice sa sl sc)
  lt : b < w.heap.size
theorem WinAt.below {w w' : World} {b o : Nat} {L P : Int} {ta : Option Addr} {tl tc : Nat} {sa : Option Addr} {sl sc : Nat} (h : WinAt w b o L P ta tl tc sa sl sc) {B : Nat} (hb : Below B w w') (hB : w.heap.size ≤ B) : WinAt w' b o L P ta tl tc sa sl sc := by
  have hl := h.lt
  refine ⟨?_, ?_, ?_, ?_, Nat.lt_of_lt_of_le hl hb.size⟩
  · rw [hb.cell (by simp; omega)]; exact h.c0
  · rw [hb.cell (by simp; omega)]; exact h.c1
  · rw [hb.cell (by simp; omega)]; exact h.c2
  · rw [hb.cell (by simp; omega)]; exact h.c3

set_option maxRecDepth 4000 in
set_option maxHeartbeats 4000000 in
theorem l06Is_any {b o : Nat} {ta sa : Option Addr} {tc sc : Nat} {ts ss : List Int} {L P : Int} {w : World} (hw : WinAt w b o L P ta ts.length tc sa ss.length sc) (ht : Rd (Value.int .i64) w ta tc ts) (hs : Rd (Value.int .i64) w sa sc ss) :
    Calls Tryd.prog 65 #[.pointer (some ⟨b, o, none⟩)] w fun e w' => e = .returned (.bool (winB L P ts ss)) ∧ ∃ n, w' = w.drewN n := by
  have hlt := ht.len
  have hls := hs.len
  have HW := Lib.hid hw
  obtain ⟨d0, d1, d2, d3, _⟩ := hw
  cases h1 : inR L 1 1000000 with
  | false =>
    go_enter Tryd.func65, Tryd.ntmps65
    go_wp2_with fail
    go_quiet ((go_at_call 71; exact l00In_q))
    go_wp2
    go_ret
    exact ⟨ret_bool (winB_L h1).symm, _, rfl⟩
  | true =>
  cases h2 : inR P 1 16 with
  | false =>
    go_enter Tryd.func65, Tryd.ntmps65
    go_wp2_with fail
    go_quiet ((go_at_call 71; exact l00In_q))
    go_wp2
    go_ret
    exact ⟨ret_bool (winB_P h2).symm, _, rfl⟩
  | true =>
  by_cases h3 : ts.length ≤ 128
  case neg =>
    have h3' : decide (128 < (ts.length : Int)) = true := by simp; omega
    have h3'' : 128 < ts.length := by omega
    go_enter Tryd.func65, Tryd.ntmps65
    go_wp2_with fail
    go_quiet ((go_at_call 71; exact l00In_q))
    go_wp2
    go_ret
    exact ⟨ret_bool (winB_long h3).symm, _, rfl⟩
  case pos =>
  have hn3 : decide (128 < (ts.length : Int)) = false := by simp; omega
  by_cases h4 : ss.length = ts.length
  case neg =>
    have h4' : ((ss.length : Int) != (ts.length : Int)) = true := by simp; omega
    have H4 := Lib.hid h4
    clear h4
    go_enter Tryd.func65, Tryd.ntmps65
    go_wp2_with fail
    go_quiet ((go_at_call 71; exact l00In_q))
    go_wp2
    go_ret
    exact ⟨ret_bool (winB_len H4.out).symm, _, rfl⟩
  case pos =>
  have h4' : ((ss.length : Int) != (ts.length : Int)) = false := by simp [h4]
  have H4 := Lib.hid h4
  clear h4
  have H1 := Lib.hid h1
  have H2 := Lib.hid h2
  obtain ⟨hP1, hP2⟩ := (inR_eq _ _ _).1 h2
  go_enter Tryd.func65, Tryd.ntmps65
  go_wp2_with fail
  go_quiet ((go_at_call 71; exact l00In_q))
  rw [h1, h2]
  clear h1 h2
  have hN0 : ∃ n, w.drewN nq = w.drewN n := ⟨_, rfl⟩
  generalize w.drewN nq = w1 at hN0 ⊢
  have HN0 := Lib.hid hN0
  clear hN0 d0 d1 d2 d3 h4'
  have hls2 : ss.length ≤ 128 := by rw [H4.out]; exact h3
  go_wp2_with fail
  go_loopw [3, 4] (fun r i wr => ∃ (k : Nat) (R : Int), k ≤ ts.length ∧ i = .int .i64 k ∧ r = .int .i64 R ∧ 0 ≤ R ∧ R ≤ k ∧ Hid (runK ss k = R) ∧ Hid (∀ j, j < k → sizeOk P ss j = true ∧ timeOk ts j = true) ∧ Hid (∃ n, wr = w.drewN n)) (fun _ i _ => ts.length - (intOf i).toNat)
  case atStart => exact ⟨0, 0, Nat.zero_le _, rfl, rfl, by omega, by omega, by show _ = _; rfl, by show ∀ j, _; intro j hj; omega, HN0⟩
  case round =>
    obtain ⟨k, R, hk, rfl, rfl, hR0, hR1, HR, HA, HN⟩ := hrel
    clear HN0
    have hbr : Below w.heap.size w wr := by obtain ⟨n, hn⟩ := HN.out; rw [hn]; exact below_of_drewN _ _ _
    have htr := ht.below hbr (Nat.le_refl _)
    have hsr := hs.below hbr (Nat.le_refl _)
    obtain ⟨c0, c1, c2, c3, _⟩ := HW.out.below hbr (Nat.le_refl _)
    clear hbr hn3
    by_cases hlt : k < ts.length
    · obtain ⟨t, htt⟩ : ∃ x, at0 ts k = x := ⟨_, rfl⟩
      obtain ⟨s, hss⟩ : ∃ x, at0 ss k = x := ⟨_, rfl⟩
      have hks : k < ss.length := by rw [H4.out]; exact hlt
      have hct := at0_cell' htr hlt htt
      have hcs := at0_cell' hsr hks hss
      have HT := Lib.hid htt
      have HS := Lib.hid hss
      clear htt hss
      by_cases hk0 : k = 0
      · subst hk0
        obtain rfl : R = 0 := by omega
        have hi0 := rd_idxAt htr und_is siz_is 0 hlt 0 rfl
        have hi1 := rd_idxAt hsr und_is siz_is 0 hks 0 rfl
        cases hin : inR t 0 1000000 with
        | false =>
          go_wp2_with fail
          go_quiet ((first | (go_at_call 84; exact l06Time_quiet) | (go_at_call 78; exact l04Power_quiet)))
          go_wp2
          go_ret
          exact ⟨ret_bool (winB_time hlt (timeOk_out HT.out hin)).symm, drewN_more' HN.out _⟩
        | true =>
        cases hp : isPow s with
        | false =>
          go_wp2_with fail
          go_quiet ((first | (go_at_call 84; exact l06Time_quiet) | (go_at_call 78; exact l04Power_quiet)))
          go_wp2
          go_ret
          exact ⟨ret_bool (winB_size hlt (sizeOk_pow HS.out hp)).symm, drewN_more' HN.out _⟩
        | true =>
          have HP := Lib.hid hp
          go_wp2_with fail
          go_quiet ((first | (go_at_call 84; exact l06Time_quiet) | (go_at_call 78; exact l04Power_quiet)))
          go_wp2_with fail
          go_quiet (fail)
          go_wp2_with fail
          go_quiet (fail)
          go_wp2
          go_roundw
          case rel =>
            refine ⟨1, 1, hlt, rfl, rfl, by omega, by omega, runK_zero ss, ?_, ?_⟩
            · show ∀ j, _
              intro j hj
              obtain rfl : j = 0 := by omega
              exact ⟨sizeOk_first HS.out HP.out hP1, timeOk_first HT.out hin⟩
            · show ∃ n, _
              first | exact drewN_more' HN.out _ | exact drewN_more' (drewN_more' HN.out _) _ | exact drewN_more' (drewN_more' (drewN_more' HN.out _) _) _
          case measure => simp [intOf]; omega
      · obtain ⟨m, rfl⟩ : ∃ m, k = m + 1 := ⟨k - 1, by omega⟩
        obtain ⟨p, hpp⟩ : ∃ x, at0 ss m = x := ⟨_, rfl⟩
        obtain ⟨u, huu⟩ : ∃ x, at0 ts m = x := ⟨_, rfl⟩
        have hcp := at0_cell' hsr (by omega) hpp
        have hcu := at0_cell' htr (by omega) huu
        have hi0 := rd_idxAt hsr und_is siz_is (m + 1) hks ((m : Int) + 1) (by omega)
        have hi1 := rd_idxAt hsr und_is siz_is m (by omega) (m : Int) rfl
        have hi2 := rd_idxAt htr und_is siz_is (m + 1) hlt ((m : Int) + 1) (by omega)
        have hi3 := rd_idxAt htr und_is siz_is m (by omega) (m : Int) rfl
        have ew : IntKind.i64.wrap (m : Int) = (m : Int) := IntWalk.i64_in _ (by omega)
        have HP := Lib.hid hpp
        have HU := Lib.hid huu
        clear hpp huu hk0
        cases hin : inR t 0 1000000 with
        | false =>
          go_wp2_with fail
          go_quiet ((first | (go_at_call 84; exact l06Time_quiet) | (go_at_call 78; exact l04Power_quiet)))
          go_wp2
          go_ret
          exact ⟨ret_bool (winB_time hlt (timeOk_out HT.out hin)).symm, drewN_more' HN.out _⟩
        | true =>
        by_cases htu : t < u
        case pos =>
          have HTU := Lib.hid htu
          go_wp2_with fail
          go_quiet ((first | (go_at_call 84; exact l06Time_quiet) | (go_at_call 78; exact l04Power_quiet)))
          go_wp2
          go_ret
          exact ⟨ret_bool (winB_time hlt (timeOk_lt HT.out HU.out HTU.out)).symm, drewN_more' HN.out _⟩
        case neg =>
        have htd : decide (t < u) = false := by simpa using htu
        have HTU := Lib.hid htu
        clear htu
        cases hp : isPow s with
        | false =>
          go_wp2_with fail
          go_quiet ((first | (go_at_call 84; exact l06Time_quiet) | (go_at_call 78; exact l04Power_quiet)))
          go_wp2
          go_ret
          exact ⟨ret_bool (winB_size hlt (sizeOk_pow HS.out hp)).symm, drewN_more' HN.out _⟩
        | true =>
        have HI := Lib.hid hp
        have HIN := Lib.hid hin
        have htok : timeOk ts (m + 1) = true := timeOk_next HT.out HU.out hin (by have := HTU.out; omega)
        have HTOK := Lib.hid htok
        clear htok
        rcases Int.lt_trichotomy s p with hsp | hsp | hsp
        · have hd1 : decide (p < s) = false := by simp; omega
          have hd2 : decide (s < p) = true := by simp; omega
          have HSP := Lib.hid hsp
          go_wp2_with fail
          go_quiet ((first | (go_at_call 84; exact l06Time_quiet) | (go_at_call 78; exact l04Power_quiet)))
          go_wp2_with fail
          go_quiet (fail)
          go_wp2_with fail
          go_quiet (fail)
          go_wp2
          go_roundw
          case rel =>
            have hr := runK_less HS.out HP.out HSP.out
            refine ⟨m + 1 + 1, 1, hlt, by go_num, rfl, by omega, by omega, hr, ?_, ?_⟩
            · show ∀ j, _
              intro j hj
              by_cases h : j = m + 1
              · subst h; exact ⟨sizeOk_next HS.out HP.out HI.out (by have := HSP.out; omega) (by rw [hr]; omega), HTOK.out⟩
              · exact HA.out j (by omega)
            · show ∃ n, _
              first | exact drewN_more' HN.out _ | exact drewN_more' (drewN_more' HN.out _) _ | exact drewN_more' (drewN_more' (drewN_more' HN.out _) _) _
          case measure => simp [intOf]; omega
        · have hd1 : decide (p < s) = false := by simp; omega
          have hd2 : decide (s < p) = false := by simp; omega
          have HSP := Lib.hid hsp
          clear hsp
          by_cases hrun : R + 1 ≤ P + 1
          · go_wp2_with fail
            go_quiet ((first | (go_at_call 84; exact l06Time_quiet) | (go_at_call 78; exact l04Power_quiet)))
            go_wp2_with fail
            go_quiet (fail)
            go_wp2_with fail
            go_quiet (fail)
            go_wp2
            go_roundw
            case rel =>
              have hr := (runK_eq HS.out HP.out HSP.out).trans (by rw [HR.out])
              refine ⟨m + 1 + 1, R + 1, hlt, by go_num, rfl, by omega, by omega, hr, ?_, ?_⟩
              · show ∀ j, _
                intro j hj
                by_cases h : j = m + 1
                · subst h; exact ⟨sizeOk_next HS.out HP.out HI.out (by have := HSP.out; omega) (by rw [hr]; omega), HTOK.out⟩
                · exact HA.out j (by omega)
              · show ∃ n, _
                first | exact drewN_more' HN.out _ | exact drewN_more' (drewN_more' HN.out _) _ | exact drewN_more' (drewN_more' (drewN_more' HN.out _) _) _
            case measure => simp [intOf]; omega
          · go_wp2_with fail
            go_quiet ((first | (go_at_call 84; exact l06Time_quiet) | (go_at_call 78; exact l04Power_quiet)))
            go_wp2_with fail
            go_quiet (fail)
            go_wp2_with fail
            go_quiet (fail)
            go_wp2
            go_ret
            have hr := (runK_eq HS.out HP.out HSP.out).trans (by rw [HR.out])
            refine ⟨ret_bool (winB_size hlt (sizeOk_run (by rw [hr]; omega))).symm, ?_⟩
            first | exact drewN_more' HN.out _ | exact drewN_more' (drewN_more' HN.out _) _ | exact drewN_more' (drewN_more' (drewN_more' HN.out _) _) _
        · have hd1 : decide (p < s) = true := by simp; omega
          have HSP := Lib.hid hsp
          go_wp2_with fail
          go_quiet ((first | (go_at_call 84; exact l06Time_quiet) | (go_at_call 78; exact l04Power_quiet)))
          go_wp2_with fail
          go_quiet (fail)
          go_wp2
          go_ret
          refine ⟨ret_bool (winB_size hlt (sizeOk_gt HS.out HP.out HSP.out)).symm, ?_⟩
          first | exact drewN_more' HN.out _ | exact drewN_more' (drewN_more' HN.out _) _ | exact drewN_more' (drewN_more' (drewN_more' HN.out _) _) _
    · obtain rfl : k = ts.length := by omega
      go_wp2
      go_ret
      refine ⟨ret_bool (winB_yes H1.out H2.out h3 H4.out ?_ fun j hj => (HA.out j hj).1).symm, HN.out⟩
      rw [List.all_eq_true]
      intro j hj
      exact (HA.out j (by simpa using hj)).2
end Go.Proofs.YtmmpemfhbnkomaaDoor
