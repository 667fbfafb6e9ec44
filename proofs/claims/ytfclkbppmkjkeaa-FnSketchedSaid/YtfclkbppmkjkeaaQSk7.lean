/- Windows: what is valid, in plain words. Powers and times in the reference's text. ValidWindow in the program's text. Lists in ascending order: what a sort makes of a list, in plain words. The least, the middle, the greatest and the most frequent of some numbers: plain. Sums, means and smoothed numbers of small integers in single precision: plain. -/
import Derived.Test.YtfclkbppmkjkeaaQSk5
import Derived.Laws.Entries
import Derived.Test.YtfclkbppmkjkeaaQSk3
namespace Go.Proofs.Ytfclkbppmkjkeaa
open Go.RowKit

def at0 (xs : List Int) (k : Nat) : Int := xs[k]?.getD 0
def isPow (n : Int) : Bool := (List.range 21).any fun j => n == (2 : Int) ^ j
def timeOk (ts : List Int) (k : Nat) : Bool := inR (at0 ts k) 0 1000000 && (k == 0 || decide (at0 ts (k - 1) ≤ at0 ts k))
/-- How many sizes up to k are equal, at the end. -/
def runK (ss : List Int) : Nat → Int
  | 0 => 0
  | k + 1 => (if k = 0 ∨ at0 ss k ≠ at0 ss (k - 1) then 0 else runK ss k) + 1
def sizeOk (P : Int) (ss : List Int) (k : Nat) : Bool := isPow (at0 ss k) && (k == 0 || decide (at0 ss k ≤ at0 ss (k - 1))) && decide (runK ss (k + 1) ≤ P + 1)
def winB (L P : Int) (ts ss : List Int) : Bool :=
  inR L 1 1000000 && inR P 1 16 && decide (ts.length ≤ 128) && decide (ss.length = ts.length) && (List.range ts.length).all (timeOk ts) && (List.range ts.length).all (sizeOk P ss)

theorem winB_parts {L P : Int} {ts ss : List Int} (h : winB L P ts ss = true) :
    1 ≤ L ∧ L ≤ 1000000 ∧ 1 ≤ P ∧ P ≤ 16 ∧ ts.length ≤ 128 ∧ ss.length = ts.length ∧ (∀ k, k < ts.length → timeOk ts k = true) ∧ ∀ k, k < ts.length → sizeOk P ss k = true := by
  simp only [winB, Bool.and_eq_true, inR, decide_eq_true_eq, List.all_eq_true, List.mem_range] at h
  obtain ⟨⟨⟨⟨⟨⟨h1, h2⟩, h3, h4⟩, h5⟩, h6⟩, h7⟩, h8⟩ := h
  exact ⟨h1, h2, h3, h4, h5, h6, h7, h8⟩

theorem runK_bd (ss : List Int) (k : Nat) : 0 ≤ runK ss k ∧ runK ss k ≤ k := by
  induction k with
  | zero => simp [runK]
  | succ k ih =>
    unfold runK
    split <;> omega
theorem runK_zero (ss : List Int) : runK ss 1 = 1 := by simp [runK]
theorem runK_new {ss : List Int} {k : Nat} (h : at0 ss k ≠ at0 ss (k - 1)) : runK ss (k + 1) = 1 := by simp [runK, h]
theorem runK_same {ss : List Int} {k : Nat} (hk : 0 < k) (h : at0 ss k = at0 ss (k - 1)) : runK ss (k + 1) = runK ss k + 1 := by
  have : ¬ k = 0 := by omega
  simp [runK, h, this]

theorem isPow_bd {n : Int} (h : isPow n = true) : 1 ≤ n ∧ n ≤ 1048576 := by
  simp only [isPow, List.any_eq_true, List.mem_range, beq_iff_eq] at h
  obtain ⟨j, hj, rfl⟩ := h
  have h1 : (2 : Nat) ^ j ≤ 2 ^ 20 := Nat.pow_le_pow_right (by omega) (by omega)
  have h2 : 0 < (2 : Nat) ^ j := Nat.two_pow_pos j
  have h3 : ((2 : Int) ^ j) = (((2 : Nat) ^ j : Nat) : Int) := by simp
  rw [h3]
  omega

theorem pow_land_nat (n : Nat) (h1 : 1 ≤ n) : (n &&& (n - 1) = 0) ↔ ∃ j, n = 2 ^ j := by
  constructor
  · intro h
    refine ⟨n.log2, ?_⟩
    have hn : n ≠ 0 := by omega
    have hlo : 2 ^ n.log2 ≤ n := Nat.log2_self_le hn
    have hhi : n < 2 ^ (n.log2 + 1) := Nat.lt_log2_self
    by_cases he : n = 2 ^ n.log2
    · exact he
    · exfalso
      have hp := Nat.two_pow_pos n.log2
      have hb : (n &&& (n - 1)).testBit n.log2 = true := by
        rw [Nat.testBit_and]
        have e : ∀ m, 2 ^ n.log2 ≤ m → m < 2 ^ (n.log2 + 1) → m.testBit n.log2 = true := by
          intro m h2 h3
          rw [Nat.testBit_eq_decide_div_mod_eq]
          have : m / 2 ^ n.log2 = 1 := by
            rw [Nat.pow_succ] at h3
            exact Nat.div_eq_of_lt_le (by omega) (by omega)
          simp [this]
        rw [e n hlo hhi, e (n - 1) (by omega) (by omega)]
        rfl
      rw [h] at hb
      simp at hb
  · rintro ⟨j, rfl⟩
    apply Nat.eq_of_testBit_eq
    intro i
    rw [Nat.testBit_and, Nat.testBit_two_pow, Nat.testBit_two_pow_sub_one]
    simp
    omega

theorem isPow_nat (n : Nat) (h1 : 1 ≤ n) (h2 : n ≤ 1048576) : isPow (n : Int) = decide (n &&& (n - 1) = 0) := by
  rw [Bool.eq_iff_iff, decide_eq_true_eq, pow_land_nat n h1]
  simp only [isPow, List.any_eq_true, List.mem_range, beq_iff_eq]
  constructor
  · rintro ⟨j, hj, h⟩
    refine ⟨j, ?_⟩
    have h3 : ((2 : Int) ^ j) = (((2 : Nat) ^ j : Nat) : Int) := by simp
    rw [h3] at h
    omega
  · rintro ⟨j, rfl⟩
    have hj : j < 21 := by
      by_cases h : j < 21
      · exact h
      · have : (2 : Nat) ^ 21 ≤ 2 ^ j := Nat.pow_le_pow_right (by omega) (by omega)
        omega
    exact ⟨j, hj, by simp⟩

theorem bits_and_small (a b : Nat) (ha : a < 2097152) (hb : b < 2097152) : bits .and .i64 (a : Int) (b : Int) = ((a &&& b : Nat) : Int) := by
  have hl : a &&& b ≤ a := Nat.and_le_left
  have e1 : (BitVec.ofInt 64 (a : Int)).toNat = a := by
    rw [BitVec.ofInt_natCast, BitVec.toNat_ofNat]; omega
  have e2 : (BitVec.ofInt 64 (b : Int)).toNat = b := by
    rw [BitVec.ofInt_natCast, BitVec.toNat_ofNat]; omega
  show IntKind.i64.wrap ((BitVec.ofInt 64 (a : Int) &&& BitVec.ofInt 64 (b : Int)).toNat) = _
  rw [BitVec.toNat_and, e1, e2]
  generalize a &&& b = r at hl
  exact IntWalk.i64_in _ (by omega)

/-- The program's test on a size. -/
theorem pow_test {s : Int} (h1 : 1 ≤ s) (h2 : s ≤ 1048576) : (bits .and .i64 s (s - 1) != 0) = !isPow s := by
  obtain ⟨n, rfl⟩ : ∃ n : Nat, s = (n : Int) := ⟨s.toNat, by omega⟩
  rw [isPow_nat n (by omega) (by omega), show ((n : Int) - 1) = ((n - 1 : Nat) : Int) by omega, bits_and_small n (n - 1) (by omega) (by omega)]
  rw [Bool.eq_iff_iff]
  simp

theorem isPow_out {s : Int} (h : inR s 1 1048576 = false) : isPow s = false := by
  cases hp : isPow s with
  | false => rfl
  | true =>
    have := isPow_bd hp
    simp [inR] at h
    omega
theorem sizeOk_pow {P : Int} {ss : List Int} {k : Nat} {s : Int} (hs : at0 ss k = s) (h : isPow s = false) : sizeOk P ss k = false := by simp [sizeOk, hs, h]
theorem sizeOk_gt {P : Int} {ss : List Int} {m : Nat} {s p : Int} (hs : at0 ss (m + 1) = s) (hp : at0 ss m = p) (h : p < s) : sizeOk P ss (m + 1) = false := by
  simp only [sizeOk, hs, Nat.add_sub_cancel, hp]
  simp
  omega
theorem sizeOk_run {P : Int} {ss : List Int} {k : Nat} (h : P + 1 < runK ss (k + 1)) : sizeOk P ss k = false := by
  simp only [sizeOk]
  simp
  omega
theorem sizeOk_first {P : Int} {ss : List Int} {s : Int} (hs : at0 ss 0 = s) (h : isPow s = true) (hP : 1 ≤ P) : sizeOk P ss 0 = true := by
  have := runK_zero ss
  simp only [sizeOk, hs, h]
  simp
  omega
theorem sizeOk_next {P : Int} {ss : List Int} {m : Nat} {s p : Int} (hs : at0 ss (m + 1) = s) (hp : at0 ss m = p) (h : isPow s = true) (hle : s ≤ p) (hr : runK ss (m + 1 + 1) ≤ P + 1) : sizeOk P ss (m + 1) = true := by
  simp only [sizeOk, hs, Nat.add_sub_cancel, hp, h]
  simp
  omega
theorem runK_less {ss : List Int} {m : Nat} {s p : Int} (hs : at0 ss (m + 1) = s) (hp : at0 ss m = p) (h : s < p) : runK ss (m + 1 + 1) = 1 := by
  refine runK_new ?_
  rw [Nat.add_sub_cancel, hs, hp]; omega
theorem runK_eq {ss : List Int} {m : Nat} {s p : Int} (hs : at0 ss (m + 1) = s) (hp : at0 ss m = p) (h : s = p) : runK ss (m + 1 + 1) = runK ss (m + 1) + 1 := by
  refine runK_same (by omega) ?_
  rw [Nat.add_sub_cancel, hs, hp]; exact h
theorem timeOk_out {ts : List Int} {k : Nat} {t : Int} (ht : at0 ts k = t) (h : inR t 0 1000000 = false) : timeOk ts k = false := by simp [timeOk, ht, h]
theorem timeOk_lt {ts : List Int} {m : Nat} {t p : Int} (ht : at0 ts (m + 1) = t) (hp : at0 ts m = p) (h : t < p) : timeOk ts (m + 1) = false := by
  simp only [timeOk, ht, Nat.add_sub_cancel, hp]
  simp
  omega
theorem timeOk_first {ts : List Int} {t : Int} (ht : at0 ts 0 = t) (h : inR t 0 1000000 = true) : timeOk ts 0 = true := by simp [timeOk, ht, h]
theorem timeOk_next {ts : List Int} {m : Nat} {t p : Int} (ht : at0 ts (m + 1) = t) (hp : at0 ts m = p) (h : inR t 0 1000000 = true) (hle : p ≤ t) : timeOk ts (m + 1) = true := by
  simp only [timeOk, ht, Nat.add_sub_cancel, hp, h]
  simp
  omega

theorem winB_L {L P : Int} {ts ss : List Int} (h : inR L 1 1000000 = false) : winB L P ts ss = false := by simp [winB, h]
theorem winB_P {L P : Int} {ts ss : List Int} (h : inR P 1 16 = false) : winB L P ts ss = false := by simp [winB, h]
theorem winB_long {L P : Int} {ts ss : List Int} (h : ¬ ts.length ≤ 128) : winB L P ts ss = false := by simp [winB, h]
theorem winB_len {L P : Int} {ts ss : List Int} (h : ¬ ss.length = ts.length) : winB L P ts ss = false := by simp [winB, h]
theorem winB_time {L P : Int} {ts ss : List Int} {k : Nat} (hk : k < ts.length) (h : timeOk ts k = false) : winB L P ts ss = false := by
  have : (List.range ts.length).all (timeOk ts) = false := by
    rw [List.all_eq_false]; exact ⟨k, by simpa using hk, by simp [h]⟩
  simp [winB, this]
theorem winB_times {L P : Int} {ts ss : List Int} (h : (List.range ts.length).all (timeOk ts) = false) : winB L P ts ss = false := by simp [winB, h]
theorem winB_size {L P : Int} {ts ss : List Int} {k : Nat} (hk : k < ts.length) (h : sizeOk P ss k = false) : winB L P ts ss = false := by
  have : (List.range ts.length).all (sizeOk P ss) = false := by
    rw [List.all_eq_false]; exact ⟨k, by simpa using hk, by simp [h]⟩
  simp [winB, this]
theorem winB_yes {L P : Int} {ts ss : List Int} (h1 : inR L 1 1000000 = true) (h2 : inR P 1 16 = true) (h3 : ts.length ≤ 128) (h4 : ss.length = ts.length) (h5 : (List.range ts.length).all (timeOk ts) = true) (h6 : ∀ j, j < ts.length → sizeOk P ss j = true) : winB L P ts ss = true := by
  have h7 : (List.range ts.length).all (sizeOk P ss) = true := by
    rw [List.all_eq_true]; intro j hj; exact h6 j (by simpa using hj)
  simp [winB, h1, h2, h3, h4, h5, h7]

def ascB (ts : List Int) : Bool := (List.range ts.length).all fun k => k == 0 || decide (at0 ts (k - 1) ≤ at0 ts k)
theorem times_and (ts : List Int) : (List.range ts.length).all (timeOk ts) = (ts.all (fun x => inR x 0 1000000) && ascB ts) := by
  rw [Bool.eq_iff_iff]
  simp only [ascB, timeOk, Bool.and_eq_true, List.all_eq_true, List.mem_range]
  constructor
  · intro h
    refine ⟨fun x hx => ?_, fun k hk => (h k hk).2⟩
    obtain ⟨k, hk, rfl⟩ := List.mem_iff_getElem.1 hx
    have := (h k hk).1
    simpa [at0, hk] using this
  · rintro ⟨h1, h2⟩ k hk
    refine ⟨?_, h2 k hk⟩
    have := h1 _ (List.getElem_mem hk)
    simpa [at0, hk] using this
theorem ascB_no {ts : List Int} {m : Nat} (hm : m + 1 < ts.length) (h : at0 ts (m + 1) < at0 ts m) : ascB ts = false := by
  unfold ascB
  rw [List.all_eq_false]
  refine ⟨m + 1, by simpa using hm, ?_⟩
  rw [Nat.add_sub_cancel]
  simp
  omega
theorem ascB_yes {ts : List Int} (h : ∀ j, 0 < j → j < ts.length → at0 ts (j - 1) ≤ at0 ts j) : ascB ts = true := by
  unfold ascB
  rw [List.all_eq_true]
  intro k hk
  simp only [List.mem_range] at hk
  by_cases h0 : k = 0
  · simp [h0]
  · have := h k (by omega) hk
    simp [this]
end Go.Proofs.Ytfclkbppmkjkeaa

namespace Go.Proofs.Ytfclkbppmkjkeaa
open Go.RowKit

theorem pw_cast (j : Nat) : ((2 : Int) ^ j) = (((2 : Nat) ^ j : Nat) : Int) := by simp
theorem pw_le {j : Nat} (h : (2 : Int) ^ j ≤ 1048576) : j ≤ 20 := by
  by_cases hj : j ≤ 20
  · exact hj
  · have : (2 : Nat) ^ 21 ≤ 2 ^ j := Nat.pow_le_pow_right (by omega) (by omega)
    rw [pw_cast] at h
    omega
theorem pw_big {j : Nat} (h : ¬ (2 : Int) ^ j ≤ 1048576) : 21 ≤ j := by
  by_cases hj : 21 ≤ j
  · exact hj
  · have : (2 : Nat) ^ j ≤ 2 ^ 20 := Nat.pow_le_pow_right (by omega) (by omega)
    rw [pw_cast] at h
    omega
theorem pw_pos (j : Nat) : 1 ≤ (2 : Int) ^ j := by
  have := Nat.two_pow_pos j
  rw [pw_cast]; omega
theorem isPow_not {n : Int} {j : Nat} (hj : 21 ≤ j) (h : ∀ i, i < j → ¬ (2 : Int) ^ i = n) : isPow n = false := by
  cases hp : isPow n with
  | false => rfl
  | true =>
    simp only [isPow, List.any_eq_true, List.mem_range, beq_iff_eq] at hp
    obtain ⟨i, hi, rfl⟩ := hp
    exact absurd rfl (h i (by omega))
theorem isPow_at {n : Int} {j : Nat} (hj : j ≤ 20) (h : (2 : Int) ^ j = n) : isPow n = true := by
  simp only [isPow, List.any_eq_true, List.mem_range, beq_iff_eq]
  exact ⟨j, by omega, h.symm⟩

end Go.Proofs.Ytfclkbppmkjkeaa

namespace Go.Proofs.Ytfclkbppmkjkeaa
open Go.RowKit

theorem isNaNi_any {x : Int} {w : World} : Calls Try.prog 197 #[.int .i64 x] w fun e w' => e = .returned (.bool false) ∧ w = w' := by
  go_enter Try.func197, Try.ntmps197
  go_wp2
  go_ret
  exact ⟨ret_bool (by simp), rfl⟩
theorem lessi_any {x y : Int} {w : World} : Calls Try.prog 169 #[.int .i64 x, .int .i64 y] w fun e w' => e = .returned (.bool (decide (x < y))) ∧ w = w' := by
  go_enter Try.func169, Try.ntmps169
  go_wp2_with (go_at_call 197; refine isNaNi_any.mono ?_; rintro e w1 ⟨rfl, rfl⟩)
  go_ret
  exact ⟨rfl, rfl⟩
theorem lessi_quiet {x y : Int} {w : World} {n : Nat} : Calls Try.prog 169 #[.int .i64 x, .int .i64 y] (w.drewN n) fun e w'' => e = .returned (.bool (decide (x < y))) ∧ ∃ m, w'' = w.drewN m :=
  lessi_any.mono fun _ _ ⟨he, hw⟩ => ⟨he, n, hw.symm⟩

theorem drewN_more {w wr : World} (h : ∃ n, wr = w.drewN n) (m : Nat) : ∃ n, wr.drewN m = w.drewN n := by
  obtain ⟨n, rfl⟩ := h
  exact ⟨_, World.drewN_drewN _ _ _⟩
theorem at0_cell {w : World} {a : Option Addr} {c : Nat} {xs : List Int} (hr : Rd (Value.int .i64) w a c xs) {k : Nat} (hk : k < xs.length) {x : Int} (hx : at0 xs k = x) : w.cell? (elt a k) = some (.int .i64 x) := by
  rw [hr.cell k hk, ← hx]; rfl

set_option maxHeartbeats 800000 in
theorem isSorted_any {a : Option Addr} {c : Nat} {xs : List Int} {w : World} (hr : Rd (Value.int .i64) w a c xs) :
    Calls Try.prog 135 #[.slice a xs.length c] w fun e w' => e = .returned (.bool (ascB xs)) ∧ ∃ n, w' = w.drewN n := by
  have hln := hr.len
  go_enter Try.func135, Try.ntmps135
  go_wp2
  go_loopw [3] (fun i wr => ∃ (z : Int), -1 ≤ z ∧ z < xs.length ∧ i = .int .i64 z ∧ Hid (∀ j : Nat, 0 < j → j < xs.length → z < j → at0 xs (j - 1) ≤ at0 xs j) ∧ Hid (∃ n, wr = w.drewN n)) (fun i _ => (intOf i).toNat)
  case atStart => exact ⟨_, by omega, by omega, rfl, by show ∀ j : Nat, _; intro j _ _ _; omega, by show ∃ n, _; exact ⟨0, rfl⟩⟩
  case round =>
    obtain ⟨z, hz1, hz2, rfl, HA, HN⟩ := hrel
    have hbr : Below w.heap.size w wr := by obtain ⟨n, hn⟩ := HN.out; rw [hn]; exact below_of_drewN _ _ _
    have hr := hr.below hbr (Nat.le_refl _)
    clear hbr
    by_cases h0 : 0 < z
    · obtain ⟨m, rfl⟩ : ∃ m : Nat, z = (m : Int) + 1 := ⟨(z - 1).toNat, by omega⟩
      have hm1 : m + 1 < xs.length := by omega
      obtain ⟨x, hx⟩ : ∃ x, at0 xs (m + 1) = x := ⟨_, rfl⟩
      obtain ⟨y, hy⟩ : ∃ x, at0 xs m = x := ⟨_, rfl⟩
      have hcx := at0_cell hr (by omega) hx
      have hcy := at0_cell hr (by omega) hy
      have hi0 := rd_idxAt hr und_is siz_is (m + 1) (by omega) ((m : Int) + 1) (by omega)
      have hi1 := rd_idxAt hr und_is siz_is m (by omega) (m : Int) (by omega)
      have HX := Lib.hid hx
      have HY := Lib.hid hy
      have ew : IntKind.i64.wrap (m : Int) = (m : Int) := IntWalk.i64_in _ (by omega)
      have ew1 : IntKind.i64.wrap ((m : Int) + 1) = (m : Int) + 1 := IntWalk.i64_in _ (by omega)
      clear hx hy
      by_cases hlt : x < y
      · go_wp2_with fail
        go_quiet ((go_at_call 169; exact lessi_quiet))
        go_wp2
        go_ret
        exact ⟨ret_bool (ascB_no (m := m) hm1 (by rw [HX.out, HY.out]; exact hlt)).symm, drewN_more HN.out _⟩
      · have hd : decide (x < y) = false := by simpa using hlt
        go_wp2_with fail
        go_quiet ((go_at_call 169; exact lessi_quiet))
        go_wp2
        go_roundw
        case rel =>
          refine ⟨(m : Int), by omega, by omega, rfl, ?_, drewN_more HN.out _⟩
          show ∀ j : Nat, _
          intro j hj1 hj2 hj3
          by_cases hj : j = m + 1
          · subst hj; rw [Nat.add_sub_cancel, HX.out, HY.out]; omega
          · exact HA.out j hj1 hj2 (by omega)
        case measure => simp [intOf]
    · go_wp2
      go_ret
      exact ⟨ret_bool (ascB_yes fun j h1 h2 => HA.out j h1 h2 (by omega)).symm, HN.out⟩

theorem areTimes_any {a : Option Addr} {c : Nat} {xs : List Int} {w : World} (hr : Rd (Value.int .i64) w a c xs) :
    Calls Try.prog 83 #[.slice a xs.length c] w fun e w' => e = .returned (.bool ((List.range xs.length).all (timeOk xs))) ∧ Below w.heap.size w w' := by
  rw [times_and]
  cases h : xs.all (fun x => inR x 0 1000000) with
  | false =>
    go_enter Try.func83, Try.ntmps83
    go_wp2_with fail
    refine (areWithin_any a c xs 0 1000000 w hr).mono ?_
    rintro e w1 ⟨rfl, hb1⟩
    go_wp2
    go_ret
    exact ⟨ret_bool (by simp), hb1⟩
  | true =>
    go_enter Try.func83, Try.ntmps83
    go_wp2_with fail
    refine (areWithin_any a c xs 0 1000000 w hr).mono ?_
    rintro e w1 ⟨rfl, hb1⟩
    rw [h]
    go_wp2_with fail
    refine (isSorted_any (hr.below hb1 (Nat.le_refl _))).mono ?_
    rintro e w2 ⟨rfl, n, rfl⟩
    go_wp2
    go_ret
    exact ⟨ret_bool (by simp), hb1.trans (below_of_drewN _ _ _)⟩

theorem isTime_any {x : Int} {w : World} : Calls Try.prog 84 #[.int .i64 x] w fun e w' => e = .returned (.bool (inR x 0 1000000)) ∧ w = w' := by
  go_enter Try.func84, Try.ntmps84
  go_wp2_with fail
  refine (within_any _ _ _ _).mono ?_
  rintro e w1 ⟨rfl, rfl⟩
  go_wp2
  go_ret
  exact ⟨rfl, rfl⟩

end Go.Proofs.Ytfclkbppmkjkeaa

namespace Go.Proofs.Ytfclkbppmkjkeaa
open Go.RowKit

theorem eq_of_perm_sorted : ∀ (xs ys : List Int), xs.Perm ys → xs.Pairwise (· ≤ ·) → ys.Pairwise (· ≤ ·) → xs = ys := by
  intro xs
  induction xs with
  | nil => intro ys h _ _; exact (List.Perm.nil_eq h)
  | cons x xs ih =>
    intro ys h h1 h2
    cases ys with
    | nil => exact absurd h.symm (by simp)
    | cons y ys =>
      rw [List.pairwise_cons] at h1 h2
      have hxy : x = y := by
        have hx : x ∈ y :: ys := h.subset (List.mem_cons_self ..)
        have hy : y ∈ x :: xs := h.symm.subset (List.mem_cons_self ..)
        rcases List.mem_cons.1 hx with e | hx
        · exact e
        · rcases List.mem_cons.1 hy with e | hy
          · exact e.symm
          · have a := h1.1 y hy
            have b := h2.1 x hx
            omega
      subst hxy
      rw [ih ys h.cons_inv h1.2 h2.2]

/-- The list in ascending order. -/
def srt (xs : List Int) : List Int := xs.mergeSort fun x y => decide (x ≤ y)
theorem srt_perm (xs : List Int) : (srt xs).Perm xs := List.mergeSort_perm _ _
theorem srt_len (xs : List Int) : (srt xs).length = xs.length := (srt_perm xs).length_eq
theorem srt_pw (xs : List Int) : (srt xs).Pairwise (· ≤ ·) := by
  have := List.pairwise_mergeSort (le := fun x y : Int => decide (x ≤ y)) (by intro a b c h1 h2; simp at *; omega) (by intro a b; simp; omega) xs
  exact this.imp (by intro a b h; simpa using h)
theorem srt_of {xs ys : List Int} (hp : ys.Perm xs) (hs : ys.Pairwise (· ≤ ·)) : ys = srt xs := eq_of_perm_sorted _ _ (hp.trans (srt_perm xs).symm) hs (srt_pw xs)

theorem pw_of_at0 {ys : List Int} (h : ∀ a b, a < b → b < ys.length → at0 ys a ≤ at0 ys b) : ys.Pairwise (· ≤ ·) := by
  rw [List.pairwise_iff_getElem]
  intro i j hi hj hij
  have := h i j hij hj
  simpa [at0, hi, hj] using this

/-- Two neighbours change places. -/
def swp (ys : List Int) (k : Nat) : List Int := (ys.set k (at0 ys (k - 1))).set (k - 1) (at0 ys k)
theorem swp_len (ys : List Int) (k : Nat) : (swp ys k).length = ys.length := by simp [swp]
theorem at0_set (ys : List Int) (k : Nat) (x : Int) (hk : k < ys.length) (j : Nat) : at0 (ys.set k x) j = if j = k then x else at0 ys j := by
  unfold at0
  rw [List.getElem?_set]
  by_cases h : j = k
  · subst h; simp [hk]
  · rw [if_neg (fun e => h e.symm), if_neg h]
theorem at0_swp {ys : List Int} {k : Nat} (h0 : 0 < k) (hk : k < ys.length) (j : Nat) : at0 (swp ys k) j = if j = k - 1 then at0 ys k else if j = k then at0 ys (k - 1) else at0 ys j := by
  unfold swp
  rw [at0_set _ _ _ (by simp; omega), at0_set _ _ _ hk]
theorem swp_perm {ys : List Int} {k : Nat} (h0 : 0 < k) (hk : k < ys.length) : (swp ys k).Perm ys := by
  obtain ⟨A, a, b, B, hA, he⟩ : ∃ A a b B, A.length = k - 1 ∧ ys = A ++ a :: b :: B := by
    refine ⟨ys.take (k - 1), ys[k - 1], ys[k - 1 + 1], ys.drop (k - 1 + 1 + 1), by simp; omega, ?_⟩
    rw [List.getElem_cons_drop, List.getElem_cons_drop, List.take_append_drop]
  have e1 : at0 ys (k - 1) = a := by
    subst he; simp [at0, ← hA]
  have e2 : at0 ys k = b := by
    subst he
    have : k = A.length + 1 := by omega
    subst this
    simp [at0]
  have e3 : swp ys k = A ++ b :: a :: B := by
    unfold swp
    rw [e1, e2, he]
    have : k = A.length + 1 := by omega
    subst this
    simp [List.set_append_right]
  rw [e3, he]
  exact List.Perm.append_left A (List.Perm.swap a b B)

/-- Ascending up to i, but for what stands at k. -/
structure Ins (ys : List Int) (k i : Nat) : Prop where
  a : ∀ p q, p < q → q ≤ i → p ≠ k → q ≠ k → at0 ys p ≤ at0 ys q
  b : ∀ q, k < q → q ≤ i → at0 ys k ≤ at0 ys q
def asc (ys : List Int) (n : Nat) : Prop := ∀ p q, p < q → q < n → at0 ys p ≤ at0 ys q
theorem ins_start {ys : List Int} {i : Nat} (h : asc ys i) : Ins ys i i := ⟨fun p q h1 h2 _ h4 => h p q h1 (by omega), fun q h1 h2 => by omega⟩
theorem ins_step {ys : List Int} {k i : Nat} (h0 : 0 < k) (hk : k ≤ i) (hi : i < ys.length) (h : Ins ys k i) (hl : at0 ys k < at0 ys (k - 1)) : Ins (swp ys k) (k - 1) i := by
  refine ⟨fun p q h1 h2 h3 h4 => ?_, fun q h1 h2 => ?_⟩
  · rw [at0_swp h0 (by omega), at0_swp h0 (by omega), if_neg h3, if_neg h4]
    by_cases hp : p = k
    · rw [if_pos hp, if_neg (by omega)]
      exact h.a (k - 1) q (by omega) h2 (by omega) (by omega)
    · rw [if_neg hp]
      by_cases hq : q = k
      · rw [if_pos hq]
        exact h.a p (k - 1) (by omega) (by omega) hp (by omega)
      · rw [if_neg hq]
        exact h.a p q h1 h2 hp hq
  · rw [at0_swp h0 (by omega), at0_swp h0 (by omega), if_pos rfl, if_neg (by omega)]
    by_cases hq : q = k
    · rw [if_pos hq]; omega
    · rw [if_neg hq]
      exact h.b q (by omega) h2
theorem ins_end {ys : List Int} {k i : Nat} (hk : k ≤ i) (h : Ins ys k i) (he : k = 0 ∨ at0 ys (k - 1) ≤ at0 ys k) : asc ys (i + 1) := by
  intro p q h1 h2
  by_cases hp : p = k
  · rw [hp]; exact h.b q (by omega) (by omega)
  · by_cases hq : q = k
    · have h3 : at0 ys (k - 1) ≤ at0 ys k := by rcases he with e | e <;> omega
      by_cases hpk : p = k - 1
      · rw [hq, hpk]; exact h3
      · have := h.a p (k - 1) (by omega) (by omega) hp (by omega)
        rw [hq]; omega
    · exact h.a p q h1 (by omega) hp hq
theorem asc_one (ys : List Int) : asc ys 1 := fun p q h1 h2 => by omega
theorem asc_zero (ys : List Int) : asc ys 0 := fun p q h1 h2 => by omega

/-- The number that is most often in an ascending list, the first of them: the best one and how often, after k numbers. -/
def oft (ys : List Int) : Nat → Int × Int
  | 0 => (at0 ys 0, 0)
  | k + 1 => if (oft ys k).2 < runK ys (k + 1) then (at0 ys k, runK ys (k + 1)) else oft ys k
def oftR (ys : List Int) : Int := (oft ys ys.length).1
/-- The last ones of an index. -/
def lastL (xs : List Int) (long : Int) (i : Nat) : List Int := (xs.take (i + 1)).drop ((i : Int) - long + 1).toNat
theorem oft_bd (ys : List Int) (k : Nat) : 0 ≤ (oft ys k).2 ∧ (oft ys k).2 ≤ k := by
  induction k with
  | zero => simp [oft]
  | succ k ih =>
    have := runK_bd ys (k + 1)
    unfold oft
    split
    · simp; omega
    · omega

end Go.Proofs.Ytfclkbppmkjkeaa

namespace Go.Proofs.Ytfclkbppmkjkeaa
open Go.RowKit

def minL (zs : List Int) : Int := zs.foldl min (zs.headD 0)
def maxL (zs : List Int) : Int := zs.foldl max (zs.headD 0)
theorem foldl_min_le : ∀ (zs : List Int) (a : Int), zs.foldl min a ≤ a ∧ ∀ z ∈ zs, zs.foldl min a ≤ z
  | [], a => ⟨Int.le_refl _, fun z h => by cases h⟩
  | y :: zs, a => by
    obtain ⟨h1, h2⟩ := foldl_min_le zs (min a y)
    refine ⟨by show zs.foldl min (min a y) ≤ a; omega, fun z hz => ?_⟩
    show zs.foldl min (min a y) ≤ z
    rcases List.mem_cons.1 hz with rfl | hz
    · omega
    · exact h2 z hz
theorem foldl_min_mem : ∀ (zs : List Int) (a : Int), zs.foldl min a = a ∨ zs.foldl min a ∈ zs
  | [], a => .inl rfl
  | y :: zs, a => by
    show zs.foldl min (min a y) = a ∨ zs.foldl min (min a y) ∈ y :: zs
    rcases foldl_min_mem zs (min a y) with h | h
    · rw [h]
      rcases Int.le_total a y with h1 | h1
      · left; omega
      · right; rw [show min a y = y by omega]; exact List.mem_cons_self
    · right; exact List.mem_cons_of_mem _ h
theorem foldl_max_le : ∀ (zs : List Int) (a : Int), a ≤ zs.foldl max a ∧ ∀ z ∈ zs, z ≤ zs.foldl max a
  | [], a => ⟨Int.le_refl _, fun z h => by cases h⟩
  | y :: zs, a => by
    obtain ⟨h1, h2⟩ := foldl_max_le zs (max a y)
    refine ⟨by show a ≤ zs.foldl max (max a y); omega, fun z hz => ?_⟩
    show z ≤ zs.foldl max (max a y)
    rcases List.mem_cons.1 hz with rfl | hz
    · omega
    · exact h2 z hz
theorem foldl_max_mem : ∀ (zs : List Int) (a : Int), zs.foldl max a = a ∨ zs.foldl max a ∈ zs
  | [], a => .inl rfl
  | y :: zs, a => by
    show zs.foldl max (max a y) = a ∨ zs.foldl max (max a y) ∈ y :: zs
    rcases foldl_max_mem zs (max a y) with h | h
    · rw [h]
      rcases Int.le_total a y with h1 | h1
      · right; rw [show max a y = y by omega]; exact List.mem_cons_self
      · left; omega
    · right; exact List.mem_cons_of_mem _ h
theorem headD_mem {zs : List Int} (h : zs ≠ []) : zs.headD 0 ∈ zs := by
  cases zs with
  | nil => exact absurd rfl h
  | cons z zs => exact List.mem_cons_self
/-- From whichever of them one begins. -/
theorem foldl_min_eq {zs : List Int} {a : Int} (h : a ∈ zs) : zs.foldl min a = minL zs := by
  have hne : zs ≠ [] := by rintro rfl; cases h
  have hh := headD_mem hne
  unfold minL
  have h1 := foldl_min_le zs a
  have h2 := foldl_min_le zs (zs.headD 0)
  have h3 : zs.foldl min a ∈ zs := by rcases foldl_min_mem zs a with e | e; rw [e]; exact h; exact e
  have h4 : zs.foldl min (zs.headD 0) ∈ zs := by rcases foldl_min_mem zs (zs.headD 0) with e | e; rw [e]; exact hh; exact e
  have := h1.2 _ h4
  have := h2.2 _ h3
  omega
theorem foldl_max_eq {zs : List Int} {a : Int} (h : a ∈ zs) : zs.foldl max a = maxL zs := by
  have hne : zs ≠ [] := by rintro rfl; cases h
  have hh := headD_mem hne
  unfold maxL
  have h1 := foldl_max_le zs a
  have h2 := foldl_max_le zs (zs.headD 0)
  have h3 : zs.foldl max a ∈ zs := by rcases foldl_max_mem zs a with e | e; rw [e]; exact h; exact e
  have h4 : zs.foldl max (zs.headD 0) ∈ zs := by rcases foldl_max_mem zs (zs.headD 0) with e | e; rw [e]; exact hh; exact e
  have := h1.2 _ h4
  have := h2.2 _ h3
  omega

/-- How many are below, how many at most the middle one. -/
theorem countP_sorted_lt {ys : List Int} (h : ys.Pairwise (· ≤ ·)) {k : Nat} (hk : k < ys.length) : ys.countP (fun z => decide (z < at0 ys k)) ≤ k := by
  have e : ys = ys.take k ++ ys.drop k := (List.take_append_drop k ys).symm
  have h1 : (ys.drop k).countP (fun z => decide (z < at0 ys k)) = 0 := by
    rw [List.countP_eq_zero]
    intro z hz
    obtain ⟨j, hj, rfl⟩ := List.getElem_of_mem hz
    rw [List.getElem_drop]
    simp only [List.length_drop] at hj
    have hle : at0 ys k ≤ ys[k + j] := by
      have : at0 ys k = ys[k] := by simp [at0, hk]
      rw [this]
      rcases Nat.eq_zero_or_pos j with rfl | hp
      · exact Int.le_refl _
      · exact (List.pairwise_iff_getElem.1 h) k (k + j) hk (by omega) (by omega)
    simp; omega
  have h2 : (ys.take k).countP (fun z => decide (z < at0 ys k)) ≤ k := Nat.le_trans List.countP_le_length (by rw [List.length_take]; omega)
  have h3 : ys.countP (fun z => decide (z < at0 ys k)) = (ys.take k).countP (fun z => decide (z < at0 ys k)) + (ys.drop k).countP (fun z => decide (z < at0 ys k)) := by
    rw [← List.countP_append, List.take_append_drop]
  omega
theorem countP_sorted_le {ys : List Int} (h : ys.Pairwise (· ≤ ·)) {k : Nat} (hk : k < ys.length) : k < ys.countP (fun z => decide (z ≤ at0 ys k)) := by
  have h1 : (ys.take (k + 1)).countP (fun z => decide (z ≤ at0 ys k)) = k + 1 := by
    rw [List.countP_eq_length.2, List.length_take]
    · omega
    · intro z hz
      obtain ⟨j, hj, rfl⟩ := List.getElem_of_mem hz
      rw [List.getElem_take]
      simp only [List.length_take] at hj
      have : at0 ys k = ys[k] := by simp [at0, hk]
      rw [this]
      have hle : ys[j]'(by omega) ≤ ys[k] := by
        rcases Nat.lt_or_ge j k with hp | hp
        · exact (List.pairwise_iff_getElem.1 h) j k (by omega) hk hp
        · have : j = k := by omega
          subst this; exact Int.le_refl _
      simpa using hle
  have h3 : ys.countP (fun z => decide (z ≤ at0 ys k)) = (ys.take (k + 1)).countP (fun z => decide (z ≤ at0 ys k)) + (ys.drop (k + 1)).countP (fun z => decide (z ≤ at0 ys k)) := by
    rw [← List.countP_append, List.take_append_drop]
  omega
def midM (zs : List Int) : Int := at0 (srt zs) ((zs.length - 1) / 2)
theorem mid_below {zs : List Int} (h : zs ≠ []) : zs.countP (fun z => decide (z < midM zs)) ≤ (zs.length - 1) / 2 := by
  have hl : 0 < zs.length := List.length_pos_iff.2 h
  rw [← (srt_perm zs).countP_eq]
  exact countP_sorted_lt (srt_pw zs) (by rw [srt_len]; omega)
theorem mid_upTo {zs : List Int} (h : zs ≠ []) : (zs.length - 1) / 2 < zs.countP (fun z => decide (z ≤ midM zs)) := by
  have hl : 0 < zs.length := List.length_pos_iff.2 h
  rw [← (srt_perm zs).countP_eq]
  exact countP_sorted_le (srt_pw zs) (by rw [srt_len]; omega)

theorem take_snoc {ys : List Int} {k : Nat} (hk : k < ys.length) : ys.take (k + 1) = ys.take k ++ [at0 ys k] := by
  rw [List.take_add_one, List.getElem?_eq_getElem hk]
  simp [at0, hk]
theorem sorted_take_le {ys : List Int} (h : ys.Pairwise (· ≤ ·)) {k : Nat} (hk : k < ys.length) : ∀ z ∈ ys.take (k + 1), z ≤ at0 ys k := by
  intro z hz
  obtain ⟨j, hj, rfl⟩ := List.getElem_of_mem hz
  rw [List.getElem_take]
  simp only [List.length_take] at hj
  have : at0 ys k = ys[k] := by simp [at0, hk]
  rw [this]
  rcases Nat.lt_or_ge j k with hp | hp
  · exact (List.pairwise_iff_getElem.1 h) j k (by omega) hk hp
  · have : j = k := by omega
    subst this; exact Int.le_refl _
theorem at0_le {ys : List Int} (h : ys.Pairwise (· ≤ ·)) {i k : Nat} (hi : i ≤ k) (hk : k < ys.length) : at0 ys i ≤ at0 ys k := by
  have : at0 ys i = ys[i] := by simp [at0, show i < ys.length by omega]
  exact sorted_take_le h hk _ (by rw [this]; exact List.mem_take_iff_getElem.2 ⟨i, by omega, rfl⟩)
theorem runK_count {ys : List Int} (h : ys.Pairwise (· ≤ ·)) : ∀ (k : Nat), k < ys.length → runK ys (k + 1) = ((ys.take (k + 1)).count (at0 ys k) : Int)
  | 0, hk => by
    rw [runK_zero, take_snoc hk]
    simp
  | k + 1, hk => by
    have ih := runK_count h k (by omega)
    rw [take_snoc hk, List.count_append]
    have h1 : [at0 ys (k + 1)].count (at0 ys (k + 1)) = 1 := by simp
    rw [h1]
    by_cases he : at0 ys (k + 1) = at0 ys k
    · rw [runK_same (by omega) (by rw [Nat.add_sub_cancel]; exact he), ih, he]
      push_cast; rfl
    · rw [runK_new (by rw [Nat.add_sub_cancel]; exact he)]
      have h0 : (ys.take (k + 1)).count (at0 ys (k + 1)) = 0 := by
        rw [List.count_eq_zero]
        intro hm
        have h2 := sorted_take_le h (k := k) (by omega) _ hm
        have h3 := at0_le h (i := k) (k := k + 1) (by omega) hk
        omega
      rw [h0]; rfl
theorem oft_best {ys : List Int} (h : ys.Pairwise (· ≤ ·)) : ∀ (k : Nat), k < ys.length → (oft ys (k + 1)).2 = ((ys.take (k + 1)).count (oft ys (k + 1)).1 : Int) ∧ (oft ys (k + 1)).1 ∈ ys.take (k + 1) ∧ ∀ z, ((ys.take (k + 1)).count z : Int) ≤ (oft ys (k + 1)).2 ∧ (((ys.take (k + 1)).count z : Int) = (oft ys (k + 1)).2 → (oft ys (k + 1)).1 ≤ z)
  | 0, hk => by
    have e : oft ys 1 = (at0 ys 0, 1) := by
      rw [oft, if_pos (by rw [runK_zero]; simp [oft]), runK_zero]
    rw [e, take_snoc hk]
    simp only [List.take_zero, List.nil_append]
    refine ⟨by simp, by simp, fun z => ?_⟩
    by_cases hz : at0 ys 0 = z
    · subst hz; simp
    · have : [at0 ys 0].count z = 0 := by rw [List.count_eq_zero]; simp; exact fun e => hz e.symm
      rw [this]; simp
  | k + 1, hk => by
    obtain ⟨i1, i2, i3⟩ := oft_best h k (by omega)
    have hr := runK_count h (k + 1) hk
    have hts := take_snoc hk
    have hcz : ∀ z, (ys.take (k + 2)).count z = (ys.take (k + 1)).count z + (if at0 ys (k + 1) = z then 1 else 0) := by
      intro z
      rw [hts, List.count_append]
      congr 1
      split
      · rename_i e; rw [e]; simp
      · rename_i e; rw [List.count_eq_zero]; simp; exact fun e' => e e'.symm
    have hble : (oft ys (k + 1)).1 ≤ at0 ys (k + 1) := by
      have := sorted_take_le h (k := k) (by omega) _ i2
      have := at0_le h (i := k) (k := k + 1) (by omega) hk
      omega
    by_cases hc : (oft ys (k + 1)).2 < runK ys (k + 1 + 1)
    · have e : oft ys (k + 1 + 1) = (at0 ys (k + 1), runK ys (k + 1 + 1)) := by rw [oft, if_pos hc]
      rw [e]
      simp only
      refine ⟨hr, by rw [hts]; simp, fun z => ?_⟩
      rw [hcz z]
      by_cases hz : at0 ys (k + 1) = z
      · subst hz
        rw [hr, hcz, if_pos rfl]
        exact ⟨Int.le_refl _, fun _ => Int.le_refl _⟩
      · rw [if_neg hz]
        have := (i3 z).1
        exact ⟨by omega, fun e => by omega⟩
    · have e : oft ys (k + 1 + 1) = oft ys (k + 1) := by rw [oft, if_neg hc]
      rw [e]
      have hne : ¬ at0 ys (k + 1) = (oft ys (k + 1)).1 := by
        intro he
        have h1 := hcz (at0 ys (k + 1))
        rw [if_pos rfl] at h1
        have h2 : runK ys (k + 1 + 1) = ((ys.take (k + 2)).count (at0 ys (k + 1)) : Int) := hr
        rw [h1, he] at h2
        omega
      refine ⟨by rw [hcz, if_neg hne]; simpa using i1, by rw [hts]; exact List.mem_append_left _ i2, fun z => ?_⟩
      rw [hcz z]
      by_cases hz : at0 ys (k + 1) = z
      · rw [if_pos hz]
        have h2 : runK ys (k + 1 + 1) = ((ys.take (k + 2)).count (at0 ys (k + 1)) : Int) := hr
        rw [hcz, if_pos rfl, hz] at h2
        refine ⟨by omega, fun _ => by rw [← hz]; exact hble⟩
      · rw [if_neg hz]
        simpa using i3 z
def oftM (zs : List Int) : Int := oftR (srt zs)
theorem oftM_best {zs : List Int} (h : zs ≠ []) : ∀ z, zs.count z ≤ zs.count (oftM zs) ∧ (zs.count z = zs.count (oftM zs) → oftM zs ≤ z) := by
  have hl : 0 < zs.length := List.length_pos_iff.2 h
  obtain ⟨n, hn⟩ : ∃ n, (srt zs).length = n + 1 := ⟨zs.length - 1, by rw [srt_len]; omega⟩
  obtain ⟨h1, h2, h3⟩ := oft_best (srt_pw zs) n (by omega)
  rw [← hn, List.take_length] at h1 h2 h3
  have hp := srt_perm zs
  intro z
  obtain ⟨h4, h5⟩ := h3 z
  rw [h1] at h4 h5
  have e1 : (srt zs).count z = zs.count z := hp.count_eq z
  have e2 : (srt zs).count (oft (srt zs) (srt zs).length).1 = zs.count (oftM zs) := hp.count_eq _
  rw [e1, e2] at h4 h5
  exact ⟨by omega, fun e => h5 (by omega)⟩

/-- Where the last ones of an index begin. -/
def lastI (L : Int) (i : Nat) : Nat := ((i : Int) - L + 1).toNat
theorem lastL_get {xs : List Int} {L : Int} {i k : Nat} (hi : i < xs.length) (h1 : lastI L i ≤ k) (h2 : k ≤ i) : (lastL xs L i)[k - lastI L i]? = some xs[k] := by
  unfold lastL lastI at *
  rw [List.getElem?_drop, List.getElem?_take, if_pos (by omega)]
  rw [show ((i : Int) - L + 1).toNat + (k - ((i : Int) - L + 1).toNat) = k by omega]
  exact List.getElem?_eq_getElem (by omega)
theorem lastL_length {xs : List Int} {L : Int} {i : Nat} (hi : i < xs.length) : (lastL xs L i).length = i + 1 - lastI L i := by
  unfold lastL lastI
  rw [List.length_drop, List.length_take]
  omega
theorem lastI_le {L : Int} {i : Nat} (hL : 1 ≤ L) : lastI L i ≤ i := by unfold lastI; omega
theorem lastL_mem {xs : List Int} {L : Int} {i : Nat} : ∀ z ∈ lastL xs L i, z ∈ xs := fun z hz => List.mem_of_mem_take (List.mem_of_mem_drop hz)
theorem lastL_last {xs : List Int} {L : Int} {i : Nat} (hi : i < xs.length) (hL : 1 ≤ L) : xs[i] ∈ lastL xs L i := by
  have h := lastL_get (L := L) hi (lastI_le hL) (Nat.le_refl i)
  exact List.mem_of_getElem? h

end Go.Proofs.Ytfclkbppmkjkeaa

namespace Go.Proofs.Ytfclkbppmkjkeaa
open Go.RowKit

/-- An integer as a float32. -/
def fY (z : Int) : Nat := floatOfInt .f32 z
theorem fY_ok {z : Int} (h : z.natAbs ≤ 16777216) : isN .f32 (fY z) ∧ val .f32 (fY z) = (z : Rat) := ofInt_val (k := .f32) h

def sumG (s : Nat) (zs : List Int) : Nat := zs.foldl (fun s z => fo3 .add s (fY z)) s
def sumF (zs : List Int) : Nat := sumG 0 zs
theorem rat_le_of {a b : Int} (h : a ≤ b) : (a : Rat) ≤ (b : Rat) := Rat.intCast_le_intCast.2 h
theorem v32_0 : isN .f32 0 ∧ val .f32 0 = 0 := ⟨isN_of (by decide +kernel), by decide +kernel⟩
theorem sum_step {s : Nat} {n z : Int} (hs : isN .f32 s) (hv : val .f32 s = (n : Rat)) (hn : n.natAbs ≤ 400) (hz : z.natAbs ≤ 400) : fbin .add .f32 (some s) (some (fY z)) = some (fo3 .add s (fY z)) ∧ isN .f32 (fo3 .add s (fY z)) ∧ val .f32 (fo3 .add s (fY z)) = ((n + z : Int) : Rat) := by
  obtain ⟨z1, z2⟩ := fY_ok (z := z) (by omega)
  have e : val .f32 s + val .f32 (fY z) = ((n + z : Int) : Rat) := by rw [hv, z2, Rat.intCast_add]
  have l1 : ((-1024 : Int) : Rat) ≤ ((n + z : Int) : Rat) := rat_le_of (by omega)
  have l2 : ((n + z : Int) : Rat) ≤ ((1024 : Int) : Rat) := rat_le_of (by omega)
  have a := fo3_add hs z1 (by rw [e]; exact l1) (by rw [e]; exact l2)
  rw [e] at a
  exact ⟨a.1, a.2.1, a.2.2.exact (rep32i _ (by omega))⟩
theorem sumG_ok : ∀ (zs : List Int) {s : Nat} {n : Int}, isN .f32 s → val .f32 s = (n : Rat) → (∀ z ∈ zs, z.natAbs ≤ 6) → n.natAbs + 6 * zs.length ≤ 400 → isN .f32 (sumG s zs) ∧ val .f32 (sumG s zs) = ((n + zs.sum : Int) : Rat)
  | [], s, n, hs, hv, _, _ => ⟨hs, by show val .f32 s = _; rw [List.sum_nil, Int.add_zero]; exact hv⟩
  | z :: zs, s, n, hs, hv, hz, hl => by
    have h6 := hz z List.mem_cons_self
    simp only [List.length_cons] at hl
    obtain ⟨_, h2, h3⟩ := sum_step hs hv (z := z) (by omega) (by omega)
    obtain ⟨g1, g2⟩ := sumG_ok zs h2 h3 (fun y hy => hz y (List.mem_cons_of_mem _ hy)) (by omega)
    refine ⟨g1, ?_⟩
    show val .f32 (sumG (fo3 .add s (fY z)) zs) = _
    rw [g2, List.sum_cons, Int.add_assoc]
theorem sum_natAbs : ∀ (zs : List Int), (∀ z ∈ zs, z.natAbs ≤ 6) → zs.sum.natAbs ≤ 6 * zs.length
  | [], _ => by simp
  | z :: zs, h => by
    have h1 := h z List.mem_cons_self
    have h2 := sum_natAbs zs (fun y hy => h y (List.mem_cons_of_mem _ hy))
    rw [List.sum_cons, List.length_cons]
    omega
theorem sumF_ok {zs : List Int} (h : ∀ z ∈ zs, z.natAbs ≤ 6) (hl : zs.length ≤ 60) : isN .f32 (sumF zs) ∧ val .f32 (sumF zs) = (zs.sum : Rat) := by
  have := sumG_ok zs (s := 0) (n := 0) v32_0.1 (by rw [v32_0.2]; rfl) h (by simp; omega)
  rw [Int.zero_add] at this
  exact this
theorem sumF_snoc {zs : List Int} {k : Nat} (hk : k < zs.length) : sumF (zs.take (k + 1)) = fo3 .add (sumF (zs.take k)) (fY zs[k]) := by
  unfold sumF sumG
  rw [List.take_add_one, List.getElem?_eq_getElem hk, List.foldl_append]
  rfl

/-- The mean. -/
def meanF (zs : List Int) : Nat := fo3 .quo (sumF zs) (fY (zs.length : Int))
theorem quot_ex {s : Int} {c : Nat} (hc : 0 < c) (hs : s.natAbs ≤ 6 * c) : ∃ x : Rat, x * (c : Rat) = (s : Rat) ∧ -6 ≤ x ∧ x ≤ 6 := by
  have hc1 : (0 : Rat) < (c : Rat) := Rat.natCast_pos.2 hc
  obtain ⟨x, hx, _⟩ := div_ex (a := (s : Rat)) hc1
  refine ⟨x, hx, ?_, ?_⟩
  · refine Rat.le_of_mul_le_mul_right (c := (c : Rat)) ?_ hc1
    rw [hx]
    have h := rat_le_of (show -(6 * (c : Int)) ≤ s by omega)
    rw [Rat.intCast_neg, Rat.intCast_mul, Rat.intCast_natCast] at h
    have e : ((6 : Int) : Rat) = 6 := rfl
    rw [e] at h
    grind
  · refine Rat.le_of_mul_le_mul_right (c := (c : Rat)) ?_ hc1
    rw [hx]
    have h := rat_le_of (show s ≤ 6 * (c : Int) by omega)
    rw [Rat.intCast_mul, Rat.intCast_natCast] at h
    exact h
theorem mean_ok {zs : List Int} (h : ∀ z ∈ zs, z.natAbs ≤ 6) (hl : zs.length ≤ 60) (h0 : zs ≠ []) :
    fbin .quo .f32 (some (sumF zs)) (some (fY (zs.length : Int))) = some (meanF zs) ∧ isN .f32 (meanF zs) ∧ ∃ x : Rat, x * (zs.length : Rat) = (zs.sum : Rat) ∧ -6 ≤ x ∧ x ≤ 6 ∧ RN .f32 x (val .f32 (meanF zs)) := by
  have hp : 0 < zs.length := List.length_pos_iff.2 h0
  obtain ⟨x, hx, x1, x2⟩ := quot_ex hp (sum_natAbs zs h)
  obtain ⟨s1, s2⟩ := sumF_ok h hl
  obtain ⟨c1, c2⟩ := fY_ok (z := (zs.length : Int)) (by omega)
  rw [Rat.intCast_natCast] at c2
  have hcp : (0 : Rat) < (zs.length : Rat) := Rat.natCast_pos.2 hp
  have a := fo3_quo s1 c1 (by rw [c2]; grind) (by rw [s2, c2]; exact hx) (by grind) (by grind)
  exact ⟨a.1, a.2.1, x, hx, x1, x2, a.2.2⟩

/-- Smoothed numbers. -/
def smF (sh : Nat) (xs : List Int) : Nat → Nat
  | 0 => fY (at0 xs 0)
  | i + 1 => fo3 .add (smF sh xs i) (fo3 .mul sh (fo3 .sub (fY (at0 xs (i + 1))) (smF sh xs i)))
def cHalf : Nat := 1056964608
def cOne : Nat := 1065353216
theorem n_half3 : isN .f32 cHalf := isN_of (by decide +kernel)
theorem v_half3 : val .f32 cHalf = 1 / 2 := by decide +kernel
theorem n_one3 : isN .f32 cOne := isN_of (by decide +kernel)
theorem v_one3 : val .f32 cOne = 1 := by decide +kernel
/-- A step of the smoothing: all of its parts are numbers. -/
structure SmOk (sh x y : Nat) : Prop where
  d : fbin .sub .f32 (some y) (some x) = some (fo3 .sub y x)
  dN : isN .f32 (fo3 .sub y x)
  m : fbin .mul .f32 (some sh) (some (fo3 .sub y x)) = some (fo3 .mul sh (fo3 .sub y x))
  mN : isN .f32 (fo3 .mul sh (fo3 .sub y x))
  a : fbin .add .f32 (some x) (some (fo3 .mul sh (fo3 .sub y x))) = some (fo3 .add x (fo3 .mul sh (fo3 .sub y x)))
  aN : isN .f32 (fo3 .add x (fo3 .mul sh (fo3 .sub y x)))
theorem half_step {x : Nat} {y : Int} (hx : isN .f32 x) (h1 : -(6001 / 1000) ≤ val .f32 x) (h2 : val .f32 x ≤ 6001 / 1000) (hy : y.natAbs ≤ 6) :
    SmOk cHalf x (fY y) ∧ val .f32 (fo3 .add x (fo3 .mul cHalf (fo3 .sub (fY y) x))) ≤ (val .f32 x + (y : Rat)) / 2 + 1 / 100000 ∧ (val .f32 x + (y : Rat)) / 2 - 1 / 100000 ≤ val .f32 (fo3 .add x (fo3 .mul cHalf (fo3 .sub (fY y) x))) := by
  obtain ⟨y1, y2⟩ := fY_ok (z := y) (by omega)
  have b1 : (-6 : Rat) ≤ (y : Rat) := rat_le_of (a := -6) (by omega)
  have b2 : (y : Rat) ≤ 6 := rat_le_of (b := 6) (by omega)
  have a1 := fo3_sub y1 hx (by rw [y2]; grind) (by rw [y2]; grind)
  rw [y2] at a1
  have n1 := a1.2.2.near32 (by grind) (by grind)
  have a2 := fo3_mul n_half3 a1.2.1 (by rw [v_half3]; grind) (by rw [v_half3]; grind)
  rw [v_half3] at a2
  have n2 := a2.2.2.near32 (by grind) (by grind)
  have a3 := fo3_add hx a2.2.1 (by grind) (by grind)
  have n3 := a3.2.2.near32 (by grind) (by grind)
  exact ⟨⟨a1.1, a1.2.1, a2.1, a2.2.1, a3.1, a3.2.1⟩, by grind, by grind⟩
theorem one_step {x : Nat} {p y : Int} (hx : isN .f32 x) (hv : val .f32 x = (p : Rat)) (hp : p.natAbs ≤ 6) (hy : y.natAbs ≤ 6) :
    SmOk cOne x (fY y) ∧ val .f32 (fo3 .add x (fo3 .mul cOne (fo3 .sub (fY y) x))) = (y : Rat) := by
  obtain ⟨y1, y2⟩ := fY_ok (z := y) (by omega)
  have b1 : (-6 : Rat) ≤ (y : Rat) := rat_le_of (a := -6) (by omega)
  have b2 : (y : Rat) ≤ 6 := rat_le_of (b := 6) (by omega)
  have b3 : (-6 : Rat) ≤ (p : Rat) := rat_le_of (a := -6) (by omega)
  have b4 : (p : Rat) ≤ 6 := rat_le_of (b := 6) (by omega)
  have a1 := fo3_sub y1 hx (by rw [y2, hv]; grind) (by rw [y2, hv]; grind)
  rw [y2, hv] at a1
  have e1 : (y : Rat) - (p : Rat) = ((y - p : Int) : Rat) := (Rat.intCast_sub y p).symm
  rw [e1] at a1
  have v1 := a1.2.2.exact (rep32i _ (by omega))
  have a2 := fo3_mul n_one3 a1.2.1 (by rw [v_one3, v1, ← e1]; grind) (by rw [v_one3, v1, ← e1]; grind)
  rw [v_one3, v1, Rat.one_mul] at a2
  have v2 := a2.2.2.exact (rep32i _ (by omega))
  have a3 := fo3_add hx a2.2.1 (by rw [hv, v2, ← e1]; grind) (by rw [hv, v2, ← e1]; grind)
  rw [hv, v2, ← e1] at a3
  have e2 : (p : Rat) + ((y : Rat) - (p : Rat)) = (y : Rat) := by grind
  rw [e2] at a3
  exact ⟨⟨a1.1, a1.2.1, a2.1, a2.2.1, a3.1, a3.2.1⟩, a3.2.2.exact (rep32i _ (by omega))⟩
theorem sm_half {xs : List Int} (h : ∀ z ∈ xs, z.natAbs ≤ 6) : ∀ i, i < xs.length → isN .f32 (smF cHalf xs i) ∧ -(6001 / 1000) ≤ val .f32 (smF cHalf xs i) ∧ val .f32 (smF cHalf xs i) ≤ 6001 / 1000
  | 0, hi => by
    have h6 := h (at0 xs 0) (by unfold at0; rw [List.getElem?_eq_getElem hi]; exact List.getElem_mem hi)
    obtain ⟨y1, y2⟩ := fY_ok (z := at0 xs 0) (by omega)
    have b1 : (-6 : Rat) ≤ (at0 xs 0 : Rat) := rat_le_of (a := -6) (by omega)
    have b2 : (at0 xs 0 : Rat) ≤ 6 := rat_le_of (b := 6) (by omega)
    refine ⟨y1, ?_, ?_⟩
    · show _ ≤ val .f32 (fY (at0 xs 0)); rw [y2]; grind
    · show val .f32 (fY (at0 xs 0)) ≤ _; rw [y2]; grind
  | i + 1, hi => by
    obtain ⟨i1, i2, i3⟩ := sm_half h i (by omega)
    have h6 := h (at0 xs (i + 1)) (by unfold at0; rw [List.getElem?_eq_getElem hi]; exact List.getElem_mem hi)
    obtain ⟨s, u, l⟩ := half_step i1 i2 i3 h6
    have b1 : (-6 : Rat) ≤ (at0 xs (i + 1) : Rat) := rat_le_of (a := -6) (by omega)
    have b2 : (at0 xs (i + 1) : Rat) ≤ 6 := rat_le_of (b := 6) (by omega)
    exact ⟨s.aN, by show _ ≤ val .f32 (fo3 .add _ _); grind, by show val .f32 (fo3 .add _ _) ≤ _; grind⟩
theorem sm_one {xs : List Int} (h : ∀ z ∈ xs, z.natAbs ≤ 6) : ∀ i, i < xs.length → isN .f32 (smF cOne xs i) ∧ val .f32 (smF cOne xs i) = (at0 xs i : Rat)
  | 0, hi => by
    have h6 := h (at0 xs 0) (by unfold at0; rw [List.getElem?_eq_getElem hi]; exact List.getElem_mem hi)
    exact fY_ok (z := at0 xs 0) (by omega)
  | i + 1, hi => by
    obtain ⟨i1, i2⟩ := sm_one h i (by omega)
    have h5 := h (at0 xs i) (by unfold at0; rw [List.getElem?_eq_getElem (by omega)]; exact List.getElem_mem (by omega))
    have h6 := h (at0 xs (i + 1)) (by unfold at0; rw [List.getElem?_eq_getElem hi]; exact List.getElem_mem hi)
    obtain ⟨s, u⟩ := one_step i1 i2 h5 h6
    exact ⟨s.aN, u⟩

end Go.Proofs.Ytfclkbppmkjkeaa
