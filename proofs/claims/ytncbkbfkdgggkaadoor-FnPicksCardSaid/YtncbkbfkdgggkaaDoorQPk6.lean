/- Windows: what is valid, in plain words. Powers and times in the reference's text. ValidWindow in the program's text. Lists in ascending order: what a sort makes of a list, in plain words. The least, the middle, the greatest and the most frequent of some numbers: plain. A stable sort in place, in plain words: tags in ascending order, equal keys never turned. A stable sort in place, in plain words: blocks. Sums, means and smoothed numbers of small integers in single precision: plain. ValidWindow in the program's text: the walk. -/
import Derived.Test.YtncbkbfkdgggkaaDoorQPk4
import Derived.Laws.Entries
import Derived.Test.YtncbkbfkdgggkaaDoorQPk3
set_option linter.unusedVariables false
set_option linter.unusedSimpArgs false
namespace Go.Proofs.YtncbkbfkdgggkaaDoor
open Go.RowKit

def at0 (xs : List Int) (k : Nat) : Int := xs[k]?.getD 0
def isPow (n : Int) : Bool := (List.range 21).any fun j => n == (2 : Int) ^ j
def timeOk (ts : List Int) (k : Nat) : Bool := inR (at0 ts k) 0 1000000 && (k == 0 || decide (at0 ts (k - 1) ≤ at0 ts k))
/-- How many sizes up to k are equal, at the end. -/
def runK (ss : List Int) : Nat → Int
  | 0 => 0
  | k + 1 => (if k = 0 ∨ at0 ss k ≠ at0 ss (k - 1) then 0 else runK ss k) + 1
def sizeOk (P : Int) (ss : List Int) (k : Nat) : Bool := isPow (at0 ss k) && (k == 0 || decide (at0 ss k ≤ at0 ss (k - 1))) && decide (runK ss (k + 1) ≤ P + 1)
def winB (L P : Int) (ts ss : List Int) : Bool :=
  inR L 1 1000000 && inR P 1 16 && decide (ts.length ≤ 128) && decide (ss.length = ts.length) && (List.range ts.length).all (timeOk ts) && (List.range ts.length).all (sizeOk P ss)

theorem winB_parts {L P : Int} {ts ss : List Int} (h : winB L P ts ss = true) :
    1 ≤ L ∧ L ≤ 1000000 ∧ 1 ≤ P ∧ P ≤ 16 ∧ ts.length ≤ 128 ∧ ss.length = ts.length ∧ (∀ k, k < ts.length → timeOk ts k = true) ∧ ∀ k, k < ts.length → sizeOk P ss k = true := by
  simp only [winB, Bool.and_eq_true, inR, decide_eq_true_eq, List.all_eq_true, List.mem_range] at h
  obtain ⟨⟨⟨⟨⟨⟨h1, h2⟩, h3, h4⟩, h5⟩, h6⟩, h7⟩, h8⟩ := h
  exact ⟨h1, h2, h3, h4, h5, h6, h7, h8⟩

theorem runK_bd (ss : List Int) (k : Nat) : 0 ≤ runK ss k ∧ runK ss k ≤ k := by
  induction k with
  | zero => simp [runK]
  | succ k ih =>
    unfold runK
    split <;> omega
theorem runK_zero (ss : List Int) : runK ss 1 = 1 := by simp [runK]
theorem runK_new {ss : List Int} {k : Nat} (h : at0 ss k ≠ at0 ss (k - 1)) : runK ss (k + 1) = 1 := by simp [runK, h]
theorem runK_same {ss : List Int} {k : Nat} (hk : 0 < k) (h : at0 ss k = at0 ss (k - 1)) : runK ss (k + 1) = runK ss k + 1 := by
  have : ¬ k = 0 := by omega
  simp [runK, h, this]

theorem isPow_bd {n : Int} (h : isPow n = true) : 1 ≤ n ∧ n ≤ 1048576 := by
  simp only [isPow, List.any_eq_true, List.mem_range, beq_iff_eq] at h
  obtain ⟨j, hj, rfl⟩ := h
  have h1 : (2 : Nat) ^ j ≤ 2 ^ 20 := Nat.pow_le_pow_right (by omega) (by omega)
  have h2 : 0 < (2 : Nat) ^ j := Nat.two_pow_pos j
  have h3 : ((2 : Int) ^ j) = (((2 : Nat) ^ j : Nat) : Int) := by simp
  rw [h3]
  omega

theorem pow_land_nat (n : Nat) (h1 : 1 ≤ n) : (n &&& (n - 1) = 0) ↔ ∃ j, n = 2 ^ j := by
  constructor
  · intro h
    refine ⟨n.log2, ?_⟩
    have hn : n ≠ 0 := by omega
    have hlo : 2 ^ n.log2 ≤ n := Nat.log2_self_le hn
    have hhi : n < 2 ^ (n.log2 + 1) := Nat.lt_log2_self
    by_cases he : n = 2 ^ n.log2
    · exact he
    · exfalso
      have hp := Nat.two_pow_pos n.log2
      have hb : (n &&& (n - 1)).testBit n.log2 = true := by
        rw [Nat.testBit_and]
        have e : ∀ m, 2 ^ n.log2 ≤ m → m < 2 ^ (n.log2 + 1) → m.testBit n.log2 = true := by
          intro m h2 h3
          rw [Nat.testBit_eq_decide_div_mod_eq]
          have : m / 2 ^ n.log2 = 1 := by
            rw [Nat.pow_succ] at h3
            exact Nat.div_eq_of_lt_le (by omega) (by omega)
          simp [this]
        rw [e n hlo hhi, e (n - 1) (by omega) (by omega)]
        rfl
      rw [h] at hb
      simp at hb
  · rintro ⟨j, rfl⟩
    apply Nat.eq_of_testBit_eq
    intro i
    rw [Nat.testBit_and, Nat.testBit_two_pow, Nat.testBit_two_pow_sub_one]
    simp
    omega

theorem isPow_nat (n : Nat) (h1 : 1 ≤ n) (h2 : n ≤ 1048576) : isPow (n : Int) = decide (n &&& (n - 1) = 0) := by
  rw [Bool.eq_iff_iff, decide_eq_true_eq, pow_land_nat n h1]
  simp only [isPow, List.any_eq_true, List.mem_range, beq_iff_eq]
  constructor
  · rintro ⟨j, hj, h⟩
    refine ⟨j, ?_⟩
    have h3 : ((2 : Int) ^ j) = (((2 : Nat) ^ j : Nat) : Int) := by simp
    rw [h3] at h
    omega
  · rintro ⟨j, rfl⟩
    have hj : j < 21 := by
      by_cases h : j < 21
      · exact h
      · have : (2 : Nat) ^ 21 ≤ 2 ^ j := Nat.pow_le_pow_right (by omega) (by omega)
        omega
    exact ⟨j, hj, by simp⟩

theorem bits_and_small (a b : Nat) (ha : a < 2097152) (hb : b < 2097152) : bits .and .i64 (a : Int) (b : Int) = ((a &&& b : Nat) : Int) := by
  have hl : a &&& b ≤ a := Nat.and_le_left
  have e1 : (BitVec.ofInt 64 (a : Int)).toNat = a := by
    rw [BitVec.ofInt_natCast, BitVec.toNat_ofNat]; omega
  have e2 : (BitVec.ofInt 64 (b : Int)).toNat = b := by
    rw [BitVec.ofInt_natCast, BitVec.toNat_ofNat]; omega
  show IntKind.i64.wrap ((BitVec.ofInt 64 (a : Int) &&& BitVec.ofInt 64 (b : Int)).toNat) = _
  rw [BitVec.toNat_and, e1, e2]
  generalize a &&& b = r at hl
  exact IntWalk.i64_in _ (by omega)

/-- The program's test on a size. -/
theorem pow_test {s : Int} (h1 : 1 ≤ s) (h2 : s ≤ 1048576) : (bits .and .i64 s (s - 1) != 0) = !isPow s := by
  obtain ⟨n, rfl⟩ : ∃ n : Nat, s = (n : Int) := ⟨s.toNat, by omega⟩
  rw [isPow_nat n (by omega) (by omega), show ((n : Int) - 1) = ((n - 1 : Nat) : Int) by omega, bits_and_small n (n - 1) (by omega) (by omega)]
  rw [Bool.eq_iff_iff]
  simp

theorem isPow_out {s : Int} (h : inR s 1 1048576 = false) : isPow s = false := by
  cases hp : isPow s with
  | false => rfl
  | true =>
    have := isPow_bd hp
    simp [inR] at h
    omega
theorem sizeOk_pow {P : Int} {ss : List Int} {k : Nat} {s : Int} (hs : at0 ss k = s) (h : isPow s = false) : sizeOk P ss k = false := by simp [sizeOk, hs, h]
theorem sizeOk_gt {P : Int} {ss : List Int} {m : Nat} {s p : Int} (hs : at0 ss (m + 1) = s) (hp : at0 ss m = p) (h : p < s) : sizeOk P ss (m + 1) = false := by
  simp only [sizeOk, hs, Nat.add_sub_cancel, hp]
  simp
  omega
theorem sizeOk_run {P : Int} {ss : List Int} {k : Nat} (h : P + 1 < runK ss (k + 1)) : sizeOk P ss k = false := by
  simp only [sizeOk]
  simp
  omega
theorem sizeOk_first {P : Int} {ss : List Int} {s : Int} (hs : at0 ss 0 = s) (h : isPow s = true) (hP : 1 ≤ P) : sizeOk P ss 0 = true := by
  have := runK_zero ss
  simp only [sizeOk, hs, h]
  simp
  omega
theorem sizeOk_next {P : Int} {ss : List Int} {m : Nat} {s p : Int} (hs : at0 ss (m + 1) = s) (hp : at0 ss m = p) (h : isPow s = true) (hle : s ≤ p) (hr : runK ss (m + 1 + 1) ≤ P + 1) : sizeOk P ss (m + 1) = true := by
  simp only [sizeOk, hs, Nat.add_sub_cancel, hp, h]
  simp
  omega
theorem runK_less {ss : List Int} {m : Nat} {s p : Int} (hs : at0 ss (m + 1) = s) (hp : at0 ss m = p) (h : s < p) : runK ss (m + 1 + 1) = 1 := by
  refine runK_new ?_
  rw [Nat.add_sub_cancel, hs, hp]; omega
theorem runK_eq {ss : List Int} {m : Nat} {s p : Int} (hs : at0 ss (m + 1) = s) (hp : at0 ss m = p) (h : s = p) : runK ss (m + 1 + 1) = runK ss (m + 1) + 1 := by
  refine runK_same (by omega) ?_
  rw [Nat.add_sub_cancel, hs, hp]; exact h
theorem timeOk_out {ts : List Int} {k : Nat} {t : Int} (ht : at0 ts k = t) (h : inR t 0 1000000 = false) : timeOk ts k = false := by simp [timeOk, ht, h]
theorem timeOk_lt {ts : List Int} {m : Nat} {t p : Int} (ht : at0 ts (m + 1) = t) (hp : at0 ts m = p) (h : t < p) : timeOk ts (m + 1) = false := by
  simp only [timeOk, ht, Nat.add_sub_cancel, hp]
  simp
  omega
theorem timeOk_first {ts : List Int} {t : Int} (ht : at0 ts 0 = t) (h : inR t 0 1000000 = true) : timeOk ts 0 = true := by simp [timeOk, ht, h]
theorem timeOk_next {ts : List Int} {m : Nat} {t p : Int} (ht : at0 ts (m + 1) = t) (hp : at0 ts m = p) (h : inR t 0 1000000 = true) (hle : p ≤ t) : timeOk ts (m + 1) = true := by
  simp only [timeOk, ht, Nat.add_sub_cancel, hp, h]
  simp
  omega

theorem winB_L {L P : Int} {ts ss : List Int} (h : inR L 1 1000000 = false) : winB L P ts ss = false := by simp [winB, h]
theorem winB_P {L P : Int} {ts ss : List Int} (h : inR P 1 16 = false) : winB L P ts ss = false := by simp [winB, h]
theorem winB_long {L P : Int} {ts ss : List Int} (h : ¬ ts.length ≤ 128) : winB L P ts ss = false := by simp [winB, h]
theorem winB_len {L P : Int} {ts ss : List Int} (h : ¬ ss.length = ts.length) : winB L P ts ss = false := by simp [winB, h]
theorem winB_time {L P : Int} {ts ss : List Int} {k : Nat} (hk : k < ts.length) (h : timeOk ts k = false) : winB L P ts ss = false := by
  have : (List.range ts.length).all (timeOk ts) = false := by
    rw [List.all_eq_false]; exact ⟨k, by simpa using hk, by simp [h]⟩
  simp [winB, this]
theorem winB_times {L P : Int} {ts ss : List Int} (h : (List.range ts.length).all (timeOk ts) = false) : winB L P ts ss = false := by simp [winB, h]
theorem winB_size {L P : Int} {ts ss : List Int} {k : Nat} (hk : k < ts.length) (h : sizeOk P ss k = false) : winB L P ts ss = false := by
  have : (List.range ts.length).all (sizeOk P ss) = false := by
    rw [List.all_eq_false]; exact ⟨k, by simpa using hk, by simp [h]⟩
  simp [winB, this]
theorem winB_yes {L P : Int} {ts ss : List Int} (h1 : inR L 1 1000000 = true) (h2 : inR P 1 16 = true) (h3 : ts.length ≤ 128) (h4 : ss.length = ts.length) (h5 : (List.range ts.length).all (timeOk ts) = true) (h6 : ∀ j, j < ts.length → sizeOk P ss j = true) : winB L P ts ss = true := by
  have h7 : (List.range ts.length).all (sizeOk P ss) = true := by
    rw [List.all_eq_true]; intro j hj; exact h6 j (by simpa using hj)
  simp [winB, h1, h2, h3, h4, h5, h7]

def ascB (ts : List Int) : Bool := (List.range ts.length).all fun k => k == 0 || decide (at0 ts (k - 1) ≤ at0 ts k)
theorem times_and (ts : List Int) : (List.range ts.length).all (timeOk ts) = (ts.all (fun x => inR x 0 1000000) && ascB ts) := by
  rw [Bool.eq_iff_iff]
  simp only [ascB, timeOk, Bool.and_eq_true, List.all_eq_true, List.mem_range]
  constructor
  · intro h
    refine ⟨fun x hx => ?_, fun k hk => (h k hk).2⟩
    obtain ⟨k, hk, rfl⟩ := List.mem_iff_getElem.1 hx
    have := (h k hk).1
    simpa [at0, hk] using this
  · rintro ⟨h1, h2⟩ k hk
    refine ⟨?_, h2 k hk⟩
    have := h1 _ (List.getElem_mem hk)
    simpa [at0, hk] using this
theorem ascB_no {ts : List Int} {m : Nat} (hm : m + 1 < ts.length) (h : at0 ts (m + 1) < at0 ts m) : ascB ts = false := by
  unfold ascB
  rw [List.all_eq_false]
  refine ⟨m + 1, by simpa using hm, ?_⟩
  rw [Nat.add_sub_cancel]
  simp
  omega
theorem ascB_yes {ts : List Int} (h : ∀ j, 0 < j → j < ts.length → at0 ts (j - 1) ≤ at0 ts j) : ascB ts = true := by
  unfold ascB
  rw [List.all_eq_true]
  intro k hk
  simp only [List.mem_range] at hk
  by_cases h0 : k = 0
  · simp [h0]
  · have := h k (by omega) hk
    simp [this]
end Go.Proofs.YtncbkbfkdgggkaaDoor

namespace Go.Proofs.YtncbkbfkdgggkaaDoor
open Go.RowKit

theorem pw_cast (j : Nat) : ((2 : Int) ^ j) = (((2 : Nat) ^ j : Nat) : Int) := by simp
theorem pw_le {j : Nat} (h : (2 : Int) ^ j ≤ 1048576) : j ≤ 20 := by
  by_cases hj : j ≤ 20
  · exact hj
  · have : (2 : Nat) ^ 21 ≤ 2 ^ j := Nat.pow_le_pow_right (by omega) (by omega)
    rw [pw_cast] at h
    omega
theorem pw_big {j : Nat} (h : ¬ (2 : Int) ^ j ≤ 1048576) : 21 ≤ j := by
  by_cases hj : 21 ≤ j
  · exact hj
  · have : (2 : Nat) ^ j ≤ 2 ^ 20 := Nat.pow_le_pow_right (by omega) (by omega)
    rw [pw_cast] at h
    omega
theorem pw_pos (j : Nat) : 1 ≤ (2 : Int) ^ j := by
  have := Nat.two_pow_pos j
  rw [pw_cast]; omega
theorem isPow_not {n : Int} {j : Nat} (hj : 21 ≤ j) (h : ∀ i, i < j → ¬ (2 : Int) ^ i = n) : isPow n = false := by
  cases hp : isPow n with
  | false => rfl
  | true =>
    simp only [isPow, List.any_eq_true, List.mem_range, beq_iff_eq] at hp
    obtain ⟨i, hi, rfl⟩ := hp
    exact absurd rfl (h i (by omega))
theorem isPow_at {n : Int} {j : Nat} (hj : j ≤ 20) (h : (2 : Int) ^ j = n) : isPow n = true := by
  simp only [isPow, List.any_eq_true, List.mem_range, beq_iff_eq]
  exact ⟨j, by omega, h.symm⟩

end Go.Proofs.YtncbkbfkdgggkaaDoor

namespace Go.Proofs.YtncbkbfkdgggkaaDoor
open Go.RowKit

theorem isNaNi_any {x : Int} {w : World} : Calls Tryd.prog 56 #[.int .i64 x] w fun e w' => e = .returned (.bool false) ∧ w = w' := by
  go_enter Tryd.func56, Tryd.ntmps56
  go_wp2
  go_ret
  exact ⟨ret_bool (by simp), rfl⟩
theorem lessi_any {x y : Int} {w : World} : Calls Tryd.prog 76 #[.int .i64 x, .int .i64 y] w fun e w' => e = .returned (.bool (decide (x < y))) ∧ w = w' := by
  go_enter Tryd.func76, Tryd.ntmps76
  go_wp2_with (go_at_call 56; refine isNaNi_any.mono ?_; rintro e w1 ⟨rfl, rfl⟩)
  go_ret
  exact ⟨rfl, rfl⟩
theorem lessi_quiet {x y : Int} {w : World} {n : Nat} : Calls Tryd.prog 76 #[.int .i64 x, .int .i64 y] (w.drewN n) fun e w'' => e = .returned (.bool (decide (x < y))) ∧ ∃ m, w'' = w.drewN m :=
  lessi_any.mono fun _ _ ⟨he, hw⟩ => ⟨he, n, hw.symm⟩

theorem drewN_more {w wr : World} (h : ∃ n, wr = w.drewN n) (m : Nat) : ∃ n, wr.drewN m = w.drewN n := by
  obtain ⟨n, rfl⟩ := h
  exact ⟨_, World.drewN_drewN _ _ _⟩
theorem at0_cell {w : World} {a : Option Addr} {c : Nat} {xs : List Int} (hr : Rd (Value.int .i64) w a c xs) {k : Nat} (hk : k < xs.length) {x : Int} (hx : at0 xs k = x) : w.cell? (elt a k) = some (.int .i64 x) := by
  rw [hr.cell k hk, ← hx]; rfl

set_option maxHeartbeats 800000 in
theorem isSorted_any {a : Option Addr} {c : Nat} {xs : List Int} {w : World} (hr : Rd (Value.int .i64) w a c xs) :
    Calls Tryd.prog 62 #[.slice a xs.length c] w fun e w' => e = .returned (.bool (ascB xs)) ∧ ∃ n, w' = w.drewN n := by
  have hln := hr.len
  go_enter Tryd.func62, Tryd.ntmps62
  go_wp2
  go_loopw [3] (fun i wr => ∃ (z : Int), -1 ≤ z ∧ z < xs.length ∧ i = .int .i64 z ∧ Hid (∀ j : Nat, 0 < j → j < xs.length → z < j → at0 xs (j - 1) ≤ at0 xs j) ∧ Hid (∃ n, wr = w.drewN n)) (fun i _ => (intOf i).toNat)
  case atStart => exact ⟨_, by omega, by omega, rfl, by show ∀ j : Nat, _; intro j _ _ _; omega, by show ∃ n, _; exact ⟨0, rfl⟩⟩
  case round =>
    obtain ⟨z, hz1, hz2, rfl, HA, HN⟩ := hrel
    have hbr : Below w.heap.size w wr := by obtain ⟨n, hn⟩ := HN.out; rw [hn]; exact below_of_drewN _ _ _
    have hr := hr.below hbr (Nat.le_refl _)
    clear hbr
    by_cases h0 : 0 < z
    · obtain ⟨m, rfl⟩ : ∃ m : Nat, z = (m : Int) + 1 := ⟨(z - 1).toNat, by omega⟩
      have hm1 : m + 1 < xs.length := by omega
      obtain ⟨x, hx⟩ : ∃ x, at0 xs (m + 1) = x := ⟨_, rfl⟩
      obtain ⟨y, hy⟩ : ∃ x, at0 xs m = x := ⟨_, rfl⟩
      have hcx := at0_cell hr (by omega) hx
      have hcy := at0_cell hr (by omega) hy
      have hi0 := rd_idxAt hr und_is siz_is (m + 1) (by omega) ((m : Int) + 1) (by omega)
      have hi1 := rd_idxAt hr und_is siz_is m (by omega) (m : Int) (by omega)
      have HX := Lib.hid hx
      have HY := Lib.hid hy
      have ew : IntKind.i64.wrap (m : Int) = (m : Int) := IntWalk.i64_in _ (by omega)
      have ew1 : IntKind.i64.wrap ((m : Int) + 1) = (m : Int) + 1 := IntWalk.i64_in _ (by omega)
      clear hx hy
      by_cases hlt : x < y
      · go_wp2_with fail
        go_quiet ((go_at_call 76; exact lessi_quiet))
        go_wp2
        go_ret
        exact ⟨ret_bool (ascB_no (m := m) hm1 (by rw [HX.out, HY.out]; exact hlt)).symm, drewN_more HN.out _⟩
      · have hd : decide (x < y) = false := by simpa using hlt
        go_wp2_with fail
        go_quiet ((go_at_call 76; exact lessi_quiet))
        go_wp2
        go_roundw
        case rel =>
          refine ⟨(m : Int), by omega, by omega, rfl, ?_, drewN_more HN.out _⟩
          show ∀ j : Nat, _
          intro j hj1 hj2 hj3
          by_cases hj : j = m + 1
          · subst hj; rw [Nat.add_sub_cancel, HX.out, HY.out]; omega
          · exact HA.out j hj1 hj2 (by omega)
        case measure => simp [intOf]
    · go_wp2
      go_ret
      exact ⟨ret_bool (ascB_yes fun j h1 h2 => HA.out j h1 h2 (by omega)).symm, HN.out⟩

theorem areTimes_any {a : Option Addr} {c : Nat} {xs : List Int} {w : World} (hr : Rd (Value.int .i64) w a c xs) :
    Calls Tryd.prog 42 #[.slice a xs.length c] w fun e w' => e = .returned (.bool ((List.range xs.length).all (timeOk xs))) ∧ Below w.heap.size w w' := by
  rw [times_and]
  cases h : xs.all (fun x => inR x 0 1000000) with
  | false =>
    go_enter Tryd.func42, Tryd.ntmps42
    go_wp2_with fail
    refine (areWithin_any a c xs 0 1000000 w hr).mono ?_
    rintro e w1 ⟨rfl, hb1⟩
    go_wp2
    go_ret
    exact ⟨ret_bool (by simp), hb1⟩
  | true =>
    go_enter Tryd.func42, Tryd.ntmps42
    go_wp2_with fail
    refine (areWithin_any a c xs 0 1000000 w hr).mono ?_
    rintro e w1 ⟨rfl, hb1⟩
    rw [h]
    go_wp2_with fail
    refine (isSorted_any (hr.below hb1 (Nat.le_refl _))).mono ?_
    rintro e w2 ⟨rfl, n, rfl⟩
    go_wp2
    go_ret
    exact ⟨ret_bool (by simp), hb1.trans (below_of_drewN _ _ _)⟩

theorem isTime_any {x : Int} {w : World} : Calls Tryd.prog 43 #[.int .i64 x] w fun e w' => e = .returned (.bool (inR x 0 1000000)) ∧ w = w' := by
  go_enter Tryd.func43, Tryd.ntmps43
  go_wp2_with fail
  refine (within_any _ _ _ _).mono ?_
  rintro e w1 ⟨rfl, rfl⟩
  go_wp2
  go_ret
  exact ⟨rfl, rfl⟩

end Go.Proofs.YtncbkbfkdgggkaaDoor

namespace Go.Proofs.YtncbkbfkdgggkaaDoor
open Go.RowKit

theorem eq_of_perm_sorted : ∀ (xs ys : List Int), xs.Perm ys → xs.Pairwise (· ≤ ·) → ys.Pairwise (· ≤ ·) → xs = ys := by
  intro xs
  induction xs with
  | nil => intro ys h _ _; exact (List.Perm.nil_eq h)
  | cons x xs ih =>
    intro ys h h1 h2
    cases ys with
    | nil => exact absurd h.symm (by simp)
    | cons y ys =>
      rw [List.pairwise_cons] at h1 h2
      have hxy : x = y := by
        have hx : x ∈ y :: ys := h.subset (List.mem_cons_self ..)
        have hy : y ∈ x :: xs := h.symm.subset (List.mem_cons_self ..)
        rcases List.mem_cons.1 hx with e | hx
        · exact e
        · rcases List.mem_cons.1 hy with e | hy
          · exact e.symm
          · have a := h1.1 y hy
            have b := h2.1 x hx
            omega
      subst hxy
      rw [ih ys h.cons_inv h1.2 h2.2]

/-- The list in ascending order. -/
def srt (xs : List Int) : List Int := xs.mergeSort fun x y => decide (x ≤ y)
theorem srt_perm (xs : List Int) : (srt xs).Perm xs := List.mergeSort_perm _ _
theorem srt_len (xs : List Int) : (srt xs).length = xs.length := (srt_perm xs).length_eq
theorem srt_pw (xs : List Int) : (srt xs).Pairwise (· ≤ ·) := by
  have := List.pairwise_mergeSort (le := fun x y : Int => decide (x ≤ y)) (by intro a b c h1 h2; simp at *; omega) (by intro a b; simp; omega) xs
  exact this.imp (by intro a b h; simpa using h)
theorem srt_of {xs ys : List Int} (hp : ys.Perm xs) (hs : ys.Pairwise (· ≤ ·)) : ys = srt xs := eq_of_perm_sorted _ _ (hp.trans (srt_perm xs).symm) hs (srt_pw xs)

theorem pw_of_at0 {ys : List Int} (h : ∀ a b, a < b → b < ys.length → at0 ys a ≤ at0 ys b) : ys.Pairwise (· ≤ ·) := by
  rw [List.pairwise_iff_getElem]
  intro i j hi hj hij
  have := h i j hij hj
  simpa [at0, hi, hj] using this

/-- Two neighbours change places. -/
def swp (ys : List Int) (k : Nat) : List Int := (ys.set k (at0 ys (k - 1))).set (k - 1) (at0 ys k)
theorem swp_len (ys : List Int) (k : Nat) : (swp ys k).length = ys.length := by simp [swp]
theorem at0_set (ys : List Int) (k : Nat) (x : Int) (hk : k < ys.length) (j : Nat) : at0 (ys.set k x) j = if j = k then x else at0 ys j := by
  unfold at0
  rw [List.getElem?_set]
  by_cases h : j = k
  · subst h; simp [hk]
  · rw [if_neg (fun e => h e.symm), if_neg h]
theorem at0_swp {ys : List Int} {k : Nat} (h0 : 0 < k) (hk : k < ys.length) (j : Nat) : at0 (swp ys k) j = if j = k - 1 then at0 ys k else if j = k then at0 ys (k - 1) else at0 ys j := by
  unfold swp
  rw [at0_set _ _ _ (by simp; omega), at0_set _ _ _ hk]
theorem swp_perm {ys : List Int} {k : Nat} (h0 : 0 < k) (hk : k < ys.length) : (swp ys k).Perm ys := by
  obtain ⟨A, a, b, B, hA, he⟩ : ∃ A a b B, A.length = k - 1 ∧ ys = A ++ a :: b :: B := by
    refine ⟨ys.take (k - 1), ys[k - 1], ys[k - 1 + 1], ys.drop (k - 1 + 1 + 1), by simp; omega, ?_⟩
    rw [List.getElem_cons_drop, List.getElem_cons_drop, List.take_append_drop]
  have e1 : at0 ys (k - 1) = a := by
    subst he; simp [at0, ← hA]
  have e2 : at0 ys k = b := by
    subst he
    have : k = A.length + 1 := by omega
    subst this
    simp [at0]
  have e3 : swp ys k = A ++ b :: a :: B := by
    unfold swp
    rw [e1, e2, he]
    have : k = A.length + 1 := by omega
    subst this
    simp [List.set_append_right]
  rw [e3, he]
  exact List.Perm.append_left A (List.Perm.swap a b B)

/-- Ascending up to i, but for what stands at k. -/
structure Ins (ys : List Int) (k i : Nat) : Prop where
  a : ∀ p q, p < q → q ≤ i → p ≠ k → q ≠ k → at0 ys p ≤ at0 ys q
  b : ∀ q, k < q → q ≤ i → at0 ys k ≤ at0 ys q
def asc (ys : List Int) (n : Nat) : Prop := ∀ p q, p < q → q < n → at0 ys p ≤ at0 ys q
theorem ins_start {ys : List Int} {i : Nat} (h : asc ys i) : Ins ys i i := ⟨fun p q h1 h2 _ h4 => h p q h1 (by omega), fun q h1 h2 => by omega⟩
theorem ins_step {ys : List Int} {k i : Nat} (h0 : 0 < k) (hk : k ≤ i) (hi : i < ys.length) (h : Ins ys k i) (hl : at0 ys k < at0 ys (k - 1)) : Ins (swp ys k) (k - 1) i := by
  refine ⟨fun p q h1 h2 h3 h4 => ?_, fun q h1 h2 => ?_⟩
  · rw [at0_swp h0 (by omega), at0_swp h0 (by omega), if_neg h3, if_neg h4]
    by_cases hp : p = k
    · rw [if_pos hp, if_neg (by omega)]
      exact h.a (k - 1) q (by omega) h2 (by omega) (by omega)
    · rw [if_neg hp]
      by_cases hq : q = k
      · rw [if_pos hq]
        exact h.a p (k - 1) (by omega) (by omega) hp (by omega)
      · rw [if_neg hq]
        exact h.a p q h1 h2 hp hq
  · rw [at0_swp h0 (by omega), at0_swp h0 (by omega), if_pos rfl, if_neg (by omega)]
    by_cases hq : q = k
    · rw [if_pos hq]; omega
    · rw [if_neg hq]
      exact h.b q (by omega) h2
theorem ins_end {ys : List Int} {k i : Nat} (hk : k ≤ i) (h : Ins ys k i) (he : k = 0 ∨ at0 ys (k - 1) ≤ at0 ys k) : asc ys (i + 1) := by
  intro p q h1 h2
  by_cases hp : p = k
  · rw [hp]; exact h.b q (by omega) (by omega)
  · by_cases hq : q = k
    · have h3 : at0 ys (k - 1) ≤ at0 ys k := by rcases he with e | e <;> omega
      by_cases hpk : p = k - 1
      · rw [hq, hpk]; exact h3
      · have := h.a p (k - 1) (by omega) (by omega) hp (by omega)
        rw [hq]; omega
    · exact h.a p q h1 (by omega) hp hq
theorem asc_one (ys : List Int) : asc ys 1 := fun p q h1 h2 => by omega
theorem asc_zero (ys : List Int) : asc ys 0 := fun p q h1 h2 => by omega

/-- The number that is most often in an ascending list, the first of them: the best one and how often, after k numbers. -/
def oft (ys : List Int) : Nat → Int × Int
  | 0 => (at0 ys 0, 0)
  | k + 1 => if (oft ys k).2 < runK ys (k + 1) then (at0 ys k, runK ys (k + 1)) else oft ys k
def oftR (ys : List Int) : Int := (oft ys ys.length).1
/-- The last ones of an index. -/
def lastL (xs : List Int) (long : Int) (i : Nat) : List Int := (xs.take (i + 1)).drop ((i : Int) - long + 1).toNat
theorem oft_bd (ys : List Int) (k : Nat) : 0 ≤ (oft ys k).2 ∧ (oft ys k).2 ≤ k := by
  induction k with
  | zero => simp [oft]
  | succ k ih =>
    have := runK_bd ys (k + 1)
    unfold oft
    split
    · simp; omega
    · omega

end Go.Proofs.YtncbkbfkdgggkaaDoor

namespace Go.Proofs.YtncbkbfkdgggkaaDoor
open Go.RowKit

def minL (zs : List Int) : Int := zs.foldl min (zs.headD 0)
def maxL (zs : List Int) : Int := zs.foldl max (zs.headD 0)
theorem foldl_min_le : ∀ (zs : List Int) (a : Int), zs.foldl min a ≤ a ∧ ∀ z ∈ zs, zs.foldl min a ≤ z
  | [], a => ⟨Int.le_refl _, fun z h => by cases h⟩
  | y :: zs, a => by
    obtain ⟨h1, h2⟩ := foldl_min_le zs (min a y)
    refine ⟨by show zs.foldl min (min a y) ≤ a; omega, fun z hz => ?_⟩
    show zs.foldl min (min a y) ≤ z
    rcases List.mem_cons.1 hz with rfl | hz
    · omega
    · exact h2 z hz
theorem foldl_min_mem : ∀ (zs : List Int) (a : Int), zs.foldl min a = a ∨ zs.foldl min a ∈ zs
  | [], a => .inl rfl
  | y :: zs, a => by
    show zs.foldl min (min a y) = a ∨ zs.foldl min (min a y) ∈ y :: zs
    rcases foldl_min_mem zs (min a y) with h | h
    · rw [h]
      rcases Int.le_total a y with h1 | h1
      · left; omega
      · right; rw [show min a y = y by omega]; exact List.mem_cons_self
    · right; exact List.mem_cons_of_mem _ h
theorem foldl_max_le : ∀ (zs : List Int) (a : Int), a ≤ zs.foldl max a ∧ ∀ z ∈ zs, z ≤ zs.foldl max a
  | [], a => ⟨Int.le_refl _, fun z h => by cases h⟩
  | y :: zs, a => by
    obtain ⟨h1, h2⟩ := foldl_max_le zs (max a y)
    refine ⟨by show a ≤ zs.foldl max (max a y); omega, fun z hz => ?_⟩
    show z ≤ zs.foldl max (max a y)
    rcases List.mem_cons.1 hz with rfl | hz
    · omega
    · exact h2 z hz
theorem foldl_max_mem : ∀ (zs : List Int) (a : Int), zs.foldl max a = a ∨ zs.foldl max a ∈ zs
  | [], a => .inl rfl
  | y :: zs, a => by
    show zs.foldl max (max a y) = a ∨ zs.foldl max (max a y) ∈ y :: zs
    rcases foldl_max_mem zs (max a y) with h | h
    · rw [h]
      rcases Int.le_total a y with h1 | h1
      · right; rw [show max a y = y by omega]; exact List.mem_cons_self
      · left; omega
    · right; exact List.mem_cons_of_mem _ h
theorem headD_mem {zs : List Int} (h : zs ≠ []) : zs.headD 0 ∈ zs := by
  cases zs with
  | nil => exact absurd rfl h
  | cons z zs => exact List.mem_cons_self
/-- From whichever of them one begins. -/
theorem foldl_min_eq {zs : List Int} {a : Int} (h : a ∈ zs) : zs.foldl min a = minL zs := by
  have hne : zs ≠ [] := by rintro rfl; cases h
  have hh := headD_mem hne
  unfold minL
  have h1 := foldl_min_le zs a
  have h2 := foldl_min_le zs (zs.headD 0)
  have h3 : zs.foldl min a ∈ zs := by rcases foldl_min_mem zs a with e | e; rw [e]; exact h; exact e
  have h4 : zs.foldl min (zs.headD 0) ∈ zs := by rcases foldl_min_mem zs (zs.headD 0) with e | e; rw [e]; exact hh; exact e
  have := h1.2 _ h4
  have := h2.2 _ h3
  omega
theorem foldl_max_eq {zs : List Int} {a : Int} (h : a ∈ zs) : zs.foldl max a = maxL zs := by
  have hne : zs ≠ [] := by rintro rfl; cases h
  have hh := headD_mem hne
  unfold maxL
  have h1 := foldl_max_le zs a
  have h2 := foldl_max_le zs (zs.headD 0)
  have h3 : zs.foldl max a ∈ zs := by rcases foldl_max_mem zs a with e | e; rw [e]; exact h; exact e
  have h4 : zs.foldl max (zs.headD 0) ∈ zs := by rcases foldl_max_mem zs (zs.headD 0) with e | e; rw [e]; exact hh; exact e
  have := h1.2 _ h4
  have := h2.2 _ h3
  omega

/-- How many are below, how many at most the middle one. -/
theorem countP_sorted_lt {ys : List Int} (h : ys.Pairwise (· ≤ ·)) {k : Nat} (hk : k < ys.length) : ys.countP (fun z => decide (z < at0 ys k)) ≤ k := by
  have e : ys = ys.take k ++ ys.drop k := (List.take_append_drop k ys).symm
  have h1 : (ys.drop k).countP (fun z => decide (z < at0 ys k)) = 0 := by
    rw [List.countP_eq_zero]
    intro z hz
    obtain ⟨j, hj, rfl⟩ := List.getElem_of_mem hz
    rw [List.getElem_drop]
    simp only [List.length_drop] at hj
    have hle : at0 ys k ≤ ys[k + j] := by
      have : at0 ys k = ys[k] := by simp [at0, hk]
      rw [this]
      rcases Nat.eq_zero_or_pos j with rfl | hp
      · exact Int.le_refl _
      · exact (List.pairwise_iff_getElem.1 h) k (k + j) hk (by omega) (by omega)
    simp; omega
  have h2 : (ys.take k).countP (fun z => decide (z < at0 ys k)) ≤ k := Nat.le_trans List.countP_le_length (by rw [List.length_take]; omega)
  have h3 : ys.countP (fun z => decide (z < at0 ys k)) = (ys.take k).countP (fun z => decide (z < at0 ys k)) + (ys.drop k).countP (fun z => decide (z < at0 ys k)) := by
    rw [← List.countP_append, List.take_append_drop]
  omega
theorem countP_sorted_le {ys : List Int} (h : ys.Pairwise (· ≤ ·)) {k : Nat} (hk : k < ys.length) : k < ys.countP (fun z => decide (z ≤ at0 ys k)) := by
  have h1 : (ys.take (k + 1)).countP (fun z => decide (z ≤ at0 ys k)) = k + 1 := by
    rw [List.countP_eq_length.2, List.length_take]
    · omega
    · intro z hz
      obtain ⟨j, hj, rfl⟩ := List.getElem_of_mem hz
      rw [List.getElem_take]
      simp only [List.length_take] at hj
      have : at0 ys k = ys[k] := by simp [at0, hk]
      rw [this]
      have hle : ys[j]'(by omega) ≤ ys[k] := by
        rcases Nat.lt_or_ge j k with hp | hp
        · exact (List.pairwise_iff_getElem.1 h) j k (by omega) hk hp
        · have : j = k := by omega
          subst this; exact Int.le_refl _
      simpa using hle
  have h3 : ys.countP (fun z => decide (z ≤ at0 ys k)) = (ys.take (k + 1)).countP (fun z => decide (z ≤ at0 ys k)) + (ys.drop (k + 1)).countP (fun z => decide (z ≤ at0 ys k)) := by
    rw [← List.countP_append, List.take_append_drop]
  omega
def midM (zs : List Int) : Int := at0 (srt zs) ((zs.length - 1) / 2)
theorem mid_below {zs : List Int} (h : zs ≠ []) : zs.countP (fun z => decide (z < midM zs)) ≤ (zs.length - 1) / 2 := by
  have hl : 0 < zs.length := List.length_pos_iff.2 h
  rw [← (srt_perm zs).countP_eq]
  exact countP_sorted_lt (srt_pw zs) (by rw [srt_len]; omega)
theorem mid_upTo {zs : List Int} (h : zs ≠ []) : (zs.length - 1) / 2 < zs.countP (fun z => decide (z ≤ midM zs)) := by
  have hl : 0 < zs.length := List.length_pos_iff.2 h
  rw [← (srt_perm zs).countP_eq]
  exact countP_sorted_le (srt_pw zs) (by rw [srt_len]; omega)

theorem take_snoc {ys : List Int} {k : Nat} (hk : k < ys.length) : ys.take (k + 1) = ys.take k ++ [at0 ys k] := by
  rw [List.take_add_one, List.getElem?_eq_getElem hk]
  simp [at0, hk]
theorem sorted_take_le {ys : List Int} (h : ys.Pairwise (· ≤ ·)) {k : Nat} (hk : k < ys.length) : ∀ z ∈ ys.take (k + 1), z ≤ at0 ys k := by
  intro z hz
  obtain ⟨j, hj, rfl⟩ := List.getElem_of_mem hz
  rw [List.getElem_take]
  simp only [List.length_take] at hj
  have : at0 ys k = ys[k] := by simp [at0, hk]
  rw [this]
  rcases Nat.lt_or_ge j k with hp | hp
  · exact (List.pairwise_iff_getElem.1 h) j k (by omega) hk hp
  · have : j = k := by omega
    subst this; exact Int.le_refl _
theorem at0_le {ys : List Int} (h : ys.Pairwise (· ≤ ·)) {i k : Nat} (hi : i ≤ k) (hk : k < ys.length) : at0 ys i ≤ at0 ys k := by
  have : at0 ys i = ys[i] := by simp [at0, show i < ys.length by omega]
  exact sorted_take_le h hk _ (by rw [this]; exact List.mem_take_iff_getElem.2 ⟨i, by omega, rfl⟩)
theorem runK_count {ys : List Int} (h : ys.Pairwise (· ≤ ·)) : ∀ (k : Nat), k < ys.length → runK ys (k + 1) = ((ys.take (k + 1)).count (at0 ys k) : Int)
  | 0, hk => by
    rw [runK_zero, take_snoc hk]
    simp
  | k + 1, hk => by
    have ih := runK_count h k (by omega)
    rw [take_snoc hk, List.count_append]
    have h1 : [at0 ys (k + 1)].count (at0 ys (k + 1)) = 1 := by simp
    rw [h1]
    by_cases he : at0 ys (k + 1) = at0 ys k
    · rw [runK_same (by omega) (by rw [Nat.add_sub_cancel]; exact he), ih, he]
      push_cast; rfl
    · rw [runK_new (by rw [Nat.add_sub_cancel]; exact he)]
      have h0 : (ys.take (k + 1)).count (at0 ys (k + 1)) = 0 := by
        rw [List.count_eq_zero]
        intro hm
        have h2 := sorted_take_le h (k := k) (by omega) _ hm
        have h3 := at0_le h (i := k) (k := k + 1) (by omega) hk
        omega
      rw [h0]; rfl
theorem oft_best {ys : List Int} (h : ys.Pairwise (· ≤ ·)) : ∀ (k : Nat), k < ys.length → (oft ys (k + 1)).2 = ((ys.take (k + 1)).count (oft ys (k + 1)).1 : Int) ∧ (oft ys (k + 1)).1 ∈ ys.take (k + 1) ∧ ∀ z, ((ys.take (k + 1)).count z : Int) ≤ (oft ys (k + 1)).2 ∧ (((ys.take (k + 1)).count z : Int) = (oft ys (k + 1)).2 → (oft ys (k + 1)).1 ≤ z)
  | 0, hk => by
    have e : oft ys 1 = (at0 ys 0, 1) := by
      rw [oft, if_pos (by rw [runK_zero]; simp [oft]), runK_zero]
    rw [e, take_snoc hk]
    simp only [List.take_zero, List.nil_append]
    refine ⟨by simp, by simp, fun z => ?_⟩
    by_cases hz : at0 ys 0 = z
    · subst hz; simp
    · have : [at0 ys 0].count z = 0 := by rw [List.count_eq_zero]; simp; exact fun e => hz e.symm
      rw [this]; simp
  | k + 1, hk => by
    obtain ⟨i1, i2, i3⟩ := oft_best h k (by omega)
    have hr := runK_count h (k + 1) hk
    have hts := take_snoc hk
    have hcz : ∀ z, (ys.take (k + 2)).count z = (ys.take (k + 1)).count z + (if at0 ys (k + 1) = z then 1 else 0) := by
      intro z
      rw [hts, List.count_append]
      congr 1
      split
      · rename_i e; rw [e]; simp
      · rename_i e; rw [List.count_eq_zero]; simp; exact fun e' => e e'.symm
    have hble : (oft ys (k + 1)).1 ≤ at0 ys (k + 1) := by
      have := sorted_take_le h (k := k) (by omega) _ i2
      have := at0_le h (i := k) (k := k + 1) (by omega) hk
      omega
    by_cases hc : (oft ys (k + 1)).2 < runK ys (k + 1 + 1)
    · have e : oft ys (k + 1 + 1) = (at0 ys (k + 1), runK ys (k + 1 + 1)) := by rw [oft, if_pos hc]
      rw [e]
      simp only
      refine ⟨hr, by rw [hts]; simp, fun z => ?_⟩
      rw [hcz z]
      by_cases hz : at0 ys (k + 1) = z
      · subst hz
        rw [hr, hcz, if_pos rfl]
        exact ⟨Int.le_refl _, fun _ => Int.le_refl _⟩
      · rw [if_neg hz]
        have := (i3 z).1
        exact ⟨by omega, fun e => by omega⟩
    · have e : oft ys (k + 1 + 1) = oft ys (k + 1) := by rw [oft, if_neg hc]
      rw [e]
      have hne : ¬ at0 ys (k + 1) = (oft ys (k + 1)).1 := by
        intro he
        have h1 := hcz (at0 ys (k + 1))
        rw [if_pos rfl] at h1
        have h2 : runK ys (k + 1 + 1) = ((ys.take (k + 2)).count (at0 ys (k + 1)) : Int) := hr
        rw [h1, he] at h2
        omega
      refine ⟨by rw [hcz, if_neg hne]; simpa using i1, by rw [hts]; exact List.mem_append_left _ i2, fun z => ?_⟩
      rw [hcz z]
      by_cases hz : at0 ys (k + 1) = z
      · rw [if_pos hz]
        have h2 : runK ys (k + 1 + 1) = ((ys.take (k + 2)).count (at0 ys (k + 1)) : Int) := hr
        rw [hcz, if_pos rfl, hz] at h2
        refine ⟨by omega, fun _ => by rw [← hz]; exact hble⟩
      · rw [if_neg hz]
        simpa using i3 z
def oftM (zs : List Int) : Int := oftR (srt zs)
theorem oftM_best {zs : List Int} (h : zs ≠ []) : ∀ z, zs.count z ≤ zs.count (oftM zs) ∧ (zs.count z = zs.count (oftM zs) → oftM zs ≤ z) := by
  have hl : 0 < zs.length := List.length_pos_iff.2 h
  obtain ⟨n, hn⟩ : ∃ n, (srt zs).length = n + 1 := ⟨zs.length - 1, by rw [srt_len]; omega⟩
  obtain ⟨h1, h2, h3⟩ := oft_best (srt_pw zs) n (by omega)
  rw [← hn, List.take_length] at h1 h2 h3
  have hp := srt_perm zs
  intro z
  obtain ⟨h4, h5⟩ := h3 z
  rw [h1] at h4 h5
  have e1 : (srt zs).count z = zs.count z := hp.count_eq z
  have e2 : (srt zs).count (oft (srt zs) (srt zs).length).1 = zs.count (oftM zs) := hp.count_eq _
  rw [e1, e2] at h4 h5
  exact ⟨by omega, fun e => h5 (by omega)⟩

/-- Where the last ones of an index begin. -/
def lastI (L : Int) (i : Nat) : Nat := ((i : Int) - L + 1).toNat
theorem lastL_get {xs : List Int} {L : Int} {i k : Nat} (hi : i < xs.length) (h1 : lastI L i ≤ k) (h2 : k ≤ i) : (lastL xs L i)[k - lastI L i]? = some xs[k] := by
  unfold lastL lastI at *
  rw [List.getElem?_drop, List.getElem?_take, if_pos (by omega)]
  rw [show ((i : Int) - L + 1).toNat + (k - ((i : Int) - L + 1).toNat) = k by omega]
  exact List.getElem?_eq_getElem (by omega)
theorem lastL_length {xs : List Int} {L : Int} {i : Nat} (hi : i < xs.length) : (lastL xs L i).length = i + 1 - lastI L i := by
  unfold lastL lastI
  rw [List.length_drop, List.length_take]
  omega
theorem lastI_le {L : Int} {i : Nat} (hL : 1 ≤ L) : lastI L i ≤ i := by unfold lastI; omega
theorem lastL_mem {xs : List Int} {L : Int} {i : Nat} : ∀ z ∈ lastL xs L i, z ∈ xs := fun z hz => List.mem_of_mem_take (List.mem_of_mem_drop hz)
theorem lastL_last {xs : List Int} {L : Int} {i : Nat} (hi : i < xs.length) (hL : 1 ≤ L) : xs[i] ∈ lastL xs L i := by
  have h := lastL_get (L := L) hi (lastI_le hL) (Nat.le_refl i)
  exact List.mem_of_getElem? h

end Go.Proofs.YtncbkbfkdgggkaaDoor

namespace Go.Proofs.YtncbkbfkdgggkaaDoor
open Go.RowKit

/-- Ascending from a to b. -/
def ascR (ys : List Int) (a b : Nat) : Prop := ∀ p q, a ≤ p → p < q → q < b → at0 ys p ≤ at0 ys q
/-- Two tags that stand the wrong way round have different keys, in the right way. -/
def Stab (K : Int → Int) (ys : List Int) : Prop := ∀ p q, p < q → q < ys.length → at0 ys q < at0 ys p → K (at0 ys q) < K (at0 ys p)
/-- Turned between a and b alone. -/
structure RP (a b : Nat) (xs ys : List Int) : Prop where
  len : ys.length = xs.length
  perm : ys.Perm xs
  out : ∀ k, k < a ∨ b ≤ k → at0 ys k = at0 xs k
  inn : ∀ k, a ≤ k → k < b → ∃ j, a ≤ j ∧ j < b ∧ at0 ys k = at0 xs j

theorem RP.refl (a b : Nat) (xs : List Int) : RP a b xs xs := ⟨rfl, List.Perm.refl _, fun _ _ => rfl, fun k h1 h2 => ⟨k, h1, h2, rfl⟩⟩
theorem RP.trans {a b : Nat} {xs ys zs : List Int} (h : RP a b xs ys) (g : RP a b ys zs) : RP a b xs zs :=
  ⟨g.len.trans h.len, g.perm.trans h.perm, fun k hk => (g.out k hk).trans (h.out k hk), fun k h1 h2 => by
    obtain ⟨j, j1, j2, e⟩ := g.inn k h1 h2
    obtain ⟨i, i1, i2, e2⟩ := h.inn j j1 j2
    exact ⟨i, i1, i2, e.trans e2⟩⟩
theorem RP.wide {a b c d : Nat} {xs ys : List Int} (h : RP a b xs ys) (ha : c ≤ a) (hb : b ≤ d) : RP c d xs ys :=
  ⟨h.len, h.perm, fun k hk => h.out k (by omega), fun k h1 h2 => by
    by_cases hk : a ≤ k ∧ k < b
    · obtain ⟨j, j1, j2, e⟩ := h.inn k hk.1 hk.2
      exact ⟨j, by omega, by omega, e⟩
    · exact ⟨k, h1, h2, h.out k (by omega)⟩⟩

theorem RP.swp {a b k : Nat} (ys : List Int) (h0 : a < k) (hk : k < b) (hb : b ≤ ys.length) : RP a b ys (swp ys k) :=
  ⟨swp_len _ _, swp_perm (by omega) (by omega), fun j hj => by rw [at0_swp (by omega) (by omega), if_neg (by omega), if_neg (by omega)],
   fun j h1 h2 => by
    rw [at0_swp (by omega) (by omega)]
    split
    · exact ⟨k, by omega, by omega, rfl⟩
    · split
      · exact ⟨k - 1, by omega, by omega, rfl⟩
      · exact ⟨j, h1, h2, rfl⟩⟩

/-- What is ascending where it was turned keeps the tags' way. -/
theorem Stab.asc {K : Int → Int} {a b : Nat} {xs ys : List Int} (h : Stab K xs) (hr : RP a b xs ys) (hs : ascR ys a b) (hb : b ≤ xs.length) : Stab K ys := by
  intro p q hpq hq hlt
  rw [hr.len] at hq
  by_cases hp : a ≤ p ∧ p < b
  · by_cases hq2 : a ≤ q ∧ q < b
    · have := hs p q hp.1 hpq hq2.2
      omega
    · obtain ⟨j, j1, j2, e⟩ := hr.inn p hp.1 hp.2
      have e2 := hr.out q (by omega)
      rw [e, e2] at hlt ⊢
      exact h j q (by omega) (by omega) hlt
  · have e := hr.out p (by omega)
    by_cases hq2 : a ≤ q ∧ q < b
    · obtain ⟨j, j1, j2, e2⟩ := hr.inn q hq2.1 hq2.2
      rw [e, e2] at hlt ⊢
      exact h p j (by omega) (by omega) hlt
    · have e2 := hr.out q (by omega)
      rw [e, e2] at hlt ⊢
      exact h p q hpq (by omega) hlt

/-- Keys follow the tags. -/
def Mono (K : Int → Int) : Prop := ∀ x y, x ≤ y → K x ≤ K y
theorem Stab.cmp {K : Int → Int} (hK : Mono K) {ys : List Int} (h : Stab K ys) {p q : Nat} (hpq : p < q) (hq : q < ys.length) : decide (K (at0 ys q) < K (at0 ys p)) = decide (at0 ys q < at0 ys p) := by
  by_cases hl : at0 ys q < at0 ys p
  · rw [decide_eq_true hl, decide_eq_true (h p q hpq hq hl)]
  · have := hK (at0 ys p) (at0 ys q) (by omega)
    rw [decide_eq_false hl, decide_eq_false (by omega)]

/-! Insertion -/
/-- Ascending from a up to i, but for what stands at k. -/
structure InsR (ys : List Int) (a k i : Nat) : Prop where
  a : ∀ p q, a ≤ p → p < q → q ≤ i → p ≠ k → q ≠ k → at0 ys p ≤ at0 ys q
  b : ∀ q, k < q → q ≤ i → at0 ys k < at0 ys q
theorem insR_start {ys : List Int} {a i : Nat} (h : ascR ys a i) : InsR ys a i i := ⟨fun p q h0 h1 h2 _ h4 => h p q h0 h1 (by omega), fun q h1 h2 => by omega⟩
theorem insR_step {ys : List Int} {a k i : Nat} (h0 : a < k) (hk : k ≤ i) (hi : i < ys.length) (h : InsR ys a k i) (hl : at0 ys k < at0 ys (k - 1)) : InsR (swp ys k) a (k - 1) i := by
  refine ⟨fun p q h5 h1 h2 h3 h4 => ?_, fun q h1 h2 => ?_⟩
  · rw [at0_swp (by omega) (by omega), at0_swp (by omega) (by omega), if_neg h3, if_neg h4]
    by_cases hp : p = k
    · rw [if_pos hp, if_neg (by omega)]
      exact h.a (k - 1) q (by omega) (by omega) h2 (by omega) (by omega)
    · rw [if_neg hp]
      by_cases hq : q = k
      · rw [if_pos hq]
        exact h.a p (k - 1) h5 (by omega) (by omega) hp (by omega)
      · rw [if_neg hq]
        exact h.a p q h5 h1 h2 hp hq
  · rw [at0_swp (by omega) (by omega), at0_swp (by omega) (by omega), if_pos rfl, if_neg (by omega)]
    by_cases hq : q = k
    · rw [if_pos hq]; omega
    · rw [if_neg hq]
      exact h.b q (by omega) h2
theorem insR_end {ys : List Int} {a k i : Nat} (hk : k ≤ i) (h : InsR ys a k i) (he : k = a ∨ at0 ys (k - 1) ≤ at0 ys k) : ascR ys a (i + 1) := by
  intro p q h0 h1 h2
  by_cases hp : p = k
  · rw [hp]; have := h.b q (by omega) (by omega); omega
  · by_cases hq : q = k
    · have h3 : at0 ys (k - 1) ≤ at0 ys k := by rcases he with e | e <;> omega
      by_cases hpk : p = k - 1
      · rw [hq, hpk]; exact h3
      · have := h.a p (k - 1) h0 (by omega) (by omega) hp (by omega)
        rw [hq]; omega
    · exact h.a p q h0 h1 (by omega) hp hq
/-- A step of an insertion keeps the tags' way. -/
theorem Stab.swp {K : Int → Int} {ys : List Int} {k : Nat} (h : Stab K ys) (h0 : 0 < k) (hk : k < ys.length) (hl : at0 ys k < at0 ys (k - 1)) : Stab K (swp ys k) := by
  intro p q hpq hq hlt
  rw [swp_len] at hq
  rw [at0_swp h0 hk, at0_swp h0 hk] at hlt ⊢
  by_cases hp1 : p = k - 1
  · rw [if_pos hp1] at hlt ⊢
    rw [if_neg (by omega)] at hlt ⊢
    by_cases hq1 : q = k
    · rw [if_pos hq1] at hlt ⊢; omega
    · rw [if_neg hq1] at hlt ⊢; exact h k q (by omega) hq hlt
  · rw [if_neg hp1] at hlt ⊢
    by_cases hp2 : p = k
    · rw [if_pos hp2] at hlt ⊢
      rw [if_neg (by omega), if_neg (by omega)] at hlt ⊢
      exact h (k - 1) q (by omega) hq hlt
    · rw [if_neg hp2] at hlt ⊢
      by_cases hq1 : q = k - 1
      · rw [if_pos hq1] at hlt ⊢; exact h p k (by omega) hk hlt
      · rw [if_neg hq1] at hlt ⊢
        by_cases hq2 : q = k
        · rw [if_pos hq2] at hlt ⊢; exact h p (k - 1) (by omega) (by omega) hlt
        · rw [if_neg hq2] at hlt ⊢; exact h p q hpq hq hlt

/-! One that stands ahead, or behind. -/
/-- The first one moved behind k - a others. -/
structure Fwd (ys zs : List Int) (a k : Nat) : Prop where
  lo : ∀ p, p < a ∨ k < p → at0 zs p = at0 ys p
  mid : ∀ p, a ≤ p → p < k → at0 zs p = at0 ys (p + 1)
  here : at0 zs k = at0 ys a
theorem fwd_start (ys : List Int) (a : Nat) : Fwd ys ys a a := ⟨fun _ _ => rfl, fun p h1 h2 => by omega, rfl⟩
theorem fwd_step {ys zs : List Int} {a k : Nat} (h : Fwd ys zs a k) (ha : a ≤ k) (hk : k + 1 < zs.length) : Fwd ys (swp zs (k + 1)) a (k + 1) := by
  refine ⟨fun p hp => ?_, fun p h1 h2 => ?_, ?_⟩
  · rw [at0_swp (by omega) hk, if_neg (by omega), if_neg (by omega)]; exact h.lo p (by omega)
  · rw [at0_swp (by omega) hk]
    by_cases hp : p = k
    · rw [if_pos (by omega), h.lo (k + 1) (by omega), hp]
    · rw [if_neg (by omega), if_neg (by omega)]; exact h.mid p h1 (by omega)
  · rw [at0_swp (by omega) hk, if_neg (by omega), if_pos rfl, Nat.add_sub_cancel]; exact h.here
theorem fwd_asc {ys zs : List Int} {a i b : Nat} (h : Fwd ys zs a (i - 1)) (hai : a < i) (hib : i ≤ b) (hs : ascR ys (a + 1) b)
    (h1 : ∀ k, a + 1 ≤ k → k < i → at0 ys k < at0 ys a) (h2 : ∀ k, i ≤ k → k < b → at0 ys a ≤ at0 ys k) : ascR zs a b := by
  intro p q hp hpq hq
  by_cases e1 : p < i - 1
  · rw [h.mid p hp e1]
    by_cases e2 : q < i - 1
    · rw [h.mid q (by omega) e2]; exact hs (p + 1) (q + 1) (by omega) (by omega) (by omega)
    · by_cases e3 : q = i - 1
      · rw [e3, h.here]; have := h1 (p + 1) (by omega) (by omega); omega
      · rw [h.lo q (by omega)]; exact hs (p + 1) q (by omega) (by omega) hq
  · by_cases e2 : p = i - 1
    · rw [e2, h.here, h.lo q (by omega)]; exact h2 q (by omega) hq
    · rw [h.lo p (by omega), h.lo q (by omega)]; exact hs p q (by omega) hpq hq
/-- The last one moved ahead of m - k others. -/
structure Bwd (ys zs : List Int) (k m : Nat) : Prop where
  lo : ∀ p, p < k ∨ m < p → at0 zs p = at0 ys p
  mid : ∀ p, k < p → p ≤ m → at0 zs p = at0 ys (p - 1)
  here : at0 zs k = at0 ys m
theorem bwd_start (ys : List Int) (m : Nat) : Bwd ys ys m m := ⟨fun _ _ => rfl, fun p h1 h2 => by omega, rfl⟩
theorem bwd_step {ys zs : List Int} {k m : Nat} (h : Bwd ys zs k m) (h0 : 0 < k) (hk : k ≤ m) (hm : m < zs.length) : Bwd ys (swp zs k) (k - 1) m := by
  refine ⟨fun p hp => ?_, fun p h1 h2 => ?_, ?_⟩
  · rw [at0_swp h0 (by omega), if_neg (by omega), if_neg (by omega)]; exact h.lo p (by omega)
  · rw [at0_swp h0 (by omega), if_neg (by omega)]
    by_cases hp : p = k
    · rw [if_pos hp, h.lo (k - 1) (by omega), hp]
    · rw [if_neg hp]; exact h.mid p (by omega) h2
  · rw [at0_swp h0 (by omega), if_pos rfl]; exact h.here
theorem bwd_asc {ys zs : List Int} {a i m : Nat} (h : Bwd ys zs i m) (hai : a ≤ i) (him : i ≤ m) (hs : ascR ys a m)
    (h1 : ∀ k, a ≤ k → k < i → at0 ys k ≤ at0 ys m) (h2 : ∀ k, i ≤ k → k < m → at0 ys m < at0 ys k) : ascR zs a (m + 1) := by
  intro p q hp hpq hq
  by_cases e1 : p < i
  · rw [h.lo p (by omega)]
    by_cases e2 : q < i
    · rw [h.lo q (by omega)]; exact hs p q hp hpq (by omega)
    · by_cases e3 : q = i
      · rw [e3, h.here]; exact h1 p hp e1
      · rw [h.mid q (by omega) (by omega)]; exact hs p (q - 1) hp (by omega) (by omega)
  · by_cases e2 : p = i
    · rw [e2, h.here, h.mid q (by omega) (by omega)]; have := h2 (q - 1) (by omega) (by omega); omega
    · rw [h.mid p (by omega) (by omega), h.mid q (by omega) (by omega)]; exact hs (p - 1) (q - 1) (by omega) (by omega) (by omega)

/-! Turning a middle part -/
theorem at0_app_l {A B : List Int} {k : Nat} (h : k < A.length) : at0 (A ++ B) k = at0 A k := by simp [at0, List.getElem?_append_left h]
theorem at0_app_r {A B : List Int} {k : Nat} (h : A.length ≤ k) : at0 (A ++ B) k = at0 B (k - A.length) := by simp [at0, List.getElem?_append_right h]
/-- Where what stands at k behind a turn came from. -/
structure Rot (xs ys : List Int) (s m e : Nat) : Prop where
  len : ys.length = xs.length
  perm : ys.Perm xs
  out : ∀ k, k < s ∨ e ≤ k → at0 ys k = at0 xs k
  fst : ∀ k, s ≤ k → k < s + (e - m) → at0 ys k = at0 xs (k - s + m)
  snd : ∀ k, s + (e - m) ≤ k → k < e → at0 ys k = at0 xs (k - (e - m))
theorem rot_of {A X Y B : List Int} : Rot (A ++ X ++ Y ++ B) (A ++ Y ++ X ++ B) A.length (A.length + X.length) (A.length + X.length + Y.length) := by
  refine ⟨by simp; omega, ?_, fun k hk => ?_, fun k h1 h2 => ?_, fun k h1 h2 => ?_⟩
  · refine List.Perm.append_right B ?_
    rw [List.append_assoc, List.append_assoc]
    exact List.Perm.append_left A List.perm_append_comm
  · by_cases h : k < A.length
    · simp only [List.append_assoc]
      rw [at0_app_l h, at0_app_l h]
    · rw [at0_app_r (by simp; omega), at0_app_r (by simp; omega)]
      congr 1
      simp; omega
  · have e1 : at0 (A ++ Y ++ X ++ B) k = at0 Y (k - A.length) := by
      rw [at0_app_l (by simp; omega), at0_app_l (by simp; omega), at0_app_r h1]
    have e2 : at0 (A ++ X ++ Y ++ B) (k - A.length + (A.length + X.length)) = at0 Y (k - A.length) := by
      rw [at0_app_l (by simp; omega), at0_app_r (by simp)]
      congr 1
      simp
    rw [e1, e2]
  · have e1 : at0 (A ++ Y ++ X ++ B) k = at0 X (k - A.length - Y.length) := by
      rw [at0_app_l (by simp; omega), at0_app_r (by simp; omega)]
      congr 1
      simp; omega
    have e2 : at0 (A ++ X ++ Y ++ B) (k - (A.length + X.length + Y.length - (A.length + X.length))) = at0 X (k - A.length - Y.length) := by
      rw [at0_app_l (by simp; omega), at0_app_l (by simp; omega), at0_app_r (by omega)]
      congr 1
      omega
    rw [e1, e2]
theorem Rot.rp {xs ys : List Int} {s m e : Nat} (h : Rot xs ys s m e) (h1 : s ≤ m) (h2 : m ≤ e) : RP s e xs ys := by
  refine ⟨h.len, h.perm, h.out, fun k k1 k2 => ?_⟩
  by_cases hk : k < s + (e - m)
  · exact ⟨_, by omega, by omega, h.fst k k1 hk⟩
  · exact ⟨_, by omega, by omega, h.snd k (by omega) k2⟩
/-- A turn of what is less ahead of what is greater keeps the tags' way. -/
theorem Rot.stab {K : Int → Int} {xs ys : List Int} {s m e : Nat} (h : Rot xs ys s m e) (h1 : s ≤ m) (h2 : m ≤ e) (he : e ≤ xs.length) (hS : Stab K xs)
    (hlt : ∀ p q, s ≤ p → p < m → m ≤ q → q < e → at0 xs q < at0 xs p) : Stab K ys := by
  intro p q hpq hq hl
  rw [h.len] at hq
  have way : ∀ k, k < xs.length → ∃ j, j < xs.length ∧ at0 ys k = at0 xs j ∧ ((k < s ∨ e ≤ k) ∧ j = k ∨ (s ≤ k ∧ k < s + (e - m)) ∧ j = k - s + m ∨ (s + (e - m) ≤ k ∧ k < e) ∧ j = k - (e - m)) := by
    intro k hk
    by_cases c1 : k < s ∨ e ≤ k
    · exact ⟨k, hk, h.out k c1, .inl ⟨c1, rfl⟩⟩
    · by_cases c2 : k < s + (e - m)
      · exact ⟨_, by omega, h.fst k (by omega) c2, .inr (.inl ⟨by omega, rfl⟩)⟩
      · exact ⟨_, by omega, h.snd k (by omega) (by omega), .inr (.inr ⟨by omega, rfl⟩)⟩
  obtain ⟨i, i1, i2, i3⟩ := way p (by omega)
  obtain ⟨j, j1, j2, j3⟩ := way q hq
  rw [i2, j2] at hl ⊢
  by_cases hij : i < j
  · exact hS i j hij j1 hl
  · exfalso
    have := hlt j i
    omega

/-- What a merge by turning makes: both halves are in order, and all of the left one are at most those of the right one. -/
theorem asc_join {ys : List Int} {a m b : Nat} (h1 : ascR ys a m) (h2 : ascR ys m b) (h : ∀ p q, a ≤ p → p < m → m ≤ q → q < b → at0 ys p ≤ at0 ys q) : ascR ys a b := by
  intro p q hp hpq hq
  by_cases e1 : q < m
  · exact h1 p q hp hpq e1
  · by_cases e2 : p < m
    · exact h p q hp e2 (by omega) hq
    · exact h2 p q (by omega) hpq hq
theorem ascR.sub {ys : List Int} {a b c d : Nat} (h : ascR ys a b) (h1 : a ≤ c) (h2 : d ≤ b) : ascR ys c d := fun p q hp hpq hq => h p q (by omega) hpq (by omega)
theorem ascR.keep {xs ys : List Int} {a b c d : Nat} (h : ascR xs c d) (hr : RP a b xs ys) (hd : d ≤ a ∨ b ≤ c) : ascR ys c d := by
  intro p q hp hpq hq
  rw [hr.out p (by omega), hr.out q (by omega)]
  exact h p q hp hpq hq
theorem ascR_one (ys : List Int) (a : Nat) : ascR ys a (a + 1) := fun p q h1 h2 h3 => by omega
theorem ascR_nil (ys : List Int) {a b : Nat} (h : b ≤ a + 1) : ascR ys a b := fun p q h1 h2 h3 => by omega

/-- The whole of the turning merge: what stands behind the turn. -/
structure Turned (xs ys : List Int) (a s mid e b : Nat) : Prop where
  rp : RP a b xs ys
  l1 : ascR ys a s
  l2 : ascR ys s mid
  r1 : ascR ys mid e
  r2 : ascR ys e b
  le : ∀ p q, a ≤ p → p < mid → mid ≤ q → q < b → at0 ys p ≤ at0 ys q

theorem Rot.turned {xs ys : List Int} {a s m mid e b : Nat} (h : Rot xs ys s m e) (ha : a ≤ s) (hsm : s ≤ m) (hme : m ≤ e) (heb : e ≤ b) (hmid : s + (e - m) = mid)
    (hl : ascR xs a m) (hr : ascR xs m b) (hlt : ∀ p q, s ≤ p → p < m → m ≤ q → q < e → at0 xs q ≤ at0 xs p) (hle : ∀ p q, a ≤ p → p < s → e ≤ q → q < b → at0 xs p ≤ at0 xs q) :
    Turned xs ys a s mid e b := by
  have way : ∀ k, ∃ j, at0 ys k = at0 xs j ∧ ((k < s ∨ e ≤ k) ∧ j = k ∨ (s ≤ k ∧ k < mid) ∧ j = k - s + m ∨ (mid ≤ k ∧ k < e) ∧ j = k - (e - m)) := by
    intro k
    by_cases c1 : k < s ∨ e ≤ k
    · exact ⟨k, h.out k c1, .inl ⟨c1, rfl⟩⟩
    · by_cases c2 : k < mid
      · exact ⟨_, h.fst k (by omega) (by omega), .inr (.inl ⟨by omega, rfl⟩)⟩
      · exact ⟨_, h.snd k (by omega) (by omega), .inr (.inr ⟨by omega, rfl⟩)⟩
  refine ⟨(h.rp hsm hme).wide ha heb, ?_, ?_, ?_, ?_, ?_⟩ <;> intro p q
  · intro h1 h2 h3
    rw [h.out p (by omega), h.out q (by omega)]; exact hl p q h1 h2 (by omega)
  · intro h1 h2 h3
    rw [h.fst p (by omega) (by omega), h.fst q (by omega) (by omega)]; exact hr _ _ (by omega) (by omega) (by omega)
  · intro h1 h2 h3
    rw [h.snd p (by omega) (by omega), h.snd q (by omega) (by omega)]; exact hl _ _ (by omega) (by omega) (by omega)
  · intro h1 h2 h3
    rw [h.out p (by omega), h.out q (by omega)]; exact hr p q (by omega) h2 h3
  · intro h1 h2 h3 h4
    obtain ⟨i, i2, i3⟩ := way p
    obtain ⟨j, j2, j3⟩ := way q
    rw [i2, j2]
    by_cases c1 : p < s
    · have ei : i = p := by omega
      by_cases c2 : q < e
      · exact hl i j (by omega) (by omega) (by omega)
      · exact hle i j (by omega) (by omega) (by omega) (by omega)
    · by_cases c2 : q < e
      · exact hlt j i (by omega) (by omega) (by omega) (by omega)
      · exact hr i j (by omega) (by omega) (by omega)

/-- What the search of a turning merge has found. -/
structure Found (ts : List Int) (lo m hi mid s : Nat) : Prop where
  ls : lo ≤ s
  sm : s ≤ m
  sd : s ≤ mid
  me : m ≤ mid + m - s
  eh : mid + m - s ≤ hi
  lt : ∀ p q, s ≤ p → p < m → m ≤ q → q < mid + m - s → at0 ts q < at0 ts p
  le : ∀ p q, lo ≤ p → p < s → mid + m - s ≤ q → q < hi → at0 ts p ≤ at0 ts q

theorem ascR.le {ys : List Int} {a b p q : Nat} (h : ascR ys a b) (h1 : a ≤ p) (h2 : p ≤ q) (h3 : q < b) : at0 ys p ≤ at0 ys q := by
  by_cases e : p = q
  · subst e; omega
  · exact h p q h1 (by omega) h3

theorem found_of {ts : List Int} {lo m hi mid s s0 r0 : Nat} (hlm : lo < m) (hmh : m < hi) (hmid : mid = (lo + hi) / 2) (h0 : (mid < m ∧ s0 = mid + m - hi ∧ r0 = mid) ∨ (m ≤ mid ∧ s0 = lo ∧ r0 = m))
    (h1 : s0 ≤ s) (h2 : s ≤ r0) (hA : ascR ts lo m) (hB : ascR ts m hi)
    (hl : ∀ k, s0 ≤ k → k < s → ¬ at0 ts (mid + m - 1 - k) < at0 ts k) (hr : ∀ k, s ≤ k → k < r0 → at0 ts (mid + m - 1 - k) < at0 ts k) : Found ts lo m hi mid s := by
  refine ⟨by omega, by omega, by omega, by omega, by omega, fun p q p1 p2 q1 q2 => ?_, fun p q p1 p2 q1 q2 => ?_⟩
  · have hs : s < r0 := by omega
    have := hr s (Nat.le_refl _) hs
    have e1 := hA.le (p := s) (q := p) (by omega) p1 p2
    have e2 := hB.le (p := q) (q := mid + m - 1 - s) q1 (by omega) (by omega)
    omega
  · have hs : s0 < s := by omega
    have := hl (s - 1) (by omega) (by omega)
    have e0 : mid + m - 1 - (s - 1) = mid + m - s := by omega
    rw [e0] at this
    have e1 := hA.le (p := p) (q := s - 1) p1 (by omega) (by omega)
    have e2 := hB.le (p := mid + m - s) (q := q) (by omega) q1 q2
    omega

/-- A step of the search. -/
theorem srch_up {ts : List Int} {lo m hi mid s0 r0 s h : Nat} (hlm : lo < m) (hmh : m < hi) (hmid : mid = (lo + hi) / 2) (h0 : (mid < m ∧ s0 = mid + m - hi ∧ r0 = mid) ∨ (m ≤ mid ∧ s0 = lo ∧ r0 = m)) (hA : ascR ts lo m) (hB : ascR ts m hi)
    (hs0 : s0 ≤ s) (hh : h < r0) (ht : ¬ at0 ts (mid + m - 1 - h) < at0 ts h) :
    ∀ k, s0 ≤ k → k < h + 1 → ¬ at0 ts (mid + m - 1 - k) < at0 ts k := by
  intro k k1 k2
  have e1 := hA.le (p := k) (q := h) (by omega) (by omega) (by omega)
  have e2 := hB.le (p := mid + m - 1 - h) (q := mid + m - 1 - k) (by omega) (by omega) (by omega)
  omega
theorem srch_down {ts : List Int} {lo m hi mid s0 r0 h : Nat} (hlm : lo < m) (hmh : m < hi) (hmid : mid = (lo + hi) / 2) (h0 : (mid < m ∧ s0 = mid + m - hi ∧ r0 = mid) ∨ (m ≤ mid ∧ s0 = lo ∧ r0 = m)) (hA : ascR ts lo m) (hB : ascR ts m hi)
    (hs0 : s0 ≤ h) (ht : at0 ts (mid + m - 1 - h) < at0 ts h) :
    ∀ k, h ≤ k → k < r0 → at0 ts (mid + m - 1 - k) < at0 ts k := by
  intro k k1 k2
  have e1 := hA.le (p := h) (q := k) (by omega) (by omega) (by omega)
  have e2 := hB.le (p := mid + m - 1 - k) (q := mid + m - 1 - h) (by omega) (by omega) (by omega)
  omega

/-- A turn within a list. -/
theorem rot_split {ts : List Int} {s m e : Nat} (h1 : s ≤ m) (h2 : m ≤ e) (h3 : e ≤ ts.length) :
    ∃ A X Y B, ts = A ++ X ++ Y ++ B ∧ A.length = s ∧ s + X.length = m ∧ m + Y.length = e ∧ Rot ts (A ++ Y ++ X ++ B) s m e := by
  have e0 : ts = ts.take s ++ (ts.take m).drop s ++ (ts.take e).drop m ++ ts.drop e := by
    have a1 : ts.take s ++ (ts.take m).drop s = ts.take m := by
      have := List.take_append_drop s (ts.take m)
      rwa [List.take_take, Nat.min_eq_left h1] at this
    have a2 : ts.take m ++ (ts.take e).drop m = ts.take e := by
      have := List.take_append_drop m (ts.take e)
      rwa [List.take_take, Nat.min_eq_left h2] at this
    rw [a1, a2, List.take_append_drop]
  have l1 : (ts.take s).length = s := by simp; omega
  have l2 : ((ts.take m).drop s).length = m - s := by simp; omega
  have l3 : ((ts.take e).drop m).length = e - m := by simp; omega
  refine ⟨_, _, _, _, e0, l1, by omega, by omega, ?_⟩
  have := rot_of (A := ts.take s) (X := (ts.take m).drop s) (Y := (ts.take e).drop m) (B := ts.drop e)
  rw [← e0, l1, l2, l3] at this
  rw [show s + (m - s) = m by omega, show m + (e - m) = e by omega] at this
  exact this

/-- What stands behind both merges. -/
theorem merged {ts us vs zs : List Int} {lo s mid e hi : Nat} (hT : Turned ts us lo s mid e hi) (h1 : lo ≤ mid) (h2 : mid ≤ hi) (hv : RP lo mid us vs) (hva : ascR vs lo mid) (hz : RP mid hi vs zs) (hza : ascR zs mid hi) :
    RP lo hi ts zs ∧ ascR zs lo hi := by
  refine ⟨(hT.rp.trans (hv.wide (Nat.le_refl _) h2)).trans (hz.wide h1 (Nat.le_refl _)), asc_join (hva.keep hz (.inl (Nat.le_refl _))) hza ?_⟩
  intro p q p1 p2 q1 q2
  rw [hz.out p (by omega)]
  obtain ⟨i, i1, i2, ei⟩ := hv.inn p p1 p2
  obtain ⟨j, j1, j2, ej⟩ := hz.inn q q1 q2
  rw [ei, ej, hv.out j (by omega)]
  exact hT.le i j i1 i2 j1 j2

/-! Blocks -/
/-- Ascending in each block of n, up to the end. -/
def blkAsc (ys : List Int) (n lo hi : Nat) : Prop := ∀ k, lo ≤ k * n → k * n < hi → ascR ys (k * n) (min ((k + 1) * n) hi)
theorem blkAsc.all {ys : List Int} {n hi : Nat} (h : blkAsc ys n 0 hi) (hn : hi ≤ n) : ascR ys 0 hi := by
  by_cases h0 : hi = 0
  · exact ascR_nil _ (by omega)
  · have := h 0 (by omega) (by omega)
    simp only [Nat.zero_mul, Nat.zero_add, Nat.one_mul] at this
    rwa [Nat.min_eq_right hn] at this
theorem blkAsc_nil (ys : List Int) {n lo hi : Nat} (h : hi ≤ lo) : blkAsc ys n lo hi := fun k h1 h2 => by omega
theorem blkAsc.keep {xs ys : List Int} {n lo hi a b : Nat} (h : blkAsc xs n lo hi) (hr : RP a b xs ys) (hd : hi ≤ a ∨ b ≤ lo) : blkAsc ys n lo hi := fun k h1 h2 => (h k h1 h2).keep hr (by omega)
/-- One block more, at the end. -/
theorem blkAsc.snoc {ys : List Int} {n k : Nat} (h : blkAsc ys n 0 (k * n)) {hi : Nat} (h1 : k * n ≤ hi) (h2 : hi ≤ (k + 1) * n) (ha : ascR ys (k * n) hi) : blkAsc ys n 0 hi := by
  intro j j1 j2
  by_cases hj : j < k
  · have e1 : (j + 1) * n ≤ k * n := Nat.mul_le_mul_right n hj
    have e2 : j * n + n = (j + 1) * n := by rw [Nat.add_mul, Nat.one_mul]
    by_cases hn : n = 0
    · subst hn; exact ascR_nil _ (by omega)
    · have := h j (by omega) (by omega)
      rw [Nat.min_eq_left e1] at this
      rwa [Nat.min_eq_left (by omega)]
  · have hj2 : j = k := by
      have : ¬ k + 1 ≤ j := fun e => by
        have := Nat.mul_le_mul_right n e
        omega
      omega
    subst hj2
    rwa [Nat.min_eq_right h2]
/-- The first block of what is left. -/
theorem blkAsc.head {ys : List Int} {n lo hi k : Nat} (h : blkAsc ys n lo hi) (h1 : lo ≤ k * n) (h2 : (k + 1) * n ≤ hi) (hn : 0 < n) : ascR ys (k * n) ((k + 1) * n) := by
  have e2 : k * n + n = (k + 1) * n := by rw [Nat.add_mul, Nat.one_mul]
  have := h k h1 (by omega)
  rwa [Nat.min_eq_left h2] at this
theorem blkAsc.last {ys : List Int} {n lo hi k : Nat} (h : blkAsc ys n lo hi) (h1 : lo ≤ k * n) (h2 : k * n < hi) (h3 : hi ≤ (k + 1) * n) : ascR ys (k * n) hi := by
  have := h k h1 h2
  rwa [Nat.min_eq_right h3] at this
theorem blkAsc.sub {ys : List Int} {n lo lo' hi : Nat} (h : blkAsc ys n lo hi) (hl : lo ≤ lo') : blkAsc ys n lo' hi := fun k h1 h2 => h k (by omega) h2

/-! Tags -/
def tagK (M : Int) (t : Int) : Int := t / M
theorem tagK_mono {M : Int} (hM : 0 < M) : Mono (tagK M) := fun x y h => Int.ediv_le_ediv hM h

end Go.Proofs.YtncbkbfkdgggkaaDoor

namespace Go.Proofs.YtncbkbfkdgggkaaDoor
open Go.RowKit

theorem blk_snoc {ys zs : List Int} {s a b k : Nat} (ha : a = k * s) (h1 : a ≤ b) (h2 : b ≤ a + s) (h : blkAsc ys s 0 a) (hr : RP a b ys zs) (hz : ascR zs a b) : blkAsc zs s 0 b := by
  subst ha
  have e2 : k * s + s = (k + 1) * s := by rw [Nat.add_mul, Nat.one_mul]
  exact (h.keep hr (.inl (Nat.le_refl _))).snoc h1 (by omega) hz
theorem blk_half {s a k : Nat} (ha : a = k * (2 * s)) : a = (2 * k) * s ∧ a + s = (2 * k + 1) * s ∧ a + 2 * s = (2 * k + 1 + 1) * s := by
  have e1 : a = (2 * k) * s := by rw [ha, Nat.mul_left_comm, Nat.mul_assoc]
  refine ⟨e1, ?_, ?_⟩
  · rw [Nat.add_mul, Nat.one_mul, ← e1]
  · rw [Nat.add_mul, Nat.add_mul, Nat.one_mul, ← e1]; omega
theorem blk_l {ys : List Int} {s a k n : Nat} (ha : a = k * (2 * s)) (hs : 0 < s) (h : blkAsc ys s a n) (h1 : a + s ≤ n) : ascR ys a (a + s) := by
  obtain ⟨e1, e2, e3⟩ := blk_half ha
  have := h.head (k := 2 * k) (by omega) (by omega) hs
  rwa [← e1, ← e2] at this
theorem blk_r {ys : List Int} {s a k n : Nat} (ha : a = k * (2 * s)) (hs : 0 < s) (h : blkAsc ys s a n) (h1 : a + 2 * s ≤ n) : ascR ys (a + s) (a + 2 * s) := by
  obtain ⟨e1, e2, e3⟩ := blk_half ha
  have := h.head (k := 2 * k + 1) (by omega) (by omega) hs
  rwa [← e2, ← e3] at this
theorem blk_rn {ys : List Int} {s a k n : Nat} (ha : a = k * (2 * s)) (h : blkAsc ys s a n) (h1 : a + s < n) (h2 : n ≤ a + 2 * s) : ascR ys (a + s) n := by
  obtain ⟨e1, e2, e3⟩ := blk_half ha
  have := h.last (k := 2 * k + 1) (by omega) (by omega) (by omega)
  rwa [← e2] at this
theorem blk_ln {ys : List Int} {s a k n : Nat} (ha : a = k * (2 * s)) (h : blkAsc ys s a n) (h2 : n ≤ a + s) : ascR ys a n := by
  obtain ⟨e1, e2, e3⟩ := blk_half ha
  by_cases h1 : a < n
  · have := h.last (k := 2 * k) (by omega) (by omega) (by omega)
    rwa [← e1] at this
  · exact ascR_nil _ (by omega)
theorem blk_tail {ys zs : List Int} {s a b n : Nat} (h : blkAsc ys s a n) (h1 : a ≤ b) (hr : RP a b ys zs) : blkAsc zs s b n := (h.sub h1).keep hr (.inr (Nat.le_refl _))
theorem srt_asc {ts zs : List Int} {n : Nat} (hn : ts.length = n) (hp : RP 0 n ts zs) (ha : ascR zs 0 n) : zs = srt ts :=
  srt_of hp.perm (pw_of_at0 (fun p q h1 h2 => ha p q (Nat.zero_le _) h1 (by rw [hp.len] at h2; omega)))

end Go.Proofs.YtncbkbfkdgggkaaDoor

namespace Go.Proofs.YtncbkbfkdgggkaaDoor
open Go.RowKit

/-- An integer as a float32. -/
def fY (z : Int) : Nat := floatOfInt .f32 z
theorem fY_ok {z : Int} (h : z.natAbs ≤ 16777216) : isN .f32 (fY z) ∧ val .f32 (fY z) = (z : Rat) := ofInt_val (k := .f32) h

def sumG (s : Nat) (zs : List Int) : Nat := zs.foldl (fun s z => fo3 .add s (fY z)) s
def sumF (zs : List Int) : Nat := sumG 0 zs
theorem rat_le_of {a b : Int} (h : a ≤ b) : (a : Rat) ≤ (b : Rat) := Rat.intCast_le_intCast.2 h
theorem v32_0 : isN .f32 0 ∧ val .f32 0 = 0 := ⟨isN_of (by decide +kernel), by decide +kernel⟩
theorem sum_step {s : Nat} {n z : Int} (hs : isN .f32 s) (hv : val .f32 s = (n : Rat)) (hn : n.natAbs ≤ 400) (hz : z.natAbs ≤ 400) : fbin .add .f32 (some s) (some (fY z)) = some (fo3 .add s (fY z)) ∧ isN .f32 (fo3 .add s (fY z)) ∧ val .f32 (fo3 .add s (fY z)) = ((n + z : Int) : Rat) := by
  obtain ⟨z1, z2⟩ := fY_ok (z := z) (by omega)
  have e : val .f32 s + val .f32 (fY z) = ((n + z : Int) : Rat) := by rw [hv, z2, Rat.intCast_add]
  have l1 : ((-1024 : Int) : Rat) ≤ ((n + z : Int) : Rat) := rat_le_of (by omega)
  have l2 : ((n + z : Int) : Rat) ≤ ((1024 : Int) : Rat) := rat_le_of (by omega)
  have a := fo3_add hs z1 (by rw [e]; exact l1) (by rw [e]; exact l2)
  rw [e] at a
  exact ⟨a.1, a.2.1, a.2.2.exact (rep32i _ (by omega))⟩
theorem sumG_ok : ∀ (zs : List Int) {s : Nat} {n : Int}, isN .f32 s → val .f32 s = (n : Rat) → (∀ z ∈ zs, z.natAbs ≤ 6) → n.natAbs + 6 * zs.length ≤ 400 → isN .f32 (sumG s zs) ∧ val .f32 (sumG s zs) = ((n + zs.sum : Int) : Rat)
  | [], s, n, hs, hv, _, _ => ⟨hs, by show val .f32 s = _; rw [List.sum_nil, Int.add_zero]; exact hv⟩
  | z :: zs, s, n, hs, hv, hz, hl => by
    have h6 := hz z List.mem_cons_self
    simp only [List.length_cons] at hl
    obtain ⟨_, h2, h3⟩ := sum_step hs hv (z := z) (by omega) (by omega)
    obtain ⟨g1, g2⟩ := sumG_ok zs h2 h3 (fun y hy => hz y (List.mem_cons_of_mem _ hy)) (by omega)
    refine ⟨g1, ?_⟩
    show val .f32 (sumG (fo3 .add s (fY z)) zs) = _
    rw [g2, List.sum_cons, Int.add_assoc]
theorem sum_natAbs : ∀ (zs : List Int), (∀ z ∈ zs, z.natAbs ≤ 6) → zs.sum.natAbs ≤ 6 * zs.length
  | [], _ => by simp
  | z :: zs, h => by
    have h1 := h z List.mem_cons_self
    have h2 := sum_natAbs zs (fun y hy => h y (List.mem_cons_of_mem _ hy))
    rw [List.sum_cons, List.length_cons]
    omega
theorem sumF_ok {zs : List Int} (h : ∀ z ∈ zs, z.natAbs ≤ 6) (hl : zs.length ≤ 60) : isN .f32 (sumF zs) ∧ val .f32 (sumF zs) = (zs.sum : Rat) := by
  have := sumG_ok zs (s := 0) (n := 0) v32_0.1 (by rw [v32_0.2]; rfl) h (by simp; omega)
  rw [Int.zero_add] at this
  exact this
theorem sumF_snoc {zs : List Int} {k : Nat} (hk : k < zs.length) : sumF (zs.take (k + 1)) = fo3 .add (sumF (zs.take k)) (fY zs[k]) := by
  unfold sumF sumG
  rw [List.take_add_one, List.getElem?_eq_getElem hk, List.foldl_append]
  rfl

/-- The mean. -/
def meanF (zs : List Int) : Nat := fo3 .quo (sumF zs) (fY (zs.length : Int))
theorem quot_ex {s : Int} {c : Nat} (hc : 0 < c) (hs : s.natAbs ≤ 6 * c) : ∃ x : Rat, x * (c : Rat) = (s : Rat) ∧ -6 ≤ x ∧ x ≤ 6 := by
  have hc1 : (0 : Rat) < (c : Rat) := Rat.natCast_pos.2 hc
  obtain ⟨x, hx, _⟩ := div_ex (a := (s : Rat)) hc1
  refine ⟨x, hx, ?_, ?_⟩
  · refine Rat.le_of_mul_le_mul_right (c := (c : Rat)) ?_ hc1
    rw [hx]
    have h := rat_le_of (show -(6 * (c : Int)) ≤ s by omega)
    rw [Rat.intCast_neg, Rat.intCast_mul, Rat.intCast_natCast] at h
    have e : ((6 : Int) : Rat) = 6 := rfl
    rw [e] at h
    grind
  · refine Rat.le_of_mul_le_mul_right (c := (c : Rat)) ?_ hc1
    rw [hx]
    have h := rat_le_of (show s ≤ 6 * (c : Int) by omega)
    rw [Rat.intCast_mul, Rat.intCast_natCast] at h
    exact h
theorem mean_ok {zs : List Int} (h : ∀ z ∈ zs, z.natAbs ≤ 6) (hl : zs.length ≤ 60) (h0 : zs ≠ []) :
    fbin .quo .f32 (some (sumF zs)) (some (fY (zs.length : Int))) = some (meanF zs) ∧ isN .f32 (meanF zs) ∧ ∃ x : Rat, x * (zs.length : Rat) = (zs.sum : Rat) ∧ -6 ≤ x ∧ x ≤ 6 ∧ RN .f32 x (val .f32 (meanF zs)) := by
  have hp : 0 < zs.length := List.length_pos_iff.2 h0
  obtain ⟨x, hx, x1, x2⟩ := quot_ex hp (sum_natAbs zs h)
  obtain ⟨s1, s2⟩ := sumF_ok h hl
  obtain ⟨c1, c2⟩ := fY_ok (z := (zs.length : Int)) (by omega)
  rw [Rat.intCast_natCast] at c2
  have hcp : (0 : Rat) < (zs.length : Rat) := Rat.natCast_pos.2 hp
  have a := fo3_quo s1 c1 (by rw [c2]; grind) (by rw [s2, c2]; exact hx) (by grind) (by grind)
  exact ⟨a.1, a.2.1, x, hx, x1, x2, a.2.2⟩

/-- Smoothed numbers. -/
def smF (sh : Nat) (xs : List Int) : Nat → Nat
  | 0 => fY (at0 xs 0)
  | i + 1 => fo3 .add (smF sh xs i) (fo3 .mul sh (fo3 .sub (fY (at0 xs (i + 1))) (smF sh xs i)))
def cHalf : Nat := 1056964608
def cOne : Nat := 1065353216
theorem n_half3 : isN .f32 cHalf := isN_of (by decide +kernel)
theorem v_half3 : val .f32 cHalf = 1 / 2 := by decide +kernel
theorem n_one3 : isN .f32 cOne := isN_of (by decide +kernel)
theorem v_one3 : val .f32 cOne = 1 := by decide +kernel
/-- A step of the smoothing: all of its parts are numbers. -/
structure SmOk (sh x y : Nat) : Prop where
  d : fbin .sub .f32 (some y) (some x) = some (fo3 .sub y x)
  dN : isN .f32 (fo3 .sub y x)
  m : fbin .mul .f32 (some sh) (some (fo3 .sub y x)) = some (fo3 .mul sh (fo3 .sub y x))
  mN : isN .f32 (fo3 .mul sh (fo3 .sub y x))
  a : fbin .add .f32 (some x) (some (fo3 .mul sh (fo3 .sub y x))) = some (fo3 .add x (fo3 .mul sh (fo3 .sub y x)))
  aN : isN .f32 (fo3 .add x (fo3 .mul sh (fo3 .sub y x)))
theorem half_step {x : Nat} {y : Int} (hx : isN .f32 x) (h1 : -(6001 / 1000) ≤ val .f32 x) (h2 : val .f32 x ≤ 6001 / 1000) (hy : y.natAbs ≤ 6) :
    SmOk cHalf x (fY y) ∧ val .f32 (fo3 .add x (fo3 .mul cHalf (fo3 .sub (fY y) x))) ≤ (val .f32 x + (y : Rat)) / 2 + 1 / 100000 ∧ (val .f32 x + (y : Rat)) / 2 - 1 / 100000 ≤ val .f32 (fo3 .add x (fo3 .mul cHalf (fo3 .sub (fY y) x))) := by
  obtain ⟨y1, y2⟩ := fY_ok (z := y) (by omega)
  have b1 : (-6 : Rat) ≤ (y : Rat) := rat_le_of (a := -6) (by omega)
  have b2 : (y : Rat) ≤ 6 := rat_le_of (b := 6) (by omega)
  have a1 := fo3_sub y1 hx (by rw [y2]; grind) (by rw [y2]; grind)
  rw [y2] at a1
  have n1 := a1.2.2.near32 (by grind) (by grind)
  have a2 := fo3_mul n_half3 a1.2.1 (by rw [v_half3]; grind) (by rw [v_half3]; grind)
  rw [v_half3] at a2
  have n2 := a2.2.2.near32 (by grind) (by grind)
  have a3 := fo3_add hx a2.2.1 (by grind) (by grind)
  have n3 := a3.2.2.near32 (by grind) (by grind)
  exact ⟨⟨a1.1, a1.2.1, a2.1, a2.2.1, a3.1, a3.2.1⟩, by grind, by grind⟩
theorem one_step {x : Nat} {p y : Int} (hx : isN .f32 x) (hv : val .f32 x = (p : Rat)) (hp : p.natAbs ≤ 6) (hy : y.natAbs ≤ 6) :
    SmOk cOne x (fY y) ∧ val .f32 (fo3 .add x (fo3 .mul cOne (fo3 .sub (fY y) x))) = (y : Rat) := by
  obtain ⟨y1, y2⟩ := fY_ok (z := y) (by omega)
  have b1 : (-6 : Rat) ≤ (y : Rat) := rat_le_of (a := -6) (by omega)
  have b2 : (y : Rat) ≤ 6 := rat_le_of (b := 6) (by omega)
  have b3 : (-6 : Rat) ≤ (p : Rat) := rat_le_of (a := -6) (by omega)
  have b4 : (p : Rat) ≤ 6 := rat_le_of (b := 6) (by omega)
  have a1 := fo3_sub y1 hx (by rw [y2, hv]; grind) (by rw [y2, hv]; grind)
  rw [y2, hv] at a1
  have e1 : (y : Rat) - (p : Rat) = ((y - p : Int) : Rat) := (Rat.intCast_sub y p).symm
  rw [e1] at a1
  have v1 := a1.2.2.exact (rep32i _ (by omega))
  have a2 := fo3_mul n_one3 a1.2.1 (by rw [v_one3, v1, ← e1]; grind) (by rw [v_one3, v1, ← e1]; grind)
  rw [v_one3, v1, Rat.one_mul] at a2
  have v2 := a2.2.2.exact (rep32i _ (by omega))
  have a3 := fo3_add hx a2.2.1 (by rw [hv, v2, ← e1]; grind) (by rw [hv, v2, ← e1]; grind)
  rw [hv, v2, ← e1] at a3
  have e2 : (p : Rat) + ((y : Rat) - (p : Rat)) = (y : Rat) := by grind
  rw [e2] at a3
  exact ⟨⟨a1.1, a1.2.1, a2.1, a2.2.1, a3.1, a3.2.1⟩, a3.2.2.exact (rep32i _ (by omega))⟩
theorem sm_half {xs : List Int} (h : ∀ z ∈ xs, z.natAbs ≤ 6) : ∀ i, i < xs.length → isN .f32 (smF cHalf xs i) ∧ -(6001 / 1000) ≤ val .f32 (smF cHalf xs i) ∧ val .f32 (smF cHalf xs i) ≤ 6001 / 1000
  | 0, hi => by
    have h6 := h (at0 xs 0) (by unfold at0; rw [List.getElem?_eq_getElem hi]; exact List.getElem_mem hi)
    obtain ⟨y1, y2⟩ := fY_ok (z := at0 xs 0) (by omega)
    have b1 : (-6 : Rat) ≤ (at0 xs 0 : Rat) := rat_le_of (a := -6) (by omega)
    have b2 : (at0 xs 0 : Rat) ≤ 6 := rat_le_of (b := 6) (by omega)
    refine ⟨y1, ?_, ?_⟩
    · show _ ≤ val .f32 (fY (at0 xs 0)); rw [y2]; grind
    · show val .f32 (fY (at0 xs 0)) ≤ _; rw [y2]; grind
  | i + 1, hi => by
    obtain ⟨i1, i2, i3⟩ := sm_half h i (by omega)
    have h6 := h (at0 xs (i + 1)) (by unfold at0; rw [List.getElem?_eq_getElem hi]; exact List.getElem_mem hi)
    obtain ⟨s, u, l⟩ := half_step i1 i2 i3 h6
    have b1 : (-6 : Rat) ≤ (at0 xs (i + 1) : Rat) := rat_le_of (a := -6) (by omega)
    have b2 : (at0 xs (i + 1) : Rat) ≤ 6 := rat_le_of (b := 6) (by omega)
    exact ⟨s.aN, by show _ ≤ val .f32 (fo3 .add _ _); grind, by show val .f32 (fo3 .add _ _) ≤ _; grind⟩
theorem sm_one {xs : List Int} (h : ∀ z ∈ xs, z.natAbs ≤ 6) : ∀ i, i < xs.length → isN .f32 (smF cOne xs i) ∧ val .f32 (smF cOne xs i) = (at0 xs i : Rat)
  | 0, hi => by
    have h6 := h (at0 xs 0) (by unfold at0; rw [List.getElem?_eq_getElem hi]; exact List.getElem_mem hi)
    exact fY_ok (z := at0 xs 0) (by omega)
  | i + 1, hi => by
    obtain ⟨i1, i2⟩ := sm_one h i (by omega)
    have h5 := h (at0 xs i) (by unfold at0; rw [List.getElem?_eq_getElem (by omega)]; exact List.getElem_mem (by omega))
    have h6 := h (at0 xs (i + 1)) (by unfold at0; rw [List.getElem?_eq_getElem hi]; exact List.getElem_mem hi)
    obtain ⟨s, u⟩ := one_step i1 i2 h5 h6
    exact ⟨s.aN, u⟩

end Go.Proofs.YtncbkbfkdgggkaaDoor

namespace Go.Proofs.YtncbkbfkdgggkaaDoor
open Go.RowKit

/-- A window's value. -/
abbrev winV (L P : Int) (ta : Option Addr) (tl tc : Nat) (sa : Option Addr) (sl sc : Nat) : Value := .agg #[.int .i64 L, .int .i64 P, .slice ta tl tc, .slice sa sl sc]
abbrev winC (L P : Int) (ta : Option Addr) (tl tc : Nat) (sa : Option Addr) (sl sc : Nat) : Array Value := #[.int .i64 L, .int .i64 P, .slice ta tl tc, .slice sa sl sc]

theorem win_cells {w w2 : World} {L P : Int} {ta sa : Option Addr} {tl tc sl sc : Nat} {t : TypeId} (hb : Below (w.heap.size + 1) (w.alloc (.cells (winC L P ta tl tc sa sl sc) t)) w2) :
    w2.cell? ⟨w.heap.size, 0, none⟩ = some (.int .i64 L) ∧ w2.cell? ⟨w.heap.size, 1, none⟩ = some (.int .i64 P) ∧ w2.cell? ⟨w.heap.size, 2, none⟩ = some (.slice ta tl tc) ∧ w2.cell? ⟨w.heap.size, 3, none⟩ = some (.slice sa sl sc) := by
  refine ⟨?_, ?_, ?_, ?_⟩
  all_goals
    rw [hb.cell (by simp), World.cell?_alloc_at _ _ _ _ rfl]
    rfl

end Go.Proofs.YtncbkbfkdgggkaaDoor
