/- Windows: what is valid, in plain words. Powers and times in the reference's text. ValidWindow in the program's text. Lists in ascending order: what a sort makes of a list, in plain words. The least, the middle, the greatest and the most frequent of some numbers: plain. Sums, means and smoothed numbers of small integers in single precision: plain. The reference's windows: what is valid. ValidWindow in the program's text: the walk. A bit is brought into a window: what both texts make of the times and sizes, in plain words. FnWindows: the window's buckets are groups of the ones seen: plain. What a window keeps, in the program's text. -/
import Derived.Test.YtncbkbfkdgggkaaQWn3
import Derived.Laws.Entries
import Derived.Test.YtncbkbfkdgggkaaQWn2
import Derived.Test.YtncbkbfkdgggkaaQWn1
namespace Go.Proofs.Ytncbkbfkdgggkaa
open Go.RowKit

def at0 (xs : List Int) (k : Nat) : Int := xs[k]?.getD 0
def isPow (n : Int) : Bool := (List.range 21).any fun j => n == (2 : Int) ^ j
def timeOk (ts : List Int) (k : Nat) : Bool := inR (at0 ts k) 0 1000000 && (k == 0 || decide (at0 ts (k - 1) ≤ at0 ts k))
/-- How many sizes up to k are equal, at the end. -/
def runK (ss : List Int) : Nat → Int
  | 0 => 0
  | k + 1 => (if k = 0 ∨ at0 ss k ≠ at0 ss (k - 1) then 0 else runK ss k) + 1
def sizeOk (P : Int) (ss : List Int) (k : Nat) : Bool := isPow (at0 ss k) && (k == 0 || decide (at0 ss k ≤ at0 ss (k - 1))) && decide (runK ss (k + 1) ≤ P + 1)
def winB (L P : Int) (ts ss : List Int) : Bool :=
  inR L 1 1000000 && inR P 1 16 && decide (ts.length ≤ 128) && decide (ss.length = ts.length) && (List.range ts.length).all (timeOk ts) && (List.range ts.length).all (sizeOk P ss)

theorem winB_parts {L P : Int} {ts ss : List Int} (h : winB L P ts ss = true) :
    1 ≤ L ∧ L ≤ 1000000 ∧ 1 ≤ P ∧ P ≤ 16 ∧ ts.length ≤ 128 ∧ ss.length = ts.length ∧ (∀ k, k < ts.length → timeOk ts k = true) ∧ ∀ k, k < ts.length → sizeOk P ss k = true := by
  simp only [winB, Bool.and_eq_true, inR, decide_eq_true_eq, List.all_eq_true, List.mem_range] at h
  obtain ⟨⟨⟨⟨⟨⟨h1, h2⟩, h3, h4⟩, h5⟩, h6⟩, h7⟩, h8⟩ := h
  exact ⟨h1, h2, h3, h4, h5, h6, h7, h8⟩

theorem runK_bd (ss : List Int) (k : Nat) : 0 ≤ runK ss k ∧ runK ss k ≤ k := by
  induction k with
  | zero => simp [runK]
  | succ k ih =>
    unfold runK
    split <;> omega
theorem runK_zero (ss : List Int) : runK ss 1 = 1 := by simp [runK]
theorem runK_new {ss : List Int} {k : Nat} (h : at0 ss k ≠ at0 ss (k - 1)) : runK ss (k + 1) = 1 := by simp [runK, h]
theorem runK_same {ss : List Int} {k : Nat} (hk : 0 < k) (h : at0 ss k = at0 ss (k - 1)) : runK ss (k + 1) = runK ss k + 1 := by
  have : ¬ k = 0 := by omega
  simp [runK, h, this]

theorem isPow_bd {n : Int} (h : isPow n = true) : 1 ≤ n ∧ n ≤ 1048576 := by
  simp only [isPow, List.any_eq_true, List.mem_range, beq_iff_eq] at h
  obtain ⟨j, hj, rfl⟩ := h
  have h1 : (2 : Nat) ^ j ≤ 2 ^ 20 := Nat.pow_le_pow_right (by omega) (by omega)
  have h2 : 0 < (2 : Nat) ^ j := Nat.two_pow_pos j
  have h3 : ((2 : Int) ^ j) = (((2 : Nat) ^ j : Nat) : Int) := by simp
  rw [h3]
  omega

theorem pow_land_nat (n : Nat) (h1 : 1 ≤ n) : (n &&& (n - 1) = 0) ↔ ∃ j, n = 2 ^ j := by
  constructor
  · intro h
    refine ⟨n.log2, ?_⟩
    have hn : n ≠ 0 := by omega
    have hlo : 2 ^ n.log2 ≤ n := Nat.log2_self_le hn
    have hhi : n < 2 ^ (n.log2 + 1) := Nat.lt_log2_self
    by_cases he : n = 2 ^ n.log2
    · exact he
    · exfalso
      have hp := Nat.two_pow_pos n.log2
      have hb : (n &&& (n - 1)).testBit n.log2 = true := by
        rw [Nat.testBit_and]
        have e : ∀ m, 2 ^ n.log2 ≤ m → m < 2 ^ (n.log2 + 1) → m.testBit n.log2 = true := by
          intro m h2 h3
          rw [Nat.testBit_eq_decide_div_mod_eq]
          have : m / 2 ^ n.log2 = 1 := by
            rw [Nat.pow_succ] at h3
            exact Nat.div_eq_of_lt_le (by omega) (by omega)
          simp [this]
        rw [e n hlo hhi, e (n - 1) (by omega) (by omega)]
        rfl
      rw [h] at hb
      simp at hb
  · rintro ⟨j, rfl⟩
    apply Nat.eq_of_testBit_eq
    intro i
    rw [Nat.testBit_and, Nat.testBit_two_pow, Nat.testBit_two_pow_sub_one]
    simp
    omega

theorem isPow_nat (n : Nat) (h1 : 1 ≤ n) (h2 : n ≤ 1048576) : isPow (n : Int) = decide (n &&& (n - 1) = 0) := by
  rw [Bool.eq_iff_iff, decide_eq_true_eq, pow_land_nat n h1]
  simp only [isPow, List.any_eq_true, List.mem_range, beq_iff_eq]
  constructor
  · rintro ⟨j, hj, h⟩
    refine ⟨j, ?_⟩
    have h3 : ((2 : Int) ^ j) = (((2 : Nat) ^ j : Nat) : Int) := by simp
    rw [h3] at h
    omega
  · rintro ⟨j, rfl⟩
    have hj : j < 21 := by
      by_cases h : j < 21
      · exact h
      · have : (2 : Nat) ^ 21 ≤ 2 ^ j := Nat.pow_le_pow_right (by omega) (by omega)
        omega
    exact ⟨j, hj, by simp⟩

theorem bits_and_small (a b : Nat) (ha : a < 2097152) (hb : b < 2097152) : bits .and .i64 (a : Int) (b : Int) = ((a &&& b : Nat) : Int) := by
  have hl : a &&& b ≤ a := Nat.and_le_left
  have e1 : (BitVec.ofInt 64 (a : Int)).toNat = a := by
    rw [BitVec.ofInt_natCast, BitVec.toNat_ofNat]; omega
  have e2 : (BitVec.ofInt 64 (b : Int)).toNat = b := by
    rw [BitVec.ofInt_natCast, BitVec.toNat_ofNat]; omega
  show IntKind.i64.wrap ((BitVec.ofInt 64 (a : Int) &&& BitVec.ofInt 64 (b : Int)).toNat) = _
  rw [BitVec.toNat_and, e1, e2]
  generalize a &&& b = r at hl
  exact IntWalk.i64_in _ (by omega)

/-- The program's test on a size. -/
theorem pow_test {s : Int} (h1 : 1 ≤ s) (h2 : s ≤ 1048576) : (bits .and .i64 s (s - 1) != 0) = !isPow s := by
  obtain ⟨n, rfl⟩ : ∃ n : Nat, s = (n : Int) := ⟨s.toNat, by omega⟩
  rw [isPow_nat n (by omega) (by omega), show ((n : Int) - 1) = ((n - 1 : Nat) : Int) by omega, bits_and_small n (n - 1) (by omega) (by omega)]
  rw [Bool.eq_iff_iff]
  simp

theorem isPow_out {s : Int} (h : inR s 1 1048576 = false) : isPow s = false := by
  cases hp : isPow s with
  | false => rfl
  | true =>
    have := isPow_bd hp
    simp [inR] at h
    omega
theorem sizeOk_pow {P : Int} {ss : List Int} {k : Nat} {s : Int} (hs : at0 ss k = s) (h : isPow s = false) : sizeOk P ss k = false := by simp [sizeOk, hs, h]
theorem sizeOk_gt {P : Int} {ss : List Int} {m : Nat} {s p : Int} (hs : at0 ss (m + 1) = s) (hp : at0 ss m = p) (h : p < s) : sizeOk P ss (m + 1) = false := by
  simp only [sizeOk, hs, Nat.add_sub_cancel, hp]
  simp
  omega
theorem sizeOk_run {P : Int} {ss : List Int} {k : Nat} (h : P + 1 < runK ss (k + 1)) : sizeOk P ss k = false := by
  simp only [sizeOk]
  simp
  omega
theorem sizeOk_first {P : Int} {ss : List Int} {s : Int} (hs : at0 ss 0 = s) (h : isPow s = true) (hP : 1 ≤ P) : sizeOk P ss 0 = true := by
  have := runK_zero ss
  simp only [sizeOk, hs, h]
  simp
  omega
theorem sizeOk_next {P : Int} {ss : List Int} {m : Nat} {s p : Int} (hs : at0 ss (m + 1) = s) (hp : at0 ss m = p) (h : isPow s = true) (hle : s ≤ p) (hr : runK ss (m + 1 + 1) ≤ P + 1) : sizeOk P ss (m + 1) = true := by
  simp only [sizeOk, hs, Nat.add_sub_cancel, hp, h]
  simp
  omega
theorem runK_less {ss : List Int} {m : Nat} {s p : Int} (hs : at0 ss (m + 1) = s) (hp : at0 ss m = p) (h : s < p) : runK ss (m + 1 + 1) = 1 := by
  refine runK_new ?_
  rw [Nat.add_sub_cancel, hs, hp]; omega
theorem runK_eq {ss : List Int} {m : Nat} {s p : Int} (hs : at0 ss (m + 1) = s) (hp : at0 ss m = p) (h : s = p) : runK ss (m + 1 + 1) = runK ss (m + 1) + 1 := by
  refine runK_same (by omega) ?_
  rw [Nat.add_sub_cancel, hs, hp]; exact h
theorem timeOk_out {ts : List Int} {k : Nat} {t : Int} (ht : at0 ts k = t) (h : inR t 0 1000000 = false) : timeOk ts k = false := by simp [timeOk, ht, h]
theorem timeOk_lt {ts : List Int} {m : Nat} {t p : Int} (ht : at0 ts (m + 1) = t) (hp : at0 ts m = p) (h : t < p) : timeOk ts (m + 1) = false := by
  simp only [timeOk, ht, Nat.add_sub_cancel, hp]
  simp
  omega
theorem timeOk_first {ts : List Int} {t : Int} (ht : at0 ts 0 = t) (h : inR t 0 1000000 = true) : timeOk ts 0 = true := by simp [timeOk, ht, h]
theorem timeOk_next {ts : List Int} {m : Nat} {t p : Int} (ht : at0 ts (m + 1) = t) (hp : at0 ts m = p) (h : inR t 0 1000000 = true) (hle : p ≤ t) : timeOk ts (m + 1) = true := by
  simp only [timeOk, ht, Nat.add_sub_cancel, hp, h]
  simp
  omega

theorem winB_L {L P : Int} {ts ss : List Int} (h : inR L 1 1000000 = false) : winB L P ts ss = false := by simp [winB, h]
theorem winB_P {L P : Int} {ts ss : List Int} (h : inR P 1 16 = false) : winB L P ts ss = false := by simp [winB, h]
theorem winB_long {L P : Int} {ts ss : List Int} (h : ¬ ts.length ≤ 128) : winB L P ts ss = false := by simp [winB, h]
theorem winB_len {L P : Int} {ts ss : List Int} (h : ¬ ss.length = ts.length) : winB L P ts ss = false := by simp [winB, h]
theorem winB_time {L P : Int} {ts ss : List Int} {k : Nat} (hk : k < ts.length) (h : timeOk ts k = false) : winB L P ts ss = false := by
  have : (List.range ts.length).all (timeOk ts) = false := by
    rw [List.all_eq_false]; exact ⟨k, by simpa using hk, by simp [h]⟩
  simp [winB, this]
theorem winB_times {L P : Int} {ts ss : List Int} (h : (List.range ts.length).all (timeOk ts) = false) : winB L P ts ss = false := by simp [winB, h]
theorem winB_size {L P : Int} {ts ss : List Int} {k : Nat} (hk : k < ts.length) (h : sizeOk P ss k = false) : winB L P ts ss = false := by
  have : (List.range ts.length).all (sizeOk P ss) = false := by
    rw [List.all_eq_false]; exact ⟨k, by simpa using hk, by simp [h]⟩
  simp [winB, this]
theorem winB_yes {L P : Int} {ts ss : List Int} (h1 : inR L 1 1000000 = true) (h2 : inR P 1 16 = true) (h3 : ts.length ≤ 128) (h4 : ss.length = ts.length) (h5 : (List.range ts.length).all (timeOk ts) = true) (h6 : ∀ j, j < ts.length → sizeOk P ss j = true) : winB L P ts ss = true := by
  have h7 : (List.range ts.length).all (sizeOk P ss) = true := by
    rw [List.all_eq_true]; intro j hj; exact h6 j (by simpa using hj)
  simp [winB, h1, h2, h3, h4, h5, h7]

def ascB (ts : List Int) : Bool := (List.range ts.length).all fun k => k == 0 || decide (at0 ts (k - 1) ≤ at0 ts k)
theorem times_and (ts : List Int) : (List.range ts.length).all (timeOk ts) = (ts.all (fun x => inR x 0 1000000) && ascB ts) := by
  rw [Bool.eq_iff_iff]
  simp only [ascB, timeOk, Bool.and_eq_true, List.all_eq_true, List.mem_range]
  constructor
  · intro h
    refine ⟨fun x hx => ?_, fun k hk => (h k hk).2⟩
    obtain ⟨k, hk, rfl⟩ := List.mem_iff_getElem.1 hx
    have := (h k hk).1
    simpa [at0, hk] using this
  · rintro ⟨h1, h2⟩ k hk
    refine ⟨?_, h2 k hk⟩
    have := h1 _ (List.getElem_mem hk)
    simpa [at0, hk] using this
theorem ascB_no {ts : List Int} {m : Nat} (hm : m + 1 < ts.length) (h : at0 ts (m + 1) < at0 ts m) : ascB ts = false := by
  unfold ascB
  rw [List.all_eq_false]
  refine ⟨m + 1, by simpa using hm, ?_⟩
  rw [Nat.add_sub_cancel]
  simp
  omega
theorem ascB_yes {ts : List Int} (h : ∀ j, 0 < j → j < ts.length → at0 ts (j - 1) ≤ at0 ts j) : ascB ts = true := by
  unfold ascB
  rw [List.all_eq_true]
  intro k hk
  simp only [List.mem_range] at hk
  by_cases h0 : k = 0
  · simp [h0]
  · have := h k (by omega) hk
    simp [this]
end Go.Proofs.Ytncbkbfkdgggkaa

namespace Go.Proofs.Ytncbkbfkdgggkaa
open Go.RowKit

theorem pw_cast (j : Nat) : ((2 : Int) ^ j) = (((2 : Nat) ^ j : Nat) : Int) := by simp
theorem pw_le {j : Nat} (h : (2 : Int) ^ j ≤ 1048576) : j ≤ 20 := by
  by_cases hj : j ≤ 20
  · exact hj
  · have : (2 : Nat) ^ 21 ≤ 2 ^ j := Nat.pow_le_pow_right (by omega) (by omega)
    rw [pw_cast] at h
    omega
theorem pw_big {j : Nat} (h : ¬ (2 : Int) ^ j ≤ 1048576) : 21 ≤ j := by
  by_cases hj : 21 ≤ j
  · exact hj
  · have : (2 : Nat) ^ j ≤ 2 ^ 20 := Nat.pow_le_pow_right (by omega) (by omega)
    rw [pw_cast] at h
    omega
theorem pw_pos (j : Nat) : 1 ≤ (2 : Int) ^ j := by
  have := Nat.two_pow_pos j
  rw [pw_cast]; omega
theorem isPow_not {n : Int} {j : Nat} (hj : 21 ≤ j) (h : ∀ i, i < j → ¬ (2 : Int) ^ i = n) : isPow n = false := by
  cases hp : isPow n with
  | false => rfl
  | true =>
    simp only [isPow, List.any_eq_true, List.mem_range, beq_iff_eq] at hp
    obtain ⟨i, hi, rfl⟩ := hp
    exact absurd rfl (h i (by omega))
theorem isPow_at {n : Int} {j : Nat} (hj : j ≤ 20) (h : (2 : Int) ^ j = n) : isPow n = true := by
  simp only [isPow, List.any_eq_true, List.mem_range, beq_iff_eq]
  exact ⟨j, by omega, h.symm⟩

end Go.Proofs.Ytncbkbfkdgggkaa

namespace Go.Proofs.Ytncbkbfkdgggkaa
open Go.RowKit

theorem isNaNi_any {x : Int} {w : World} : Calls Try.prog 47 #[.int .i64 x] w fun e w' => e = .returned (.bool false) ∧ w = w' := by
  go_enter Try.func47, Try.ntmps47
  go_wp2
  go_ret
  exact ⟨ret_bool (by simp), rfl⟩
theorem lessi_any {x y : Int} {w : World} : Calls Try.prog 44 #[.int .i64 x, .int .i64 y] w fun e w' => e = .returned (.bool (decide (x < y))) ∧ w = w' := by
  go_enter Try.func44, Try.ntmps44
  go_wp2_with (go_at_call 47; refine isNaNi_any.mono ?_; rintro e w1 ⟨rfl, rfl⟩)
  go_ret
  exact ⟨rfl, rfl⟩
theorem lessi_quiet {x y : Int} {w : World} {n : Nat} : Calls Try.prog 44 #[.int .i64 x, .int .i64 y] (w.drewN n) fun e w'' => e = .returned (.bool (decide (x < y))) ∧ ∃ m, w'' = w.drewN m :=
  lessi_any.mono fun _ _ ⟨he, hw⟩ => ⟨he, n, hw.symm⟩

theorem drewN_more {w wr : World} (h : ∃ n, wr = w.drewN n) (m : Nat) : ∃ n, wr.drewN m = w.drewN n := by
  obtain ⟨n, rfl⟩ := h
  exact ⟨_, World.drewN_drewN _ _ _⟩
theorem at0_cell {w : World} {a : Option Addr} {c : Nat} {xs : List Int} (hr : Rd (Value.int .i64) w a c xs) {k : Nat} (hk : k < xs.length) {x : Int} (hx : at0 xs k = x) : w.cell? (elt a k) = some (.int .i64 x) := by
  rw [hr.cell k hk, ← hx]; rfl

set_option maxHeartbeats 800000 in
theorem isSorted_any {a : Option Addr} {c : Nat} {xs : List Int} {w : World} (hr : Rd (Value.int .i64) w a c xs) :
    Calls Try.prog 39 #[.slice a xs.length c] w fun e w' => e = .returned (.bool (ascB xs)) ∧ ∃ n, w' = w.drewN n := by
  have hln := hr.len
  go_enter Try.func39, Try.ntmps39
  go_wp2
  go_loopw [3] (fun i wr => ∃ (z : Int), -1 ≤ z ∧ z < xs.length ∧ i = .int .i64 z ∧ Hid (∀ j : Nat, 0 < j → j < xs.length → z < j → at0 xs (j - 1) ≤ at0 xs j) ∧ Hid (∃ n, wr = w.drewN n)) (fun i _ => (intOf i).toNat)
  case atStart => exact ⟨_, by omega, by omega, rfl, by show ∀ j : Nat, _; intro j _ _ _; omega, by show ∃ n, _; exact ⟨0, rfl⟩⟩
  case round =>
    obtain ⟨z, hz1, hz2, rfl, HA, HN⟩ := hrel
    have hbr : Below w.heap.size w wr := by obtain ⟨n, hn⟩ := HN.out; rw [hn]; exact below_of_drewN _ _ _
    have hr := hr.below hbr (Nat.le_refl _)
    clear hbr
    by_cases h0 : 0 < z
    · obtain ⟨m, rfl⟩ : ∃ m : Nat, z = (m : Int) + 1 := ⟨(z - 1).toNat, by omega⟩
      have hm1 : m + 1 < xs.length := by omega
      obtain ⟨x, hx⟩ : ∃ x, at0 xs (m + 1) = x := ⟨_, rfl⟩
      obtain ⟨y, hy⟩ : ∃ x, at0 xs m = x := ⟨_, rfl⟩
      have hcx := at0_cell hr (by omega) hx
      have hcy := at0_cell hr (by omega) hy
      have hi0 := rd_idxAt hr und_is siz_is (m + 1) (by omega) ((m : Int) + 1) (by omega)
      have hi1 := rd_idxAt hr und_is siz_is m (by omega) (m : Int) (by omega)
      have HX := Lib.hid hx
      have HY := Lib.hid hy
      have ew : IntKind.i64.wrap (m : Int) = (m : Int) := IntWalk.i64_in _ (by omega)
      have ew1 : IntKind.i64.wrap ((m : Int) + 1) = (m : Int) + 1 := IntWalk.i64_in _ (by omega)
      clear hx hy
      by_cases hlt : x < y
      · go_wp2_with fail
        go_quiet ((go_at_call 44; exact lessi_quiet))
        go_wp2
        go_ret
        exact ⟨ret_bool (ascB_no (m := m) hm1 (by rw [HX.out, HY.out]; exact hlt)).symm, drewN_more HN.out _⟩
      · have hd : decide (x < y) = false := by simpa using hlt
        go_wp2_with fail
        go_quiet ((go_at_call 44; exact lessi_quiet))
        go_wp2
        go_roundw
        case rel =>
          refine ⟨(m : Int), by omega, by omega, rfl, ?_, drewN_more HN.out _⟩
          show ∀ j : Nat, _
          intro j hj1 hj2 hj3
          by_cases hj : j = m + 1
          · subst hj; rw [Nat.add_sub_cancel, HX.out, HY.out]; omega
          · exact HA.out j hj1 hj2 (by omega)
        case measure => simp [intOf]
    · go_wp2
      go_ret
      exact ⟨ret_bool (ascB_yes fun j h1 h2 => HA.out j h1 h2 (by omega)).symm, HN.out⟩

theorem areTimes_any {a : Option Addr} {c : Nat} {xs : List Int} {w : World} (hr : Rd (Value.int .i64) w a c xs) :
    Calls Try.prog 25 #[.slice a xs.length c] w fun e w' => e = .returned (.bool ((List.range xs.length).all (timeOk xs))) ∧ Below w.heap.size w w' := by
  rw [times_and]
  cases h : xs.all (fun x => inR x 0 1000000) with
  | false =>
    go_enter Try.func25, Try.ntmps25
    go_wp2_with fail
    refine (areWithin_any a c xs 0 1000000 w hr).mono ?_
    rintro e w1 ⟨rfl, hb1⟩
    go_wp2
    go_ret
    exact ⟨ret_bool (by simp), hb1⟩
  | true =>
    go_enter Try.func25, Try.ntmps25
    go_wp2_with fail
    refine (areWithin_any a c xs 0 1000000 w hr).mono ?_
    rintro e w1 ⟨rfl, hb1⟩
    rw [h]
    go_wp2_with fail
    refine (isSorted_any (hr.below hb1 (Nat.le_refl _))).mono ?_
    rintro e w2 ⟨rfl, n, rfl⟩
    go_wp2
    go_ret
    exact ⟨ret_bool (by simp), hb1.trans (below_of_drewN _ _ _)⟩

theorem isTime_any {x : Int} {w : World} : Calls Try.prog 27 #[.int .i64 x] w fun e w' => e = .returned (.bool (inR x 0 1000000)) ∧ w = w' := by
  go_enter Try.func27, Try.ntmps27
  go_wp2_with fail
  refine (within_any _ _ _ _).mono ?_
  rintro e w1 ⟨rfl, rfl⟩
  go_wp2
  go_ret
  exact ⟨rfl, rfl⟩

end Go.Proofs.Ytncbkbfkdgggkaa

namespace Go.Proofs.Ytncbkbfkdgggkaa
open Go.RowKit

theorem eq_of_perm_sorted : ∀ (xs ys : List Int), xs.Perm ys → xs.Pairwise (· ≤ ·) → ys.Pairwise (· ≤ ·) → xs = ys := by
  intro xs
  induction xs with
  | nil => intro ys h _ _; exact (List.Perm.nil_eq h)
  | cons x xs ih =>
    intro ys h h1 h2
    cases ys with
    | nil => exact absurd h.symm (by simp)
    | cons y ys =>
      rw [List.pairwise_cons] at h1 h2
      have hxy : x = y := by
        have hx : x ∈ y :: ys := h.subset (List.mem_cons_self ..)
        have hy : y ∈ x :: xs := h.symm.subset (List.mem_cons_self ..)
        rcases List.mem_cons.1 hx with e | hx
        · exact e
        · rcases List.mem_cons.1 hy with e | hy
          · exact e.symm
          · have a := h1.1 y hy
            have b := h2.1 x hx
            omega
      subst hxy
      rw [ih ys h.cons_inv h1.2 h2.2]

/-- The list in ascending order. -/
def srt (xs : List Int) : List Int := xs.mergeSort fun x y => decide (x ≤ y)
theorem srt_perm (xs : List Int) : (srt xs).Perm xs := List.mergeSort_perm _ _
theorem srt_len (xs : List Int) : (srt xs).length = xs.length := (srt_perm xs).length_eq
theorem srt_pw (xs : List Int) : (srt xs).Pairwise (· ≤ ·) := by
  have := List.pairwise_mergeSort (le := fun x y : Int => decide (x ≤ y)) (by intro a b c h1 h2; simp at *; omega) (by intro a b; simp; omega) xs
  exact this.imp (by intro a b h; simpa using h)
theorem srt_of {xs ys : List Int} (hp : ys.Perm xs) (hs : ys.Pairwise (· ≤ ·)) : ys = srt xs := eq_of_perm_sorted _ _ (hp.trans (srt_perm xs).symm) hs (srt_pw xs)

theorem pw_of_at0 {ys : List Int} (h : ∀ a b, a < b → b < ys.length → at0 ys a ≤ at0 ys b) : ys.Pairwise (· ≤ ·) := by
  rw [List.pairwise_iff_getElem]
  intro i j hi hj hij
  have := h i j hij hj
  simpa [at0, hi, hj] using this

/-- Two neighbours change places. -/
def swp (ys : List Int) (k : Nat) : List Int := (ys.set k (at0 ys (k - 1))).set (k - 1) (at0 ys k)
theorem swp_len (ys : List Int) (k : Nat) : (swp ys k).length = ys.length := by simp [swp]
theorem at0_set (ys : List Int) (k : Nat) (x : Int) (hk : k < ys.length) (j : Nat) : at0 (ys.set k x) j = if j = k then x else at0 ys j := by
  unfold at0
  rw [List.getElem?_set]
  by_cases h : j = k
  · subst h; simp [hk]
  · rw [if_neg (fun e => h e.symm), if_neg h]
theorem at0_swp {ys : List Int} {k : Nat} (h0 : 0 < k) (hk : k < ys.length) (j : Nat) : at0 (swp ys k) j = if j = k - 1 then at0 ys k else if j = k then at0 ys (k - 1) else at0 ys j := by
  unfold swp
  rw [at0_set _ _ _ (by simp; omega), at0_set _ _ _ hk]
theorem swp_perm {ys : List Int} {k : Nat} (h0 : 0 < k) (hk : k < ys.length) : (swp ys k).Perm ys := by
  obtain ⟨A, a, b, B, hA, he⟩ : ∃ A a b B, A.length = k - 1 ∧ ys = A ++ a :: b :: B := by
    refine ⟨ys.take (k - 1), ys[k - 1], ys[k - 1 + 1], ys.drop (k - 1 + 1 + 1), by simp; omega, ?_⟩
    rw [List.getElem_cons_drop, List.getElem_cons_drop, List.take_append_drop]
  have e1 : at0 ys (k - 1) = a := by
    subst he; simp [at0, ← hA]
  have e2 : at0 ys k = b := by
    subst he
    have : k = A.length + 1 := by omega
    subst this
    simp [at0]
  have e3 : swp ys k = A ++ b :: a :: B := by
    unfold swp
    rw [e1, e2, he]
    have : k = A.length + 1 := by omega
    subst this
    simp [List.set_append_right]
  rw [e3, he]
  exact List.Perm.append_left A (List.Perm.swap a b B)

/-- Ascending up to i, but for what stands at k. -/
structure Ins (ys : List Int) (k i : Nat) : Prop where
  a : ∀ p q, p < q → q ≤ i → p ≠ k → q ≠ k → at0 ys p ≤ at0 ys q
  b : ∀ q, k < q → q ≤ i → at0 ys k ≤ at0 ys q
def asc (ys : List Int) (n : Nat) : Prop := ∀ p q, p < q → q < n → at0 ys p ≤ at0 ys q
theorem ins_start {ys : List Int} {i : Nat} (h : asc ys i) : Ins ys i i := ⟨fun p q h1 h2 _ h4 => h p q h1 (by omega), fun q h1 h2 => by omega⟩
theorem ins_step {ys : List Int} {k i : Nat} (h0 : 0 < k) (hk : k ≤ i) (hi : i < ys.length) (h : Ins ys k i) (hl : at0 ys k < at0 ys (k - 1)) : Ins (swp ys k) (k - 1) i := by
  refine ⟨fun p q h1 h2 h3 h4 => ?_, fun q h1 h2 => ?_⟩
  · rw [at0_swp h0 (by omega), at0_swp h0 (by omega), if_neg h3, if_neg h4]
    by_cases hp : p = k
    · rw [if_pos hp, if_neg (by omega)]
      exact h.a (k - 1) q (by omega) h2 (by omega) (by omega)
    · rw [if_neg hp]
      by_cases hq : q = k
      · rw [if_pos hq]
        exact h.a p (k - 1) (by omega) (by omega) hp (by omega)
      · rw [if_neg hq]
        exact h.a p q h1 h2 hp hq
  · rw [at0_swp h0 (by omega), at0_swp h0 (by omega), if_pos rfl, if_neg (by omega)]
    by_cases hq : q = k
    · rw [if_pos hq]; omega
    · rw [if_neg hq]
      exact h.b q (by omega) h2
theorem ins_end {ys : List Int} {k i : Nat} (hk : k ≤ i) (h : Ins ys k i) (he : k = 0 ∨ at0 ys (k - 1) ≤ at0 ys k) : asc ys (i + 1) := by
  intro p q h1 h2
  by_cases hp : p = k
  · rw [hp]; exact h.b q (by omega) (by omega)
  · by_cases hq : q = k
    · have h3 : at0 ys (k - 1) ≤ at0 ys k := by rcases he with e | e <;> omega
      by_cases hpk : p = k - 1
      · rw [hq, hpk]; exact h3
      · have := h.a p (k - 1) (by omega) (by omega) hp (by omega)
        rw [hq]; omega
    · exact h.a p q h1 (by omega) hp hq
theorem asc_one (ys : List Int) : asc ys 1 := fun p q h1 h2 => by omega
theorem asc_zero (ys : List Int) : asc ys 0 := fun p q h1 h2 => by omega

/-- The number that is most often in an ascending list, the first of them: the best one and how often, after k numbers. -/
def oft (ys : List Int) : Nat → Int × Int
  | 0 => (at0 ys 0, 0)
  | k + 1 => if (oft ys k).2 < runK ys (k + 1) then (at0 ys k, runK ys (k + 1)) else oft ys k
def oftR (ys : List Int) : Int := (oft ys ys.length).1
/-- The last ones of an index. -/
def lastL (xs : List Int) (long : Int) (i : Nat) : List Int := (xs.take (i + 1)).drop ((i : Int) - long + 1).toNat
theorem oft_bd (ys : List Int) (k : Nat) : 0 ≤ (oft ys k).2 ∧ (oft ys k).2 ≤ k := by
  induction k with
  | zero => simp [oft]
  | succ k ih =>
    have := runK_bd ys (k + 1)
    unfold oft
    split
    · simp; omega
    · omega

end Go.Proofs.Ytncbkbfkdgggkaa

namespace Go.Proofs.Ytncbkbfkdgggkaa
open Go.RowKit

def minL (zs : List Int) : Int := zs.foldl min (zs.headD 0)
def maxL (zs : List Int) : Int := zs.foldl max (zs.headD 0)
theorem foldl_min_le : ∀ (zs : List Int) (a : Int), zs.foldl min a ≤ a ∧ ∀ z ∈ zs, zs.foldl min a ≤ z
  | [], a => ⟨Int.le_refl _, fun z h => by cases h⟩
  | y :: zs, a => by
    obtain ⟨h1, h2⟩ := foldl_min_le zs (min a y)
    refine ⟨by show zs.foldl min (min a y) ≤ a; omega, fun z hz => ?_⟩
    show zs.foldl min (min a y) ≤ z
    rcases List.mem_cons.1 hz with rfl | hz
    · omega
    · exact h2 z hz
theorem foldl_min_mem : ∀ (zs : List Int) (a : Int), zs.foldl min a = a ∨ zs.foldl min a ∈ zs
  | [], a => .inl rfl
  | y :: zs, a => by
    show zs.foldl min (min a y) = a ∨ zs.foldl min (min a y) ∈ y :: zs
    rcases foldl_min_mem zs (min a y) with h | h
    · rw [h]
      rcases Int.le_total a y with h1 | h1
      · left; omega
      · right; rw [show min a y = y by omega]; exact List.mem_cons_self
    · right; exact List.mem_cons_of_mem _ h
theorem foldl_max_le : ∀ (zs : List Int) (a : Int), a ≤ zs.foldl max a ∧ ∀ z ∈ zs, z ≤ zs.foldl max a
  | [], a => ⟨Int.le_refl _, fun z h => by cases h⟩
  | y :: zs, a => by
    obtain ⟨h1, h2⟩ := foldl_max_le zs (max a y)
    refine ⟨by show a ≤ zs.foldl max (max a y); omega, fun z hz => ?_⟩
    show z ≤ zs.foldl max (max a y)
    rcases List.mem_cons.1 hz with rfl | hz
    · omega
    · exact h2 z hz
theorem foldl_max_mem : ∀ (zs : List Int) (a : Int), zs.foldl max a = a ∨ zs.foldl max a ∈ zs
  | [], a => .inl rfl
  | y :: zs, a => by
    show zs.foldl max (max a y) = a ∨ zs.foldl max (max a y) ∈ y :: zs
    rcases foldl_max_mem zs (max a y) with h | h
    · rw [h]
      rcases Int.le_total a y with h1 | h1
      · right; rw [show max a y = y by omega]; exact List.mem_cons_self
      · left; omega
    · right; exact List.mem_cons_of_mem _ h
theorem headD_mem {zs : List Int} (h : zs ≠ []) : zs.headD 0 ∈ zs := by
  cases zs with
  | nil => exact absurd rfl h
  | cons z zs => exact List.mem_cons_self
/-- From whichever of them one begins. -/
theorem foldl_min_eq {zs : List Int} {a : Int} (h : a ∈ zs) : zs.foldl min a = minL zs := by
  have hne : zs ≠ [] := by rintro rfl; cases h
  have hh := headD_mem hne
  unfold minL
  have h1 := foldl_min_le zs a
  have h2 := foldl_min_le zs (zs.headD 0)
  have h3 : zs.foldl min a ∈ zs := by rcases foldl_min_mem zs a with e | e; rw [e]; exact h; exact e
  have h4 : zs.foldl min (zs.headD 0) ∈ zs := by rcases foldl_min_mem zs (zs.headD 0) with e | e; rw [e]; exact hh; exact e
  have := h1.2 _ h4
  have := h2.2 _ h3
  omega
theorem foldl_max_eq {zs : List Int} {a : Int} (h : a ∈ zs) : zs.foldl max a = maxL zs := by
  have hne : zs ≠ [] := by rintro rfl; cases h
  have hh := headD_mem hne
  unfold maxL
  have h1 := foldl_max_le zs a
  have h2 := foldl_max_le zs (zs.headD 0)
  have h3 : zs.foldl max a ∈ zs := by rcases foldl_max_mem zs a with e | e; rw [e]; exact h; exact e
  have h4 : zs.foldl max (zs.headD 0) ∈ zs := by rcases foldl_max_mem zs (zs.headD 0) with e | e; rw [e]; exact hh; exact e
  have := h1.2 _ h4
  have := h2.2 _ h3
  omega

/-- How many are below, how many at most the middle one. -/
theorem countP_sorted_lt {ys : List Int} (h : ys.Pairwise (· ≤ ·)) {k : Nat} (hk : k < ys.length) : ys.countP (fun z => decide (z < at0 ys k)) ≤ k := by
  have e : ys = ys.take k ++ ys.drop k := (List.take_append_drop k ys).symm
  have h1 : (ys.drop k).countP (fun z => decide (z < at0 ys k)) = 0 := by
    rw [List.countP_eq_zero]
    intro z hz
    obtain ⟨j, hj, rfl⟩ := List.getElem_of_mem hz
    rw [List.getElem_drop]
    simp only [List.length_drop] at hj
    have hle : at0 ys k ≤ ys[k + j] := by
      have : at0 ys k = ys[k] := by simp [at0, hk]
      rw [this]
      rcases Nat.eq_zero_or_pos j with rfl | hp
      · exact Int.le_refl _
      · exact (List.pairwise_iff_getElem.1 h) k (k + j) hk (by omega) (by omega)
    simp; omega
  have h2 : (ys.take k).countP (fun z => decide (z < at0 ys k)) ≤ k := Nat.le_trans List.countP_le_length (by rw [List.length_take]; omega)
  have h3 : ys.countP (fun z => decide (z < at0 ys k)) = (ys.take k).countP (fun z => decide (z < at0 ys k)) + (ys.drop k).countP (fun z => decide (z < at0 ys k)) := by
    rw [← List.countP_append, List.take_append_drop]
  omega
theorem countP_sorted_le {ys : List Int} (h : ys.Pairwise (· ≤ ·)) {k : Nat} (hk : k < ys.length) : k < ys.countP (fun z => decide (z ≤ at0 ys k)) := by
  have h1 : (ys.take (k + 1)).countP (fun z => decide (z ≤ at0 ys k)) = k + 1 := by
    rw [List.countP_eq_length.2, List.length_take]
    · omega
    · intro z hz
      obtain ⟨j, hj, rfl⟩ := List.getElem_of_mem hz
      rw [List.getElem_take]
      simp only [List.length_take] at hj
      have : at0 ys k = ys[k] := by simp [at0, hk]
      rw [this]
      have hle : ys[j]'(by omega) ≤ ys[k] := by
        rcases Nat.lt_or_ge j k with hp | hp
        · exact (List.pairwise_iff_getElem.1 h) j k (by omega) hk hp
        · have : j = k := by omega
          subst this; exact Int.le_refl _
      simpa using hle
  have h3 : ys.countP (fun z => decide (z ≤ at0 ys k)) = (ys.take (k + 1)).countP (fun z => decide (z ≤ at0 ys k)) + (ys.drop (k + 1)).countP (fun z => decide (z ≤ at0 ys k)) := by
    rw [← List.countP_append, List.take_append_drop]
  omega
def midM (zs : List Int) : Int := at0 (srt zs) ((zs.length - 1) / 2)
theorem mid_below {zs : List Int} (h : zs ≠ []) : zs.countP (fun z => decide (z < midM zs)) ≤ (zs.length - 1) / 2 := by
  have hl : 0 < zs.length := List.length_pos_iff.2 h
  rw [← (srt_perm zs).countP_eq]
  exact countP_sorted_lt (srt_pw zs) (by rw [srt_len]; omega)
theorem mid_upTo {zs : List Int} (h : zs ≠ []) : (zs.length - 1) / 2 < zs.countP (fun z => decide (z ≤ midM zs)) := by
  have hl : 0 < zs.length := List.length_pos_iff.2 h
  rw [← (srt_perm zs).countP_eq]
  exact countP_sorted_le (srt_pw zs) (by rw [srt_len]; omega)

theorem take_snoc {ys : List Int} {k : Nat} (hk : k < ys.length) : ys.take (k + 1) = ys.take k ++ [at0 ys k] := by
  rw [List.take_add_one, List.getElem?_eq_getElem hk]
  simp [at0, hk]
theorem sorted_take_le {ys : List Int} (h : ys.Pairwise (· ≤ ·)) {k : Nat} (hk : k < ys.length) : ∀ z ∈ ys.take (k + 1), z ≤ at0 ys k := by
  intro z hz
  obtain ⟨j, hj, rfl⟩ := List.getElem_of_mem hz
  rw [List.getElem_take]
  simp only [List.length_take] at hj
  have : at0 ys k = ys[k] := by simp [at0, hk]
  rw [this]
  rcases Nat.lt_or_ge j k with hp | hp
  · exact (List.pairwise_iff_getElem.1 h) j k (by omega) hk hp
  · have : j = k := by omega
    subst this; exact Int.le_refl _
theorem at0_le {ys : List Int} (h : ys.Pairwise (· ≤ ·)) {i k : Nat} (hi : i ≤ k) (hk : k < ys.length) : at0 ys i ≤ at0 ys k := by
  have : at0 ys i = ys[i] := by simp [at0, show i < ys.length by omega]
  exact sorted_take_le h hk _ (by rw [this]; exact List.mem_take_iff_getElem.2 ⟨i, by omega, rfl⟩)
theorem runK_count {ys : List Int} (h : ys.Pairwise (· ≤ ·)) : ∀ (k : Nat), k < ys.length → runK ys (k + 1) = ((ys.take (k + 1)).count (at0 ys k) : Int)
  | 0, hk => by
    rw [runK_zero, take_snoc hk]
    simp
  | k + 1, hk => by
    have ih := runK_count h k (by omega)
    rw [take_snoc hk, List.count_append]
    have h1 : [at0 ys (k + 1)].count (at0 ys (k + 1)) = 1 := by simp
    rw [h1]
    by_cases he : at0 ys (k + 1) = at0 ys k
    · rw [runK_same (by omega) (by rw [Nat.add_sub_cancel]; exact he), ih, he]
      push_cast; rfl
    · rw [runK_new (by rw [Nat.add_sub_cancel]; exact he)]
      have h0 : (ys.take (k + 1)).count (at0 ys (k + 1)) = 0 := by
        rw [List.count_eq_zero]
        intro hm
        have h2 := sorted_take_le h (k := k) (by omega) _ hm
        have h3 := at0_le h (i := k) (k := k + 1) (by omega) hk
        omega
      rw [h0]; rfl
theorem oft_best {ys : List Int} (h : ys.Pairwise (· ≤ ·)) : ∀ (k : Nat), k < ys.length → (oft ys (k + 1)).2 = ((ys.take (k + 1)).count (oft ys (k + 1)).1 : Int) ∧ (oft ys (k + 1)).1 ∈ ys.take (k + 1) ∧ ∀ z, ((ys.take (k + 1)).count z : Int) ≤ (oft ys (k + 1)).2 ∧ (((ys.take (k + 1)).count z : Int) = (oft ys (k + 1)).2 → (oft ys (k + 1)).1 ≤ z)
  | 0, hk => by
    have e : oft ys 1 = (at0 ys 0, 1) := by
      rw [oft, if_pos (by rw [runK_zero]; simp [oft]), runK_zero]
    rw [e, take_snoc hk]
    simp only [List.take_zero, List.nil_append]
    refine ⟨by simp, by simp, fun z => ?_⟩
    by_cases hz : at0 ys 0 = z
    · subst hz; simp
    · have : [at0 ys 0].count z = 0 := by rw [List.count_eq_zero]; simp; exact fun e => hz e.symm
      rw [this]; simp
  | k + 1, hk => by
    obtain ⟨i1, i2, i3⟩ := oft_best h k (by omega)
    have hr := runK_count h (k + 1) hk
    have hts := take_snoc hk
    have hcz : ∀ z, (ys.take (k + 2)).count z = (ys.take (k + 1)).count z + (if at0 ys (k + 1) = z then 1 else 0) := by
      intro z
      rw [hts, List.count_append]
      congr 1
      split
      · rename_i e; rw [e]; simp
      · rename_i e; rw [List.count_eq_zero]; simp; exact fun e' => e e'.symm
    have hble : (oft ys (k + 1)).1 ≤ at0 ys (k + 1) := by
      have := sorted_take_le h (k := k) (by omega) _ i2
      have := at0_le h (i := k) (k := k + 1) (by omega) hk
      omega
    by_cases hc : (oft ys (k + 1)).2 < runK ys (k + 1 + 1)
    · have e : oft ys (k + 1 + 1) = (at0 ys (k + 1), runK ys (k + 1 + 1)) := by rw [oft, if_pos hc]
      rw [e]
      simp only
      refine ⟨hr, by rw [hts]; simp, fun z => ?_⟩
      rw [hcz z]
      by_cases hz : at0 ys (k + 1) = z
      · subst hz
        rw [hr, hcz, if_pos rfl]
        exact ⟨Int.le_refl _, fun _ => Int.le_refl _⟩
      · rw [if_neg hz]
        have := (i3 z).1
        exact ⟨by omega, fun e => by omega⟩
    · have e : oft ys (k + 1 + 1) = oft ys (k + 1) := by rw [oft, if_neg hc]
      rw [e]
      have hne : ¬ at0 ys (k + 1) = (oft ys (k + 1)).1 := by
        intro he
        have h1 := hcz (at0 ys (k + 1))
        rw [if_pos rfl] at h1
        have h2 : runK ys (k + 1 + 1) = ((ys.take (k + 2)).count (at0 ys (k + 1)) : Int) := hr
        rw [h1, he] at h2
        omega
      refine ⟨by rw [hcz, if_neg hne]; simpa using i1, by rw [hts]; exact List.mem_append_left _ i2, fun z => ?_⟩
      rw [hcz z]
      by_cases hz : at0 ys (k + 1) = z
      · rw [if_pos hz]
        have h2 : runK ys (k + 1 + 1) = ((ys.take (k + 2)).count (at0 ys (k + 1)) : Int) := hr
        rw [hcz, if_pos rfl, hz] at h2
        refine ⟨by omega, fun _ => by rw [← hz]; exact hble⟩
      · rw [if_neg hz]
        simpa using i3 z
def oftM (zs : List Int) : Int := oftR (srt zs)
theorem oftM_best {zs : List Int} (h : zs ≠ []) : ∀ z, zs.count z ≤ zs.count (oftM zs) ∧ (zs.count z = zs.count (oftM zs) → oftM zs ≤ z) := by
  have hl : 0 < zs.length := List.length_pos_iff.2 h
  obtain ⟨n, hn⟩ : ∃ n, (srt zs).length = n + 1 := ⟨zs.length - 1, by rw [srt_len]; omega⟩
  obtain ⟨h1, h2, h3⟩ := oft_best (srt_pw zs) n (by omega)
  rw [← hn, List.take_length] at h1 h2 h3
  have hp := srt_perm zs
  intro z
  obtain ⟨h4, h5⟩ := h3 z
  rw [h1] at h4 h5
  have e1 : (srt zs).count z = zs.count z := hp.count_eq z
  have e2 : (srt zs).count (oft (srt zs) (srt zs).length).1 = zs.count (oftM zs) := hp.count_eq _
  rw [e1, e2] at h4 h5
  exact ⟨by omega, fun e => h5 (by omega)⟩

/-- Where the last ones of an index begin. -/
def lastI (L : Int) (i : Nat) : Nat := ((i : Int) - L + 1).toNat
theorem lastL_get {xs : List Int} {L : Int} {i k : Nat} (hi : i < xs.length) (h1 : lastI L i ≤ k) (h2 : k ≤ i) : (lastL xs L i)[k - lastI L i]? = some xs[k] := by
  unfold lastL lastI at *
  rw [List.getElem?_drop, List.getElem?_take, if_pos (by omega)]
  rw [show ((i : Int) - L + 1).toNat + (k - ((i : Int) - L + 1).toNat) = k by omega]
  exact List.getElem?_eq_getElem (by omega)
theorem lastL_length {xs : List Int} {L : Int} {i : Nat} (hi : i < xs.length) : (lastL xs L i).length = i + 1 - lastI L i := by
  unfold lastL lastI
  rw [List.length_drop, List.length_take]
  omega
theorem lastI_le {L : Int} {i : Nat} (hL : 1 ≤ L) : lastI L i ≤ i := by unfold lastI; omega
theorem lastL_mem {xs : List Int} {L : Int} {i : Nat} : ∀ z ∈ lastL xs L i, z ∈ xs := fun z hz => List.mem_of_mem_take (List.mem_of_mem_drop hz)
theorem lastL_last {xs : List Int} {L : Int} {i : Nat} (hi : i < xs.length) (hL : 1 ≤ L) : xs[i] ∈ lastL xs L i := by
  have h := lastL_get (L := L) hi (lastI_le hL) (Nat.le_refl i)
  exact List.mem_of_getElem? h

end Go.Proofs.Ytncbkbfkdgggkaa

namespace Go.Proofs.Ytncbkbfkdgggkaa
open Go.RowKit

/-- An integer as a float32. -/
def fY (z : Int) : Nat := floatOfInt .f32 z
theorem fY_ok {z : Int} (h : z.natAbs ≤ 16777216) : isN .f32 (fY z) ∧ val .f32 (fY z) = (z : Rat) := ofInt_val (k := .f32) h

def sumG (s : Nat) (zs : List Int) : Nat := zs.foldl (fun s z => fo3 .add s (fY z)) s
def sumF (zs : List Int) : Nat := sumG 0 zs
theorem rat_le_of {a b : Int} (h : a ≤ b) : (a : Rat) ≤ (b : Rat) := Rat.intCast_le_intCast.2 h
theorem v32_0 : isN .f32 0 ∧ val .f32 0 = 0 := ⟨isN_of (by decide +kernel), by decide +kernel⟩
theorem sum_step {s : Nat} {n z : Int} (hs : isN .f32 s) (hv : val .f32 s = (n : Rat)) (hn : n.natAbs ≤ 400) (hz : z.natAbs ≤ 400) : fbin .add .f32 (some s) (some (fY z)) = some (fo3 .add s (fY z)) ∧ isN .f32 (fo3 .add s (fY z)) ∧ val .f32 (fo3 .add s (fY z)) = ((n + z : Int) : Rat) := by
  obtain ⟨z1, z2⟩ := fY_ok (z := z) (by omega)
  have e : val .f32 s + val .f32 (fY z) = ((n + z : Int) : Rat) := by rw [hv, z2, Rat.intCast_add]
  have l1 : ((-1024 : Int) : Rat) ≤ ((n + z : Int) : Rat) := rat_le_of (by omega)
  have l2 : ((n + z : Int) : Rat) ≤ ((1024 : Int) : Rat) := rat_le_of (by omega)
  have a := fo3_add hs z1 (by rw [e]; exact l1) (by rw [e]; exact l2)
  rw [e] at a
  exact ⟨a.1, a.2.1, a.2.2.exact (rep32i _ (by omega))⟩
theorem sumG_ok : ∀ (zs : List Int) {s : Nat} {n : Int}, isN .f32 s → val .f32 s = (n : Rat) → (∀ z ∈ zs, z.natAbs ≤ 6) → n.natAbs + 6 * zs.length ≤ 400 → isN .f32 (sumG s zs) ∧ val .f32 (sumG s zs) = ((n + zs.sum : Int) : Rat)
  | [], s, n, hs, hv, _, _ => ⟨hs, by show val .f32 s = _; rw [List.sum_nil, Int.add_zero]; exact hv⟩
  | z :: zs, s, n, hs, hv, hz, hl => by
    have h6 := hz z List.mem_cons_self
    simp only [List.length_cons] at hl
    obtain ⟨_, h2, h3⟩ := sum_step hs hv (z := z) (by omega) (by omega)
    obtain ⟨g1, g2⟩ := sumG_ok zs h2 h3 (fun y hy => hz y (List.mem_cons_of_mem _ hy)) (by omega)
    refine ⟨g1, ?_⟩
    show val .f32 (sumG (fo3 .add s (fY z)) zs) = _
    rw [g2, List.sum_cons, Int.add_assoc]
theorem sum_natAbs : ∀ (zs : List Int), (∀ z ∈ zs, z.natAbs ≤ 6) → zs.sum.natAbs ≤ 6 * zs.length
  | [], _ => by simp
  | z :: zs, h => by
    have h1 := h z List.mem_cons_self
    have h2 := sum_natAbs zs (fun y hy => h y (List.mem_cons_of_mem _ hy))
    rw [List.sum_cons, List.length_cons]
    omega
theorem sumF_ok {zs : List Int} (h : ∀ z ∈ zs, z.natAbs ≤ 6) (hl : zs.length ≤ 60) : isN .f32 (sumF zs) ∧ val .f32 (sumF zs) = (zs.sum : Rat) := by
  have := sumG_ok zs (s := 0) (n := 0) v32_0.1 (by rw [v32_0.2]; rfl) h (by simp; omega)
  rw [Int.zero_add] at this
  exact this
theorem sumF_snoc {zs : List Int} {k : Nat} (hk : k < zs.length) : sumF (zs.take (k + 1)) = fo3 .add (sumF (zs.take k)) (fY zs[k]) := by
  unfold sumF sumG
  rw [List.take_add_one, List.getElem?_eq_getElem hk, List.foldl_append]
  rfl

/-- The mean. -/
def meanF (zs : List Int) : Nat := fo3 .quo (sumF zs) (fY (zs.length : Int))
theorem quot_ex {s : Int} {c : Nat} (hc : 0 < c) (hs : s.natAbs ≤ 6 * c) : ∃ x : Rat, x * (c : Rat) = (s : Rat) ∧ -6 ≤ x ∧ x ≤ 6 := by
  have hc1 : (0 : Rat) < (c : Rat) := Rat.natCast_pos.2 hc
  obtain ⟨x, hx, _⟩ := div_ex (a := (s : Rat)) hc1
  refine ⟨x, hx, ?_, ?_⟩
  · refine Rat.le_of_mul_le_mul_right (c := (c : Rat)) ?_ hc1
    rw [hx]
    have h := rat_le_of (show -(6 * (c : Int)) ≤ s by omega)
    rw [Rat.intCast_neg, Rat.intCast_mul, Rat.intCast_natCast] at h
    have e : ((6 : Int) : Rat) = 6 := rfl
    rw [e] at h
    grind
  · refine Rat.le_of_mul_le_mul_right (c := (c : Rat)) ?_ hc1
    rw [hx]
    have h := rat_le_of (show s ≤ 6 * (c : Int) by omega)
    rw [Rat.intCast_mul, Rat.intCast_natCast] at h
    exact h
theorem mean_ok {zs : List Int} (h : ∀ z ∈ zs, z.natAbs ≤ 6) (hl : zs.length ≤ 60) (h0 : zs ≠ []) :
    fbin .quo .f32 (some (sumF zs)) (some (fY (zs.length : Int))) = some (meanF zs) ∧ isN .f32 (meanF zs) ∧ ∃ x : Rat, x * (zs.length : Rat) = (zs.sum : Rat) ∧ -6 ≤ x ∧ x ≤ 6 ∧ RN .f32 x (val .f32 (meanF zs)) := by
  have hp : 0 < zs.length := List.length_pos_iff.2 h0
  obtain ⟨x, hx, x1, x2⟩ := quot_ex hp (sum_natAbs zs h)
  obtain ⟨s1, s2⟩ := sumF_ok h hl
  obtain ⟨c1, c2⟩ := fY_ok (z := (zs.length : Int)) (by omega)
  rw [Rat.intCast_natCast] at c2
  have hcp : (0 : Rat) < (zs.length : Rat) := Rat.natCast_pos.2 hp
  have a := fo3_quo s1 c1 (by rw [c2]; grind) (by rw [s2, c2]; exact hx) (by grind) (by grind)
  exact ⟨a.1, a.2.1, x, hx, x1, x2, a.2.2⟩

/-- Smoothed numbers. -/
def smF (sh : Nat) (xs : List Int) : Nat → Nat
  | 0 => fY (at0 xs 0)
  | i + 1 => fo3 .add (smF sh xs i) (fo3 .mul sh (fo3 .sub (fY (at0 xs (i + 1))) (smF sh xs i)))
def cHalf : Nat := 1056964608
def cOne : Nat := 1065353216
theorem n_half3 : isN .f32 cHalf := isN_of (by decide +kernel)
theorem v_half3 : val .f32 cHalf = 1 / 2 := by decide +kernel
theorem n_one3 : isN .f32 cOne := isN_of (by decide +kernel)
theorem v_one3 : val .f32 cOne = 1 := by decide +kernel
/-- A step of the smoothing: all of its parts are numbers. -/
structure SmOk (sh x y : Nat) : Prop where
  d : fbin .sub .f32 (some y) (some x) = some (fo3 .sub y x)
  dN : isN .f32 (fo3 .sub y x)
  m : fbin .mul .f32 (some sh) (some (fo3 .sub y x)) = some (fo3 .mul sh (fo3 .sub y x))
  mN : isN .f32 (fo3 .mul sh (fo3 .sub y x))
  a : fbin .add .f32 (some x) (some (fo3 .mul sh (fo3 .sub y x))) = some (fo3 .add x (fo3 .mul sh (fo3 .sub y x)))
  aN : isN .f32 (fo3 .add x (fo3 .mul sh (fo3 .sub y x)))
theorem half_step {x : Nat} {y : Int} (hx : isN .f32 x) (h1 : -(6001 / 1000) ≤ val .f32 x) (h2 : val .f32 x ≤ 6001 / 1000) (hy : y.natAbs ≤ 6) :
    SmOk cHalf x (fY y) ∧ val .f32 (fo3 .add x (fo3 .mul cHalf (fo3 .sub (fY y) x))) ≤ (val .f32 x + (y : Rat)) / 2 + 1 / 100000 ∧ (val .f32 x + (y : Rat)) / 2 - 1 / 100000 ≤ val .f32 (fo3 .add x (fo3 .mul cHalf (fo3 .sub (fY y) x))) := by
  obtain ⟨y1, y2⟩ := fY_ok (z := y) (by omega)
  have b1 : (-6 : Rat) ≤ (y : Rat) := rat_le_of (a := -6) (by omega)
  have b2 : (y : Rat) ≤ 6 := rat_le_of (b := 6) (by omega)
  have a1 := fo3_sub y1 hx (by rw [y2]; grind) (by rw [y2]; grind)
  rw [y2] at a1
  have n1 := a1.2.2.near32 (by grind) (by grind)
  have a2 := fo3_mul n_half3 a1.2.1 (by rw [v_half3]; grind) (by rw [v_half3]; grind)
  rw [v_half3] at a2
  have n2 := a2.2.2.near32 (by grind) (by grind)
  have a3 := fo3_add hx a2.2.1 (by grind) (by grind)
  have n3 := a3.2.2.near32 (by grind) (by grind)
  exact ⟨⟨a1.1, a1.2.1, a2.1, a2.2.1, a3.1, a3.2.1⟩, by grind, by grind⟩
theorem one_step {x : Nat} {p y : Int} (hx : isN .f32 x) (hv : val .f32 x = (p : Rat)) (hp : p.natAbs ≤ 6) (hy : y.natAbs ≤ 6) :
    SmOk cOne x (fY y) ∧ val .f32 (fo3 .add x (fo3 .mul cOne (fo3 .sub (fY y) x))) = (y : Rat) := by
  obtain ⟨y1, y2⟩ := fY_ok (z := y) (by omega)
  have b1 : (-6 : Rat) ≤ (y : Rat) := rat_le_of (a := -6) (by omega)
  have b2 : (y : Rat) ≤ 6 := rat_le_of (b := 6) (by omega)
  have b3 : (-6 : Rat) ≤ (p : Rat) := rat_le_of (a := -6) (by omega)
  have b4 : (p : Rat) ≤ 6 := rat_le_of (b := 6) (by omega)
  have a1 := fo3_sub y1 hx (by rw [y2, hv]; grind) (by rw [y2, hv]; grind)
  rw [y2, hv] at a1
  have e1 : (y : Rat) - (p : Rat) = ((y - p : Int) : Rat) := (Rat.intCast_sub y p).symm
  rw [e1] at a1
  have v1 := a1.2.2.exact (rep32i _ (by omega))
  have a2 := fo3_mul n_one3 a1.2.1 (by rw [v_one3, v1, ← e1]; grind) (by rw [v_one3, v1, ← e1]; grind)
  rw [v_one3, v1, Rat.one_mul] at a2
  have v2 := a2.2.2.exact (rep32i _ (by omega))
  have a3 := fo3_add hx a2.2.1 (by rw [hv, v2, ← e1]; grind) (by rw [hv, v2, ← e1]; grind)
  rw [hv, v2, ← e1] at a3
  have e2 : (p : Rat) + ((y : Rat) - (p : Rat)) = (y : Rat) := by grind
  rw [e2] at a3
  exact ⟨⟨a1.1, a1.2.1, a2.1, a2.2.1, a3.1, a3.2.1⟩, a3.2.2.exact (rep32i _ (by omega))⟩
theorem sm_half {xs : List Int} (h : ∀ z ∈ xs, z.natAbs ≤ 6) : ∀ i, i < xs.length → isN .f32 (smF cHalf xs i) ∧ -(6001 / 1000) ≤ val .f32 (smF cHalf xs i) ∧ val .f32 (smF cHalf xs i) ≤ 6001 / 1000
  | 0, hi => by
    have h6 := h (at0 xs 0) (by unfold at0; rw [List.getElem?_eq_getElem hi]; exact List.getElem_mem hi)
    obtain ⟨y1, y2⟩ := fY_ok (z := at0 xs 0) (by omega)
    have b1 : (-6 : Rat) ≤ (at0 xs 0 : Rat) := rat_le_of (a := -6) (by omega)
    have b2 : (at0 xs 0 : Rat) ≤ 6 := rat_le_of (b := 6) (by omega)
    refine ⟨y1, ?_, ?_⟩
    · show _ ≤ val .f32 (fY (at0 xs 0)); rw [y2]; grind
    · show val .f32 (fY (at0 xs 0)) ≤ _; rw [y2]; grind
  | i + 1, hi => by
    obtain ⟨i1, i2, i3⟩ := sm_half h i (by omega)
    have h6 := h (at0 xs (i + 1)) (by unfold at0; rw [List.getElem?_eq_getElem hi]; exact List.getElem_mem hi)
    obtain ⟨s, u, l⟩ := half_step i1 i2 i3 h6
    have b1 : (-6 : Rat) ≤ (at0 xs (i + 1) : Rat) := rat_le_of (a := -6) (by omega)
    have b2 : (at0 xs (i + 1) : Rat) ≤ 6 := rat_le_of (b := 6) (by omega)
    exact ⟨s.aN, by show _ ≤ val .f32 (fo3 .add _ _); grind, by show val .f32 (fo3 .add _ _) ≤ _; grind⟩
theorem sm_one {xs : List Int} (h : ∀ z ∈ xs, z.natAbs ≤ 6) : ∀ i, i < xs.length → isN .f32 (smF cOne xs i) ∧ val .f32 (smF cOne xs i) = (at0 xs i : Rat)
  | 0, hi => by
    have h6 := h (at0 xs 0) (by unfold at0; rw [List.getElem?_eq_getElem hi]; exact List.getElem_mem hi)
    exact fY_ok (z := at0 xs 0) (by omega)
  | i + 1, hi => by
    obtain ⟨i1, i2⟩ := sm_one h i (by omega)
    have h5 := h (at0 xs i) (by unfold at0; rw [List.getElem?_eq_getElem (by omega)]; exact List.getElem_mem (by omega))
    have h6 := h (at0 xs (i + 1)) (by unfold at0; rw [List.getElem?_eq_getElem hi]; exact List.getElem_mem hi)
    obtain ⟨s, u⟩ := one_step i1 i2 h5 h6
    exact ⟨s.aN, u⟩

end Go.Proofs.Ytncbkbfkdgggkaa

namespace Go.Proofs.Ytncbkbfkdgggkaa
open Go.RowKit

theorem at0_cell' {w : World} {a : Option Addr} {c : Nat} {xs : List Int} (hr : Rd (Value.int .i64) w a c xs) {k : Nat} (hk : k < xs.length) {x : Int} (hx : at0 xs k = x) : w.cell? (elt a k) = some (.int .i64 x) := by
  rw [hr.cell k hk, ← hx]; rfl
theorem drewN_more' {w wr : World} (h : ∃ n, wr = w.drewN n) (m : Nat) : ∃ n, wr.drewN m = w.drewN n := by
  obtain ⟨n, rfl⟩ := h
  exact ⟨_, World.drewN_drewN _ _ _⟩

/-- A window in memory. -/
structure WinAt (w : World) (b o : Nat) (L P : Int) (ta : Option Addr) (tl tc : Nat) (sa : Option Addr) (sl sc : Nat) : Prop where
  c0 : w.cell? ⟨b, o, none⟩ = some (.int .i64 L)
  c1 : w.cell? ⟨b, o + 1, none⟩ = some (.int .i64 P)
  c2 : w.cell? ⟨b, o + 2, none⟩ = some (.slice ta tl tc)
  c3 : w.cell? ⟨b, o + 3, none⟩ = some (.slice sa sl sc)
  lt : b < w.heap.size
theorem WinAt.below {w w' : World} {b o : Nat} {L P : Int} {ta : Option Addr} {tl tc : Nat} {sa : Option Addr} {sl sc : Nat} (h : WinAt w b o L P ta tl tc sa sl sc) {B : Nat} (hb : Below B w w') (hB : w.heap.size ≤ B) : WinAt w' b o L P ta tl tc sa sl sc := by
  have hl := h.lt
  refine ⟨?_, ?_, ?_, ?_, Nat.lt_of_lt_of_le hl hb.size⟩
  · rw [hb.cell (by simp; omega)]; exact h.c0
  · rw [hb.cell (by simp; omega)]; exact h.c1
  · rw [hb.cell (by simp; omega)]; exact h.c2
  · rw [hb.cell (by simp; omega)]; exact h.c3

end Go.Proofs.Ytncbkbfkdgggkaa

namespace Go.Proofs.Ytncbkbfkdgggkaa
open Go.RowKit

/-- A window's value. -/
abbrev winV (L P : Int) (ta : Option Addr) (tl tc : Nat) (sa : Option Addr) (sl sc : Nat) : Value := .agg #[.int .i64 L, .int .i64 P, .slice ta tl tc, .slice sa sl sc]
abbrev winC (L P : Int) (ta : Option Addr) (tl tc : Nat) (sa : Option Addr) (sl sc : Nat) : Array Value := #[.int .i64 L, .int .i64 P, .slice ta tl tc, .slice sa sl sc]

theorem win_cells {w w2 : World} {L P : Int} {ta sa : Option Addr} {tl tc sl sc : Nat} {t : TypeId} (hb : Below (w.heap.size + 1) (w.alloc (.cells (winC L P ta tl tc sa sl sc) t)) w2) :
    w2.cell? ⟨w.heap.size, 0, none⟩ = some (.int .i64 L) ∧ w2.cell? ⟨w.heap.size, 1, none⟩ = some (.int .i64 P) ∧ w2.cell? ⟨w.heap.size, 2, none⟩ = some (.slice ta tl tc) ∧ w2.cell? ⟨w.heap.size, 3, none⟩ = some (.slice sa sl sc) := by
  refine ⟨?_, ?_, ?_, ?_⟩
  all_goals
    rw [hb.cell (by simp), World.cell?_alloc_at _ _ _ _ rfl]
    rfl

set_option maxRecDepth 4000 in
set_option maxHeartbeats 2000000 in
theorem validWindow_any {ta sa : Option Addr} {tc sc : Nat} {ts ss : List Int} {L P : Int} {w : World} (ht : Rd (Value.int .i64) w ta tc ts) (hs : Rd (Value.int .i64) w sa sc ss) :
    Calls Try.prog 9 #[winV L P ta ts.length tc sa ss.length sc] w fun e w' => e = .returned (.bool (winB L P ts ss)) ∧ Below w.heap.size w w' := by
  have hlt := ht.len
  have hls := hs.len
  have hb0 : Below w.heap.size w (w.alloc (.cells (winC L P ta ts.length tc sa ss.length sc) 28)) := (Below.refl _ _).alloc (Nat.le_refl _) _
  cases h1 : inR L 1 1000000 with
  | false =>
    go_enter Try.func9, Try.ntmps9
    go_wp2_with fail
    refine (within_any _ _ _ _).mono ?_
    rintro e w1 ⟨rfl, rfl⟩
    go_wp2
    go_ret
    exact ⟨ret_bool (winB_L h1).symm, hb0⟩
  | true =>
  cases h2 : inR P 1 16 with
  | false =>
    go_enter Try.func9, Try.ntmps9
    go_wp2_with fail
    refine (within_any _ _ _ _).mono ?_
    rintro e w1 ⟨rfl, rfl⟩
    rw [h1]
    go_wp2_with fail
    refine (within_any _ _ _ _).mono ?_
    rintro e w1 ⟨rfl, rfl⟩
    go_wp2
    go_ret
    exact ⟨ret_bool (winB_P h2).symm, hb0⟩
  | true =>
  by_cases h3 : ts.length ≤ 128
  case neg =>
    have h3' : 128 < ts.length := by omega
    go_enter Try.func9, Try.ntmps9
    go_wp2_with fail
    refine (within_any _ _ _ _).mono ?_
    rintro e w1 ⟨rfl, rfl⟩
    rw [h1]
    go_wp2_with fail
    refine (within_any _ _ _ _).mono ?_
    rintro e w1 ⟨rfl, rfl⟩
    rw [h2]
    go_wp2
    go_ret
    exact ⟨ret_bool (winB_long h3).symm, hb0⟩
  case pos =>
  have hn3 : decide (128 < (ts.length : Int)) = false := by simp; omega
  by_cases h4 : ss.length = ts.length
  case neg =>
    have h4' : ((ss.length : Int) != (ts.length : Int)) = true := by simp; omega
    have H4 := Lib.hid h4
    clear h4
    go_enter Try.func9, Try.ntmps9
    go_wp2_with fail
    refine (within_any _ _ _ _).mono ?_
    rintro e w1 ⟨rfl, rfl⟩
    rw [h1]
    go_wp2_with fail
    refine (within_any _ _ _ _).mono ?_
    rintro e w1 ⟨rfl, rfl⟩
    rw [h2]
    go_wp2
    go_ret
    exact ⟨ret_bool (winB_len H4.out).symm, hb0⟩
  case pos =>
  have h4' : ((ss.length : Int) != (ts.length : Int)) = false := by simp [h4]
  have H4 := Lib.hid h4
  clear h4
  cases h5 : (List.range ts.length).all (timeOk ts) with
  | false =>
    go_enter Try.func9, Try.ntmps9
    go_wp2_with fail
    refine (within_any _ _ _ _).mono ?_
    rintro e w1 ⟨rfl, rfl⟩
    rw [h1]
    go_wp2_with fail
    refine (within_any _ _ _ _).mono ?_
    rintro e w1 ⟨rfl, rfl⟩
    rw [h2]
    go_wp2_with fail
    refine (areTimes_any (ht.below hb0 (Nat.le_refl _))).mono ?_
    rintro e w2 ⟨rfl, hb2⟩
    rw [h5]
    go_wp2
    go_ret
    exact ⟨ret_bool (winB_times h5).symm, hb0.trans (hb2.mono (by simp))⟩
  | true =>
  have H1 := Lib.hid h1
  have H2 := Lib.hid h2
  have H5 := Lib.hid h5
  obtain ⟨hP1, hP2⟩ := (inR_eq _ _ _).1 h2
  go_enter Try.func9, Try.ntmps9
  go_wp2_with fail
  refine (within_any _ _ _ _).mono ?_
  rintro e w1 ⟨rfl, rfl⟩
  rw [h1]
  go_wp2_with fail
  refine (within_any _ _ _ _).mono ?_
  rintro e w1 ⟨rfl, rfl⟩
  rw [h2]
  go_wp2_with fail
  refine (areTimes_any (ht.below hb0 (Nat.le_refl _))).mono ?_
  rintro e w2 ⟨rfl, hb2⟩
  rw [h5]
  obtain ⟨c0, c1, c2, c3⟩ := win_cells (hb2.mono (by simp))
  have hB : Below w.heap.size w w2 := hb0.trans (hb2.mono (by simp))
  have hsr := hs.below hB (Nat.le_refl _)
  clear h1 h2 h5 hb0 hb2
  go_wp2_with fail
  go_loop [3, 4, 5, 40] (fun r _ _ i => ∃ (k : Nat) (R : Int), k ≤ ss.length ∧ i = .int .i64 k ∧ r = .int .i64 R ∧ 0 ≤ R ∧ R ≤ k ∧ Hid (runK ss k = R) ∧ Hid (∀ j, j < k → sizeOk P ss j = true)) (fun _ _ _ i => ss.length - (intOf i).toNat)
  case atStart => exact ⟨0, 0, Nat.zero_le _, rfl, rfl, by omega, by omega, by show _ = _; rfl, by show ∀ j, _; intro j hj; omega⟩
  case round =>
    obtain ⟨k, R, hk, rfl, rfl, hR0, hR1, HR, HA⟩ := hrel
    by_cases hlt : k < ss.length
    · have hix := hsr.idx und_is siz_is
      obtain ⟨s, hss⟩ : ∃ x, at0 ss k = x := ⟨_, rfl⟩
      have hcx := at0_cell hsr hlt hss
      have HS := Lib.hid hss
      clear hss
      cases hin : inR s 1 1048576 with
      | false =>
        have hp := isPow_out hin
        go_wp2_with fail
        refine (within_any _ _ _ _).mono ?_
        rintro e w1 ⟨rfl, rfl⟩
        rw [hin]
        go_wp2
        go_ret
        exact ⟨ret_bool (winB_size (by rw [← H4.out]; exact hlt) (sizeOk_pow HS.out hp)).symm, hB⟩
      | true =>
      obtain ⟨hs1, hs2⟩ := (inR_eq _ _ _).1 hin
      have hpt := pow_test hs1 hs2
      cases hp : isPow s with
      | false =>
        rw [hp] at hpt
        go_wp2_with fail
        refine (within_any _ _ _ _).mono ?_
        rintro e w1 ⟨rfl, rfl⟩
        rw [hin]
        go_wp2
        go_ret
        exact ⟨ret_bool (winB_size (by rw [← H4.out]; exact hlt) (sizeOk_pow HS.out hp)).symm, hB⟩
      | true =>
      rw [hp] at hpt
      by_cases hk0 : k = 0
      · subst hk0
        have hi0 := rd_idxAt hsr und_is siz_is 0 hlt 0 rfl
        clear hix
        go_wp2_with fail
        refine (within_any _ _ _ _).mono ?_
        rintro e w1 ⟨rfl, rfl⟩
        rw [hin]
        go_wp2
        go_round
        case rel =>
          refine ⟨1, 1, hlt, rfl, rfl, by omega, by omega, runK_zero ss, ?_⟩
          show ∀ j, _
          intro j hj
          obtain rfl : j = 0 := by omega
          exact sizeOk_first HS.out hp hP1
        case measure => simp [intOf]; omega
      · obtain ⟨m, rfl⟩ : ∃ m, k = m + 1 := ⟨k - 1, by omega⟩
        obtain ⟨p, hpp⟩ : ∃ x, at0 ss m = x := ⟨_, rfl⟩
        have hcp := at0_cell hsr (by omega) hpp
        have hi0 := rd_idxAt hsr und_is siz_is (m + 1) hlt ((m : Int) + 1) (by omega)
        have hi1 := rd_idxAt hsr und_is siz_is m (by omega) (m : Int) rfl
        have HP := Lib.hid hpp
        have HI := Lib.hid hp
        clear hix hpp hk0 hp
        have hKT : m + 1 < ts.length := by rw [← H4.out]; exact hlt
        rcases Int.lt_trichotomy s p with hsp | hsp | hsp
        · have hne : (s != p) = true := by simp; omega
          have HSP := Lib.hid hsp
          go_wp2_with fail
          refine (within_any _ _ _ _).mono ?_
          rintro e w1 ⟨rfl, rfl⟩
          rw [hin]
          go_wp2
          go_round
          case rel =>
            have hr := runK_less HS.out HP.out HSP.out
            refine ⟨m + 1 + 1, 1, hlt, rfl, rfl, by omega, by omega, hr, ?_⟩
            show ∀ j, _
            intro j hj
            by_cases h : j = m + 1
            · subst h; exact sizeOk_next HS.out HP.out HI.out (by have := HSP.out; omega) (by rw [hr]; omega)
            · exact HA.out j (by omega)
          case measure => simp [intOf]; omega
        · have hne : (s != p) = false := by simp [hsp]
          have HSP := Lib.hid hsp
          have hns : ¬ p < s := by omega
          clear hsp
          by_cases hrun : R + 1 ≤ P + 1
          · go_wp2_with fail
            refine (within_any _ _ _ _).mono ?_
            rintro e w1 ⟨rfl, rfl⟩
            rw [hin]
            go_wp2
            go_round
            case rel =>
              have hr := (runK_eq HS.out HP.out HSP.out).trans (by rw [HR.out])
              refine ⟨m + 1 + 1, R + 1, hlt, rfl, rfl, by omega, by omega, hr, ?_⟩
              show ∀ j, _
              intro j hj
              by_cases h : j = m + 1
              · subst h; exact sizeOk_next HS.out HP.out HI.out (by have := HSP.out; omega) (by rw [hr]; omega)
              · exact HA.out j (by omega)
            case measure => simp [intOf]; omega
          · go_wp2_with fail
            refine (within_any _ _ _ _).mono ?_
            rintro e w1 ⟨rfl, rfl⟩
            rw [hin]
            go_wp2
            go_ret
            have hr := (runK_eq HS.out HP.out HSP.out).trans (by rw [HR.out])
            exact ⟨ret_bool (winB_size hKT (sizeOk_run (by rw [hr]; omega))).symm, hB⟩
        · have hne : (s != p) = true := by simp; omega
          have HSP := Lib.hid hsp
          go_wp2_with fail
          refine (within_any _ _ _ _).mono ?_
          rintro e w1 ⟨rfl, rfl⟩
          rw [hin]
          go_wp2
          go_ret
          exact ⟨ret_bool (winB_size hKT (sizeOk_gt HS.out HP.out HSP.out)).symm, hB⟩
    · obtain rfl : k = ss.length := by omega
      go_wp2
      go_ret
      exact ⟨ret_bool (winB_yes H1.out H2.out h3 H4.out H5.out (by rw [← H4.out]; exact HA.out)).symm, hB⟩

end Go.Proofs.Ytncbkbfkdgggkaa

namespace Go.Proofs.Ytncbkbfkdgggkaa
open Go.RowKit

/-- The first index at which s stands. -/
def fstI (s : Int) (ss : List Int) : Nat := ss.findIdx (· == s)
def mgT (ts : List Int) (i : Nat) : List Int := ts.take i ++ ts.drop (i + 1)
def mgS (ss : List Int) (s : Int) (i : Nat) : List Int := ss.take i ++ 2 * s :: ss.drop (i + 2)
abbrev Pr := List Int × List Int
def merge (s : Int) (q : Pr) : Pr := (mgT q.1 (fstI s q.2), mgS q.2 s (fstI s q.2))
/-- One size: two that are one too many become one. -/
def stepP (P s : Int) (q : Pr) : Pr := if (q.2.count s : Int) ≤ P + 1 then q else merge s q
def implK (P : Int) : Nat → Int → Pr → Pr
  | 0, _, q => q
  | n + 1, s, q => implK P n (2 * s) (stepP P s q)
def putK (P : Int) : Nat → Int → Pr → Pr
  | 0, _, q => q
  | n + 1, s, q => if (q.2.count s : Int) ≤ P + 1 then q else putK P n (2 * s) (merge s q)

theorem fstI_lt {s : Int} {ss : List Int} (h : 1 ≤ ss.count s) : fstI s ss < ss.length ∧ ss[fstI s ss]? = some s := by
  have hm : s ∈ ss := List.count_pos_iff.1 (by omega)
  have hl : fstI s ss < ss.length := List.findIdx_lt_length_of_exists ⟨s, hm, by simp⟩
  refine ⟨hl, ?_⟩
  have := List.findIdx_getElem (p := (· == s)) (xs := ss) (w := hl)
  have e : ss[fstI s ss]'hl = s := eq_of_beq this
  rw [List.getElem?_eq_getElem hl, e]
theorem fst_take {s : Int} {ss : List Int} : (ss.take (fstI s ss)).count s = 0 := by
  rw [List.count_eq_zero]
  intro hm
  rw [List.mem_take_iff_getElem] at hm
  obtain ⟨j, hj, he⟩ := hm
  have hj1 : j < ss.findIdx (· == s) := by unfold fstI at hj; omega
  have := List.not_of_lt_findIdx hj1
  simp at this
  exact this he
theorem fstI_two {s : Int} {ss : List Int} (h : 2 ≤ ss.count s) : fstI s ss + 1 < ss.length := by
  have h1 : ss.count s = (ss.take (fstI s ss)).count s + (ss.drop (fstI s ss)).count s := by rw [← List.count_append, List.take_append_drop]
  rw [fst_take] at h1
  have h2 := List.count_le_length (a := s) (l := ss.drop (fstI s ss))
  rw [List.length_drop] at h2
  omega
theorem split2 {ss : List Int} {i : Nat} (h : i + 1 < ss.length) : ∃ y, ss = ss.take i ++ ss[i]'(by omega) :: y :: ss.drop (i + 2) := by
  refine ⟨ss[i + 1], ?_⟩
  rw [List.getElem_cons_drop, List.getElem_cons_drop, List.take_append_drop]

theorem mg_count {s z : Int} {ss : List Int} (h : 2 ≤ ss.count s) : (mgS ss s (fstI s ss)).count z ≤ ss.count z + (if z = 2 * s then 1 else 0) := by
  have hl := fstI_two h
  obtain ⟨y, hy⟩ := split2 hl
  unfold mgS
  have hc : ss.count z = (ss.take (fstI s ss)).count z + ((ss[fstI s ss]'(by omega)) :: y :: ss.drop (fstI s ss + 2)).count z := by
    rw [← List.count_append, ← hy]
  rw [List.count_append, hc]
  simp only [List.count_cons]
  by_cases hz : z = 2 * s
  · subst hz; simp; omega
  · have : (2 * s == z) = false := by simpa using fun e => hz e.symm
    simp only [this, if_neg hz]
    simp
    omega
theorem mg_count_s {s : Int} {ss : List Int} (hs : 1 ≤ s) (h : 2 ≤ ss.count s) : (mgS ss s (fstI s ss)).count s + 1 ≤ ss.count s := by
  have hl := fstI_two h
  have hf := (fstI_lt (by omega : 1 ≤ ss.count s))
  obtain ⟨y, hy⟩ := split2 hl
  have he : ss[fstI s ss]'(by omega) = s := by
    have := hf.2
    rw [List.getElem?_eq_getElem (by omega)] at this
    simpa using this
  rw [he] at hy
  unfold mgS
  have hc : ss.count s = (ss.take (fstI s ss)).count s + (s :: y :: ss.drop (fstI s ss + 2)).count s := by
    rw [← List.count_append, ← hy]
  rw [List.count_append, hc]
  simp only [List.count_cons]
  have : (2 * s == s) = false := by simp; omega
  simp only [this]
  simp
  omega
theorem mg_len {s : Int} {q : Pr} (hl : q.1.length = q.2.length) (h : 2 ≤ q.2.count s) : (merge s q).1.length + 1 = q.1.length ∧ (merge s q).2.length + 1 = q.2.length ∧ (merge s q).1.length = (merge s q).2.length := by
  have := fstI_two h
  unfold merge mgT mgS
  simp
  omega

/-- How often sizes stand, ahead of size s = 2^j. -/
structure PInv (P : Int) (j : Nat) (q : Pr) : Prop where
  len : q.1.length = q.2.length
  oth : ∀ z, z ≠ 2 ^ j → (q.2.count z : Int) ≤ P + 1
  own : (q.2.count (2 ^ j) : Int) ≤ P + 2
  big : j ≤ 20 → ∀ z, 1048576 < z → q.2.count z = 0
  end_ : j = 21 → q.2.count (2 ^ j) ≤ 1

theorem pinv_step {P : Int} (hP : 1 ≤ P) {j : Nat} (hj : j ≤ 20) {q : Pr} (h : PInv P j q) (hc : ¬ (q.2.count ((2 : Int) ^ j) : Int) ≤ P + 1) : PInv P (j + 1) (merge (2 ^ j) q) ∧ ((merge (2 ^ j) q).2.count ((2 : Int) ^ j) : Int) ≤ P + 1 := by
  have hp : (1 : Int) ≤ 2 ^ j := by have : (0 : Int) < 2 ^ j := Int.pow_pos (by omega); omega
  have h2 : 2 ≤ q.2.count ((2 : Int) ^ j) := by omega
  have hs := mg_count_s hp h2
  have h0 := h.own
  have hml := mg_len h.len h2
  have hown : ((merge (2 ^ j) q).2.count ((2 : Int) ^ j) : Int) ≤ P + 1 := by unfold merge; simp only; omega
  have e2 : (2 : Int) * 2 ^ j = 2 ^ (j + 1) := by rw [Int.pow_succ]; omega
  refine ⟨⟨hml.2.2, ?_, ?_, ?_, ?_⟩, hown⟩
  · intro z hz
    by_cases hzj : z = 2 ^ j
    · subst hzj; exact hown
    · have := mg_count (z := z) h2
      rw [if_neg (by rw [e2]; exact hz)] at this
      have := h.oth z hzj
      unfold merge; simp only; omega
  · have := mg_count (z := (2 : Int) ^ (j + 1)) h2
    rw [if_pos e2.symm] at this
    have := h.oth ((2 : Int) ^ (j + 1)) (by rw [← e2]; omega)
    unfold merge; simp only; omega
  · intro hj1 z hz
    have := mg_count (z := z) h2
    have hb := h.big hj z hz
    have : (2 : Int) ^ (j + 1) ≤ 1048576 := by
      have h1 : (2 : Nat) ^ (j + 1) ≤ 2 ^ 20 := Nat.pow_le_pow_right (by omega) hj1
      have h3 : ((2 : Int) ^ (j + 1)) = (((2 : Nat) ^ (j + 1) : Nat) : Int) := by simp
      rw [h3]; omega
    rw [if_neg (by rw [e2]; omega)] at *
    unfold merge; simp only; omega
  · intro hj1
    have hz : (1048576 : Int) < 2 ^ (j + 1) := by
      have : j = 20 := by omega
      subst this; decide
    have := mg_count (z := (2 : Int) ^ (j + 1)) h2
    rw [if_pos e2.symm] at this
    have hb := h.big hj _ hz
    unfold merge; simp only; omega
theorem pinv_skip {P : Int} (hP : 1 ≤ P) {j : Nat} (hj : j ≤ 20) {q : Pr} (h : PInv P j q) (hc : (q.2.count ((2 : Int) ^ j) : Int) ≤ P + 1) : PInv P (j + 1) q ∧ ∀ z, (q.2.count z : Int) ≤ P + 1 := by
  have hall : ∀ z, (q.2.count z : Int) ≤ P + 1 := by
    intro z
    by_cases hz : z = 2 ^ j
    · subst hz; exact hc
    · exact h.oth z hz
  refine ⟨⟨h.len, fun z _ => hall z, by have := hall (2 ^ (j + 1)); omega, fun hj1 => h.big hj, fun hj1 => ?_⟩, hall⟩
  have : j = 20 := by omega
  subst this
  rw [h.big (by omega) _ (by decide)]; omega

theorem implK_id {P : Int} : ∀ (n : Nat) (s : Int) (q : Pr), (∀ z, (q.2.count z : Int) ≤ P + 1) → implK P n s q = q := by
  intro n
  induction n with
  | zero => intro s q _; rfl
  | succ n ih =>
    intro s q h
    unfold implK stepP
    rw [if_pos (h s)]
    exact ih _ _ h
theorem putK_id {P : Int} : ∀ (n : Nat) (s : Int) (q : Pr), (∀ z, (q.2.count z : Int) ≤ P + 1) → putK P n s q = q := by
  intro n s q h
  cases n with
  | zero => rfl
  | succ n => unfold putK; rw [if_pos (h s)]
theorem put_impl {P : Int} (hP : 1 ≤ P) : ∀ (n j : Nat) (q : Pr), n + j ≤ 21 → PInv P j q → putK P n (2 ^ j) q = implK P n (2 ^ j) q := by
  intro n
  induction n with
  | zero => intro j q _ _; rfl
  | succ n ih =>
    intro j q hj h
    unfold putK implK stepP
    have e2 : (2 : Int) * 2 ^ j = 2 ^ (j + 1) := by rw [Int.pow_succ]; omega
    by_cases hc : (q.2.count ((2 : Int) ^ j) : Int) ≤ P + 1
    · rw [if_pos hc, if_pos hc]
      exact (implK_id _ _ _ (pinv_skip hP (by omega) h hc).2).symm
    · rw [if_neg hc, if_neg hc, e2]
      exact ih (j + 1) _ (by omega) (pinv_step hP (by omega) h hc).1

/-- In a valid window each size stands P + 1 times at most. -/
theorem run_count {P : Int} {ss : List Int} (h : ∀ k, k < ss.length → sizeOk P ss k = true) : ∀ k, k ≤ ss.length → (∀ z, ((ss.take k).count z : Int) ≤ P + 1 ∨ k = 0) ∧ (∀ z, 0 < k → z = at0 ss (k - 1) → ((ss.take k).count z : Int) = runK ss k) ∧ (∀ z, 0 < k → z < at0 ss (k - 1) → (ss.take k).count z = 0) := by
  intro k
  induction k with
  | zero => intro _; exact ⟨fun z => .inr rfl, fun z h => by omega, fun z h => by omega⟩
  | succ k ih =>
    intro hk
    obtain ⟨i1, i2, i3⟩ := ih (by omega)
    have hs := h k (by omega)
    simp only [sizeOk, Bool.and_eq_true, Bool.or_eq_true, decide_eq_true_eq, beq_iff_eq] at hs
    obtain ⟨⟨hp, hd⟩, hr⟩ := hs
    have ht : ss.take (k + 1) = ss.take k ++ [at0 ss k] := by
      rw [List.take_add_one, List.getElem?_eq_getElem (by omega)]
      simp [at0, List.getElem?_eq_getElem (show k < ss.length by omega)]
    have hc : ∀ z, (ss.take (k + 1)).count z = (ss.take k).count z + (if z = at0 ss k then 1 else 0) := by
      intro z
      rw [ht, List.count_append, List.count_singleton]
      by_cases hz : z = at0 ss k
      · subst hz; simp
      · have : (at0 ss k == z) = false := by simpa using fun e => hz e.symm
        simp [this, hz]
    have own : ((ss.take (k + 1)).count (at0 ss k) : Int) = runK ss (k + 1) := by
      rw [hc, if_pos rfl]
      by_cases hk0 : k = 0
      · subst hk0; simp [runK]
      · by_cases he : at0 ss k = at0 ss (k - 1)
        · rw [runK_same (by omega) he]
          have := i2 (at0 ss k) (by omega) he
          omega
        · rw [runK_new he]
          have : at0 ss k < at0 ss (k - 1) := by rcases hd with h1 | h1 <;> omega
          rw [i3 _ (by omega) this]; rfl
    refine ⟨fun z => .inl ?_, fun z _ hz => ?_, fun z _ hz => ?_⟩
    · by_cases hz : z = at0 ss k
      · subst hz; omega
      · rw [hc, if_neg hz]
        rcases i1 z with h1 | h1
        · simpa using h1
        · subst h1
          have h2 := runK_bd ss (0 + 1)
          simp
          have : 1 ≤ runK ss (0 + 1) := by simp [runK]
          omega
    · simp only [Nat.add_sub_cancel] at hz
      subst hz; exact own
    · simp only [Nat.add_sub_cancel] at hz
      rw [hc, if_neg (by omega)]
      by_cases hk0 : k = 0
      · subst hk0; simp
      · have : z < at0 ss (k - 1) := by rcases hd with h1 | h1 <;> omega
        rw [i3 z (by omega) this]

theorem win_count {L P : Int} {ts ss : List Int} (h : winB L P ts ss = true) (z : Int) : (ss.count z : Int) ≤ P + 1 := by
  obtain ⟨_, _, h3, _, _, h6, _, h8⟩ := winB_parts h
  have := (run_count (P := P) (ss := ss) (by rw [h6]; exact h8) ss.length (Nat.le_refl _)).1 z
  rw [List.take_length] at this
  rcases this with h1 | h1
  · exact h1
  · have : ss = [] := List.eq_nil_of_length_eq_zero h1
    subst this; simp; omega
theorem win_big {L P : Int} {ts ss : List Int} (h : winB L P ts ss = true) (z : Int) (hz : 1048576 < z) : ss.count z = 0 := by
  obtain ⟨_, _, h3, _, _, h6, _, h8⟩ := winB_parts h
  rw [List.count_eq_zero]
  intro hm
  obtain ⟨k, hk, he⟩ := List.getElem_of_mem hm
  have hs := h8 k (by omega)
  simp only [sizeOk, Bool.and_eq_true] at hs
  have := (isPow_bd hs.1.1).2
  simp [at0, List.getElem?_eq_getElem hk] at this
  omega

/-- The window ahead of the merges: what is kept, and the new bit. -/
def put0 (ks xs : List Int) (t : Int) (b : Bool) : Pr := if b then (ks ++ [t], xs ++ [1]) else (ks, xs)
theorem put0_inv {L P : Int} {ts ss : List Int} (h : winB L P ts ss = true) (n : Nat) (t : Int) (b : Bool) : PInv P 0 (put0 (ts.drop n) (ss.drop n) t b) := by
  obtain ⟨_, _, h3, _, _, h6, _, _⟩ := winB_parts h
  have hc : ∀ z, ((ss.drop n).count z : Int) ≤ P + 1 := by
    intro z
    have h1 := win_count h z
    have h2 : ss.count z = (ss.take n).count z + (ss.drop n).count z := by rw [← List.count_append, List.take_append_drop]
    omega
  have hb : ∀ z, 1048576 < z → (ss.drop n).count z = 0 := by
    intro z hz
    have h1 := win_big h z hz
    have h2 : ss.count z = (ss.take n).count z + (ss.drop n).count z := by rw [← List.count_append, List.take_append_drop]
    omega
  cases b with
  | false => exact ⟨by simp [put0, h6], fun z _ => hc z, by have := hc (2 ^ 0); show ((ss.drop n).count _ : Int) ≤ _; omega, fun _ => hb, fun h => by omega⟩
  | true =>
    have hq : ∀ z, (put0 (ts.drop n) (ss.drop n) t true).2.count z = (ss.drop n).count z + (if z = 1 then 1 else 0) := by
      intro z
      show (ss.drop n ++ [1]).count z = _
      rw [List.count_append, List.count_singleton]
      by_cases hz : z = 1
      · subst hz; simp
      · have : ((1 : Int) == z) = false := by simpa using fun e => hz e.symm
        simp [this, hz]
    refine ⟨by simp [put0, h6], fun z hz => ?_, ?_, fun _ z hz => ?_, fun h => by omega⟩
    · rw [hq, if_neg (by simpa using hz)]; simpa using hc z
    · rw [hq]
      have := hc (2 ^ 0)
      have e : ((2 : Int) ^ 0) = 1 := rfl
      rw [e] at this ⊢
      simp; omega
    · rw [hq, if_neg (by omega)]; simpa using hb z hz

/-- What becomes of a window. -/
def putR (P : Int) (q : Pr) : Pr := putK P 21 1 q
theorem putR_impl {L P : Int} {ts ss : List Int} (h : winB L P ts ss = true) (n : Nat) (t : Int) (b : Bool) : putR P (put0 (ts.drop n) (ss.drop n) t b) = implK P 21 1 (put0 (ts.drop n) (ss.drop n) t b) := by
  have h3 := (winB_parts h).2.2.1
  have := put_impl h3 21 0 _ (by omega) (put0_inv h n t b)
  simpa [putR] using this

end Go.Proofs.Ytncbkbfkdgggkaa

namespace Go.Proofs.Ytncbkbfkdgggkaa
open Go.RowKit

def lstG (g : List Int) : Int := g.getLast?.getD 0
def gS (G : List (List Int)) : List Int := G.map (fun g => (g.length : Int))
def gT (G : List (List Int)) : List Int := G.map lstG
/-- Groups of the ones: sizes are powers, falling; as many of each lesser size. -/
structure DgJ (P : Int) (G : List (List Int)) : Prop where
  ne : ∀ g ∈ G, g ≠ []
  pow : ∀ g ∈ G, ∃ j : Nat, g.length = 2 ^ j
  desc : (gS G).Pairwise (fun a b => b ≤ a)
  low : ∀ a b : Nat, a < b → (2 : Int) ^ b ∈ gS G → P ≤ ((gS G).count ((2 : Int) ^ a) : Int)

theorem two_pow_int (j : Nat) : (2 : Int) ^ j = ((2 ^ j : Nat) : Int) := by simp
theorem pow_gt {a j : Nat} (h : (2 : Int) ^ j < 2 ^ a) : 2 * (2 : Int) ^ j ≤ 2 ^ a := by
  rw [two_pow_int, two_pow_int] at h
  have h2 : 2 ^ j < 2 ^ a := by omega
  have h3 : j < a := (Nat.pow_lt_pow_iff_right (by decide)).1 h2
  have h4 : 2 ^ (j + 1) ≤ 2 ^ a := Nat.pow_le_pow_right (by decide) h3
  rw [Nat.pow_succ] at h4
  rw [two_pow_int, two_pow_int]
  omega
theorem lst_app {g h : List Int} (hh : h ≠ []) : lstG (g ++ h) = lstG h := by
  unfold lstG
  cases hx : h.getLast? with
  | none => exact absurd (List.getLast?_eq_none_iff.1 hx) hh
  | some x => rw [List.getLast?_append, hx]; rfl

theorem merge_dg {P : Int} {j : Nat} {G : List (List Int)} (D : DgJ P G) (hc : P + 1 < ((gS G).count ((2 : Int) ^ j) : Int)) (hP : 1 ≤ P) :
    ∃ G', merge (2 ^ j) (gT G, gS G) = (gT G', gS G') ∧ DgJ P G' ∧ G'.flatten = G.flatten := by
  obtain ⟨s, hs⟩ : ∃ s, (2 : Int) ^ j = s := ⟨_, rfl⟩
  rw [hs] at hc ⊢
  have h2 : 2 ≤ (gS G).count s := by omega
  obtain ⟨i, hi⟩ : ∃ i, fstI s (gS G) = i := ⟨_, rfl⟩
  have hil := fstI_two h2
  have his := (fstI_lt (s := s) (ss := gS G) (by omega)).2
  have hft := fst_take (s := s) (ss := gS G)
  unfold merge
  simp only []
  rw [hi] at hil his hft ⊢
  have hGl : (gS G).length = G.length := by simp [gS]
  rw [hGl] at hil
  obtain ⟨A, g, h, B, hG, hA⟩ : ∃ A g h B, G = A ++ g :: h :: B ∧ A.length = i := by
    refine ⟨G.take i, G[i]'(by omega), G[i + 1]'hil, G.drop (i + 2), ?_, by simp; omega⟩
    rw [List.getElem_cons_drop, List.getElem_cons_drop, List.take_append_drop]
  subst hG
  have eS : gS (A ++ g :: h :: B) = gS A ++ (g.length : Int) :: (h.length : Int) :: gS B := by simp [gS]
  have eT : gT (A ++ g :: h :: B) = gT A ++ lstG g :: lstG h :: gT B := by simp [gT]
  have lS : (gS A).length = i := by simp [gS, hA]
  have lT : (gT A).length = i := by simp [gT, hA]
  rw [eS] at his hft h2
  have hgs : (g.length : Int) = s := by
    rw [List.getElem?_append_right (by omega), lS, Nat.sub_self] at his
    simpa using his
  rw [← lS, List.take_left' rfl] at hft
  have hdes := D.desc
  rw [eS, List.pairwise_append] at hdes
  obtain ⟨dA, dgh, dAB⟩ := hdes
  rw [List.pairwise_cons, List.pairwise_cons] at dgh
  obtain ⟨dg, dh, dB⟩ := dgh
  rw [List.count_append, hft, hgs, List.count_cons_self] at h2
  have hhs : (h.length : Int) = s := by
    have hle := dg _ (List.mem_cons_self)
    rw [hgs] at hle
    refine Decidable.byContradiction fun hne => ?_
    have hlt : (h.length : Int) < s := by omega
    have : (gS B).count s = 0 := List.count_eq_zero.2 fun hm => by have := dh _ hm; omega
    rw [List.count_cons_of_ne (by omega)] at h2
    omega
  have hgne : h ≠ [] := D.ne h (by simp)
  have hs1 : 1 ≤ s := by rw [← hs, two_pow_int]; have := Nat.pow_pos (n := j) (show 0 < 2 by decide); omega
  have hAgt : ∀ a ∈ gS A, 2 * s ≤ a := by
    intro a ha
    have h1 := dAB a ha _ (List.mem_cons_self)
    rw [hgs] at h1
    have h3 : a ≠ s := fun e => by
      rw [e] at ha
      exact absurd hft (by have := List.count_pos_iff.2 ha; omega)
    obtain ⟨x, hx, rfl⟩ := List.mem_map.1 ha
    obtain ⟨k, hk⟩ := D.pow x (by simp [hx])
    rw [← hs]
    rw [hk, ← two_pow_int] at h1 h3 ⊢
    rw [← hs] at h1 h3
    exact pow_gt (by omega)
  have eS' : gS (A ++ (g ++ h) :: B) = gS A ++ 2 * s :: gS B := by
    simp only [gS, List.map_append, List.map_cons, List.length_append]
    rw [Int.natCast_add, hgs, hhs]
    congr 2
    omega
  have hcnt : ∀ z, ((gS (A ++ (g ++ h) :: B)).count z : Int) = (gS (A ++ g :: h :: B)).count z - (if z = s then 2 else 0) + (if z = 2 * s then 1 else 0) := by
    intro z
    have cc : ∀ (x : Int) (l : List Int), (x :: l).count z = l.count z + if x = z then 1 else 0 := fun x l => by rw [List.count_cons]; simp
    rw [eS', eS, hgs, hhs, List.count_append, List.count_append, cc, cc, cc]
    by_cases z1 : z = s
    · have z2 : ¬ 2 * s = z := by omega
      have z3 : ¬ z = 2 * s := by omega
      rw [if_neg z2, if_pos z1.symm, if_pos z1, if_neg z3]; omega
    · have z4 : ¬ s = z := fun e => z1 e.symm
      by_cases z2 : z = 2 * s
      · rw [if_pos z2.symm, if_neg z4, if_neg z1, if_pos z2]; omega
      · have z3 : ¬ 2 * s = z := fun e => z2 e.symm
        rw [if_neg z3, if_neg z4, if_neg z1, if_neg z2]; omega
  refine ⟨A ++ (g ++ h) :: B, ?_, ⟨?_, ?_, ?_, ?_⟩, by simp⟩
  · rw [eS, eT, eS']
    have eT' : gT (A ++ (g ++ h) :: B) = gT A ++ lstG h :: gT B := by simp [gT, lst_app hgne]
    rw [eT']
    unfold mgT mgS
    refine Prod.ext ?_ ?_
    · show (gT A ++ _).take i ++ (gT A ++ _).drop (i + 1) = _
      rw [← lT, List.take_left' rfl, List.drop_append, List.drop_eq_nil_of_le (by omega)]
      simp
    · show (gS A ++ _).take i ++ 2 * s :: (gS A ++ _).drop (i + 2) = _
      rw [← lS, List.take_left' rfl, List.drop_append, List.drop_eq_nil_of_le (by omega)]
      simp
  · intro x hx
    rw [List.mem_append, List.mem_cons] at hx
    rcases hx with hx | rfl | hx
    · exact D.ne x (by simp [hx])
    · simp [hgne]
    · exact D.ne x (by simp [hx])
  · intro x hx
    rw [List.mem_append, List.mem_cons] at hx
    rcases hx with hx | rfl | hx
    · exact D.pow x (by simp [hx])
    · refine ⟨j + 1, ?_⟩
      rw [List.length_append, Nat.pow_succ]
      rw [← hs, two_pow_int] at hgs hhs
      omega
    · exact D.pow x (by simp [hx])
  · rw [eS', List.pairwise_append]
    refine ⟨dA, ?_, ?_⟩
    · rw [List.pairwise_cons]
      refine ⟨fun b hb => ?_, dB⟩
      have := dh b hb
      omega
    · intro a ha b hb
      have h1 := hAgt a ha
      rcases List.mem_cons.1 hb with rfl | hb
      · exact h1
      · have := dh b hb
        omega
  · intro a b hab hm
    rw [hcnt]
    have low := D.low
    have hsm : s ∈ gS (A ++ g :: h :: B) := by rw [eS, hgs]; simp
    by_cases ha : (2 : Int) ^ a = s
    · rw [if_pos ha, if_neg (by omega), ha]
      omega
    · rw [if_neg ha]
      have base : P ≤ ((gS (A ++ g :: h :: B)).count ((2 : Int) ^ a) : Int) := by
        by_cases hb : (2 : Int) ^ b ∈ gS (A ++ g :: h :: B)
        · exact low a b hab hb
        · rw [eS', List.mem_append, List.mem_cons] at hm
          rw [eS, List.mem_append, List.mem_cons, List.mem_cons] at hb
          have hb2 : (2 : Int) ^ b = 2 * s := by
            rcases hm with hm | hm | hm
            · exact absurd (.inl hm) hb
            · exact hm
            · exact absurd (.inr (.inr (.inr hm))) hb
          have hbj : b = j + 1 := by
            rw [← hs, two_pow_int, two_pow_int] at hb2
            have h5 : 2 ^ b = 2 ^ (j + 1) := by rw [Nat.pow_succ]; omega
            exact (Nat.pow_right_inj (by decide)).1 h5
          have haj : a ≠ j := fun e => ha (by rw [e, hs])
          exact low a j (by omega) (by rw [hs]; exact hsm)
      split <;> omega

/-- All sizes: the groups are joined, no one is lost. -/
theorem implK_dg {P : Int} (hP : 1 ≤ P) : ∀ (n j : Nat), n + j ≤ 21 → ∀ G, DgJ P G → PInv P j (gT G, gS G) → ∃ G', implK P n (2 ^ j) (gT G, gS G) = (gT G', gS G') ∧ DgJ P G' ∧ PInv P (j + n) (gT G', gS G') ∧ G'.flatten = G.flatten
  | 0, j, _, G, D, I => ⟨G, rfl, D, I, rfl⟩
  | n + 1, j, hn, G, D, I => by
    have e2 : 2 * (2 : Int) ^ j = 2 ^ (j + 1) := by rw [Int.pow_succ]; omega
    show ∃ G', implK P n (2 * 2 ^ j) (stepP P (2 ^ j) (gT G, gS G)) = _ ∧ _
    rw [e2, show j + (n + 1) = j + 1 + n by omega]
    unfold stepP
    by_cases hc : ((gS G).count ((2 : Int) ^ j) : Int) ≤ P + 1
    · rw [if_pos hc]
      exact implK_dg hP n (j + 1) (by omega) G D (pinv_skip hP (by omega) I hc).1
    · rw [if_neg hc]
      obtain ⟨G1, h1, D1, f1⟩ := merge_dg (j := j) D (by omega) hP
      have I1 := (pinv_step hP (by omega) I hc).1
      rw [h1] at I1 ⊢
      obtain ⟨G2, h2, D2, I2, f2⟩ := implK_dg hP n (j + 1) (by omega) G1 D1 I1
      exact ⟨G2, h2, D2, I2, f2.trans f1⟩

end Go.Proofs.Ytncbkbfkdgggkaa

namespace Go.Proofs.Ytncbkbfkdgggkaa
open Go.RowKit

theorem bcell {W w1 : World} (hb : Below W.heap.size W w1) : (∀ b o, b < W.heap.size → w1.cell? ⟨b, o, none⟩ = W.cell? ⟨b, o, none⟩) ∧ (∀ b o, b < W.heap.size → w1.frozen? ⟨b, o, none⟩ = W.frozen? ⟨b, o, none⟩) :=
  ⟨fun b o h => hb.cell (p := ⟨b, o, none⟩) h, fun b o h => hb.frozen (p := ⟨b, o, none⟩) h⟩

def lastOk (ts : List Int) (t : Int) : Bool := ts.length == 0 || decide (at0 ts (ts.length - 1) ≤ t)
def lateB (L P : Int) (ts ss : List Int) (t : Int) : Bool := winB L P ts ss && inR t 0 1000000 && lastOk ts t

/-- The three variables of 'kept' have been made. -/
def keptW (w : World) (L P : Int) (ta : Option Addr) (tl tc : Nat) (sa : Option Addr) (sl sc : Nat) (t : Int) : World :=
  ((w.alloc (.cells #[.int .i64 L, .int .i64 P, .slice ta tl tc, .slice sa sl sc] 28)).alloc (.cells #[.int .i64 t] 2)).alloc (.cells #[.int .i64 0, .int .i64 0, .slice none 0 0, .slice none 0 0] 28)
structure KeptW (w W : World) (L P : Int) (ta : Option Addr) (tl tc : Nat) (sa : Option Addr) (sl sc : Nat) (t : Int) : Prop where
  c0 : W.cell? ⟨w.heap.size, 0, none⟩ = some (.int .i64 L)
  c1 : W.cell? ⟨w.heap.size, 1, none⟩ = some (.int .i64 P)
  c2 : W.cell? ⟨w.heap.size, 2, none⟩ = some (.slice ta tl tc)
  c3 : W.cell? ⟨w.heap.size, 3, none⟩ = some (.slice sa sl sc)
  ct : W.cell? ⟨w.heap.size + 1, 0, none⟩ = some (.int .i64 t)
  r0 : W.cell? ⟨w.heap.size + 1 + 1, 0, none⟩ = some (.int .i64 0)
  r1 : W.cell? ⟨w.heap.size + 1 + 1, 1, none⟩ = some (.int .i64 0)
  r2 : W.cell? ⟨w.heap.size + 1 + 1, 2, none⟩ = some (.slice none 0 0)
  r3 : W.cell? ⟨w.heap.size + 1 + 1, 3, none⟩ = some (.slice none 0 0)
  f0 : ∀ o, W.frozen? ⟨w.heap.size + 1 + 1, o, none⟩ = false
  z : w.heap.size + 3 ≤ W.heap.size
  B : Below w.heap.size w W
theorem keptW_is (w : World) (L P : Int) (ta : Option Addr) (tl tc : Nat) (sa : Option Addr) (sl sc : Nat) (t : Int) : KeptW w (keptW w L P ta tl tc sa sl sc t) L P ta tl tc sa sl sc t := by
  unfold keptW
  refine ⟨?_, ?_, ?_, ?_, ?_, ?_, ?_, ?_, ?_, ?_, by simp, (((Below.refl _ _).alloc (Nat.le_refl _) _).alloc (by simp) _).alloc (by simp; omega) _⟩
  case refine_10 => intro o; simp [go_sem]
  all_goals simp [go_sem]
theorem KeptW.below {w W W' : World} {L P : Int} {ta : Option Addr} {tl tc : Nat} {sa : Option Addr} {sl sc : Nat} {t : Int} (h : KeptW w W L P ta tl tc sa sl sc t) (hb : Below W.heap.size W W') : KeptW w W' L P ta tl tc sa sl sc t := by
  have hz := h.z
  have hc := fun b o (hl : b < W.heap.size) => hb.cell (p := ⟨b, o, none⟩) hl
  have hf := fun b o (hl : b < W.heap.size) => hb.frozen (p := ⟨b, o, none⟩) hl
  refine ⟨?_, ?_, ?_, ?_, ?_, ?_, ?_, ?_, ?_, fun o => ?_, Nat.le_trans hz hb.size, h.B.trans (hb.mono h.B.size)⟩
  · rw [hc _ _ (by omega)]; exact h.c0
  · rw [hc _ _ (by omega)]; exact h.c1
  · rw [hc _ _ (by omega)]; exact h.c2
  · rw [hc _ _ (by omega)]; exact h.c3
  · rw [hc _ _ (by omega)]; exact h.ct
  · rw [hc _ _ (by omega)]; exact h.r0
  · rw [hc _ _ (by omega)]; exact h.r1
  · rw [hc _ _ (by omega)]; exact h.r2
  · rw [hc _ _ (by omega)]; exact h.r3
  · rw [hf _ _ (by omega)]; exact h.f0 o

set_option maxRecDepth 4000 in
set_option maxHeartbeats 2000000 in
theorem kept_no {ta sa : Option Addr} {tc sc : Nat} {ts ss : List Int} {L P t : Int} {w : World} (ht : Rd (Value.int .i64) w ta tc ts) (hs : Rd (Value.int .i64) w sa sc ss) (h : lateB L P ts ss t = false) :
    Calls Try.prog 21 #[winV L P ta ts.length tc sa ss.length sc, .int .i64 t] w fun e w' => e = .returned (.tuple #[winV 0 0 none 0 0 none 0 0, .bool false]) ∧ Below w.heap.size w w' := by
  have hlt := ht.len
  have hls := hs.len
  have HK := Lib.hid (keptW_is w L P ta ts.length tc sa ss.length sc t)
  unfold keptW at HK
  cases h1 : winB L P ts ss with
  | false =>
    go_enter Try.func21, Try.ntmps21
    go_wp2_with fail
    generalize ((w.alloc (.cells #[.int .i64 L, .int .i64 P, .slice ta ts.length tc, .slice sa ss.length sc] 28)).alloc (.cells #[.int .i64 t] 2)).alloc (.cells #[.int .i64 0, .int .i64 0, .slice none 0 0, .slice none 0 0] 28) = W at HK ⊢
    obtain ⟨ι, hne, G, hG, hS⟩ := calm_family W
    have HKG := Lib.hid (fun i => HK.out.below (hG i))
    have c0 := fun i => (HKG.out i).c0
    have c1 := fun i => (HKG.out i).c1
    have c2 := fun i => (HKG.out i).c2
    have c3 := fun i => (HKG.out i).c3
    have ct := fun i => (HKG.out i).ct
    have HT := Lib.hid (fun i => ht.below (HKG.out i).B (Nat.le_refl _))
    have HS := Lib.hid (fun i => hs.below (HKG.out i).B (Nat.le_refl _))
    have HG := Lib.hid hG
    have HSU := Lib.hid hS
    clear hG hS
    refine wp_region_calm (G := G) (by kernel_rfl) (by kernel_rfl) HSU.out ?_
    repeat (go_big_quiet_step ((first | (go_at_call 9; exact calm_call HG.out HSU.out (validWindow_any (HT.out _) (HS.out _))) | (go_at_call 27; exact calm_same isTime_any))))
    refine wpQuiet_nil ?_
    intro _ hw'
    obtain ⟨i, hw''⟩ := hw'
    subst hw''
    have K2 := HKG.out i
    have r0 := K2.r0
    have r1 := K2.r1
    have r2 := K2.r2
    have r3 := K2.r3
    have f0 := K2.f0 0
    have f1 := K2.f0 1
    have f2 := K2.f0 2
    have f3 := K2.f0 3
    have HB := Lib.hid K2.B
    clear c0 c1 c2 c3 ct K2
    generalize G i = W2 at r0 r1 r2 r3 f0 f1 f2 f3 HB ⊢
    go_wp2
    exact bodyPost_ret (v := .tuple #[winV 0 0 none 0 0 none 0 0, .bool false]) (by simp [results, Try.results21, go_sem, r0, r1, r2, r3]) rfl ⟨rfl, (((HB.out.setCell (by simp; omega) _).setCell (by simp; omega) _).setCell (by simp; omega) _).setCell (by simp; omega) _⟩
  | true =>
  cases h2 : inR t 0 1000000 with
  | false =>
    go_enter Try.func21, Try.ntmps21
    go_wp2_with fail
    generalize ((w.alloc (.cells #[.int .i64 L, .int .i64 P, .slice ta ts.length tc, .slice sa ss.length sc] 28)).alloc (.cells #[.int .i64 t] 2)).alloc (.cells #[.int .i64 0, .int .i64 0, .slice none 0 0, .slice none 0 0] 28) = W at HK ⊢
    obtain ⟨ι, hne, G, hG, hS⟩ := calm_family W
    have HKG := Lib.hid (fun i => HK.out.below (hG i))
    have c0 := fun i => (HKG.out i).c0
    have c1 := fun i => (HKG.out i).c1
    have c2 := fun i => (HKG.out i).c2
    have c3 := fun i => (HKG.out i).c3
    have ct := fun i => (HKG.out i).ct
    have HT := Lib.hid (fun i => ht.below (HKG.out i).B (Nat.le_refl _))
    have HS := Lib.hid (fun i => hs.below (HKG.out i).B (Nat.le_refl _))
    have HG := Lib.hid hG
    have HSU := Lib.hid hS
    clear hG hS
    refine wp_region_calm (G := G) (by kernel_rfl) (by kernel_rfl) HSU.out ?_
    repeat (go_big_quiet_step ((first | (go_at_call 9; exact calm_call HG.out HSU.out (validWindow_any (HT.out _) (HS.out _))) | (go_at_call 27; exact calm_same isTime_any))))
    refine wpQuiet_nil ?_
    intro _ hw'
    obtain ⟨i, hw''⟩ := hw'
    subst hw''
    have K2 := HKG.out i
    have r0 := K2.r0
    have r1 := K2.r1
    have r2 := K2.r2
    have r3 := K2.r3
    have f0 := K2.f0 0
    have f1 := K2.f0 1
    have f2 := K2.f0 2
    have f3 := K2.f0 3
    have HB := Lib.hid K2.B
    clear c0 c1 c2 c3 ct K2
    generalize G i = W2 at r0 r1 r2 r3 f0 f1 f2 f3 HB ⊢
    go_wp2
    exact bodyPost_ret (v := .tuple #[winV 0 0 none 0 0 none 0 0, .bool false]) (by simp [results, Try.results21, go_sem, r0, r1, r2, r3]) rfl ⟨rfl, (((HB.out.setCell (by simp; omega) _).setCell (by simp; omega) _).setCell (by simp; omega) _).setCell (by simp; omega) _⟩
  | true =>
    by_cases h0 : ts.length = 0
    · exfalso
      simp [lateB, h1, h2, lastOk, h0] at h
    · obtain ⟨p, hp⟩ : ∃ p, at0 ts (ts.length - 1) = p := ⟨_, rfl⟩
      have hlt2 : t < p := by
        simp [lateB, h1, h2, lastOk, h0, hp] at h
        exact h
      have hpos : (0 : Int) < (ts.length : Int) := by omega
      have hposn : 0 < ts.length := by omega
      have hposd : decide (0 < ts.length) = true := by simp; omega
      have hlast : ts.length - 1 < ts.length := by omega
      clear h h0
      go_enter Try.func21, Try.ntmps21
      go_wp2_with fail
      generalize ((w.alloc (.cells #[.int .i64 L, .int .i64 P, .slice ta ts.length tc, .slice sa ss.length sc] 28)).alloc (.cells #[.int .i64 t] 2)).alloc (.cells #[.int .i64 0, .int .i64 0, .slice none 0 0, .slice none 0 0] 28) = W at HK ⊢
      obtain ⟨ι, hne, G, hG, hS⟩ := calm_family W
      have HKG := Lib.hid (fun i => HK.out.below (hG i))
      have c0 := fun i => (HKG.out i).c0
      have c1 := fun i => (HKG.out i).c1
      have c2 := fun i => (HKG.out i).c2
      have c3 := fun i => (HKG.out i).c3
      have ct := fun i => (HKG.out i).ct
      have HT := Lib.hid (fun i => ht.below (HKG.out i).B (Nat.le_refl _))
      have HS := Lib.hid (fun i => hs.below (HKG.out i).B (Nat.le_refl _))
      have HG := Lib.hid hG
      have HSU := Lib.hid hS
      clear hG hS
      have hcl := fun i => at0_cell (HT.out i) hlast hp
      have hix := rd_idxAt ht und_is siz_is (ts.length - 1) hlast ((ts.length : Int) - 1) (by omega)
      have ew : IntKind.i64.wrap ((ts.length : Int) - 1) = (ts.length : Int) - 1 := IntWalk.i64_in _ (by omega)
      clear hp
      refine wp_region_calm (G := G) (by kernel_rfl) (by kernel_rfl) HSU.out ?_
      repeat (go_big_quiet_step ((first | (go_at_call 9; exact calm_call HG.out HSU.out (validWindow_any (HT.out _) (HS.out _))) | (go_at_call 27; exact calm_same isTime_any))))
      refine wpQuiet_nil ?_
      intro _ hw'
      obtain ⟨i, hw''⟩ := hw'
      subst hw''
      clear hcl hix ew
      have K2 := HKG.out i
      have r0 := K2.r0
      have r1 := K2.r1
      have r2 := K2.r2
      have r3 := K2.r3
      have f0 := K2.f0 0
      have f1 := K2.f0 1
      have f2 := K2.f0 2
      have f3 := K2.f0 3
      have HB := Lib.hid K2.B
      clear c0 c1 c2 c3 ct K2
      generalize G i = W2 at r0 r1 r2 r3 f0 f1 f2 f3 HB ⊢
      go_wp2
      exact bodyPost_ret (v := .tuple #[winV 0 0 none 0 0 none 0 0, .bool false]) (by simp [results, Try.results21, go_sem, r0, r1, r2, r3]) rfl ⟨rfl, (((HB.out.setCell (by simp; omega) _).setCell (by simp; omega) _).setCell (by simp; omega) _).setCell (by simp; omega) _⟩

end Go.Proofs.Ytncbkbfkdgggkaa
