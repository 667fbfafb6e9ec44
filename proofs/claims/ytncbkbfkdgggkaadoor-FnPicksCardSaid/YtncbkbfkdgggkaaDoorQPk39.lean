/- JoinDistinct in both texts. -/
import Derived.Test.YtncbkbfkdgggkaaDoorQPk37
import Derived.Test.YtncbkbfkdgggkaaDoorQPk8
set_option linter.unusedVariables false
set_option linter.unusedSimpArgs false
namespace Go.Proofs.YtncbkbfkdgggkaaDoor
open Go.RowKit

/-- Each number is greater than the one before. -/
def incB (xs : List Int) : Bool := (List.range xs.length).all fun j => decide (j = 0) || decide (at0 xs (j - 1) < at0 xs j)
theorem incB_no {xs : List Int} {k : Nat} (hk : k < xs.length) (h0 : 0 < k) (h : at0 xs k ≤ at0 xs (k - 1)) : incB xs = false := by
  unfold incB
  rw [List.all_eq_false]
  refine ⟨k, List.mem_range.2 hk, ?_⟩
  rw [decide_eq_false (by omega), decide_eq_false (by omega)]
  simp
theorem incB_yes {xs : List Int} (h : ∀ j, j < xs.length → 0 < j → at0 xs (j - 1) < at0 xs j) : incB xs = true := by
  unfold incB
  rw [List.all_eq_true]
  intro j hj
  rw [List.mem_range] at hj
  by_cases h0 : j = 0
  · rw [decide_eq_true h0]; rfl
  · rw [decide_eq_true (h j hj (by omega))]; simp
/-- Keys in strictly ascending order, at most room of them. -/
def rsB (xs : List Int) (room : Int) : Bool := decide ((xs.length : Int) ≤ room) && keysB xs && incB xs

set_option maxRecDepth 8000 in
set_option maxHeartbeats 1000000 in
theorem isInc_any {a : Option Addr} {c : Nat} {xs : List Int} {w : World} (hr : Rd (Value.int .i64) w a c xs) :
    Calls Tryd.prog 39 #[.slice a xs.length c] w fun e w' => e = .returned (.bool (incB xs)) ∧ Below w.heap.size w w' := by
  have hln := hr.len
  have HR := Lib.hid hr
  obtain ⟨n, hnn⟩ : ∃ n, xs.length = n := ⟨_, rfl⟩
  obtain ⟨b, hb⟩ : ∃ b, incB xs = b := ⟨_, rfl⟩
  have HN := Lib.hid hnn
  have HBB := Lib.hid hb
  rw [hnn] at hln ⊢
  rw [hb]
  clear hr hnn hb
  go_enter Tryd.func39, Tryd.ntmps39
  go_wp2_with fail
  go_loopw [3, 6] (fun _ vi wr => ∃ k : Nat, vi = .int .i64 k ∧ k ≤ n ∧ Hid (∀ j, j < k → 0 < j → at0 xs (j - 1) < at0 xs j) ∧ Below w.heap.size w wr) (fun _ vi _ => n - (intOf vi).toNat)
  case atStart => exact ⟨0, rfl, Nat.zero_le _, Lib.hid (fun j h1 h2 => by omega), Below.refl _ _⟩
  case round =>
    obtain ⟨k, rfl, hk, HP, hb⟩ := hrel
    have HB := Lib.hid hb
    obtain ⟨wi, hwi⟩ : ∃ wi : World, wi = wr := ⟨_, rfl⟩
    rw [← hwi]
    rw [← hwi] at HB
    clear hb hwi
    by_cases hlt : k < n
    · have hltz : (k : Int) < (n : Int) := by omega
      have ewk : IntKind.i64.wrap ((k : Int) + 1) = (k : Int) + 1 := IntWalk.i64_in _ (by omega)
      by_cases h0 : k = 0
      · subst h0
        have hd : decide ((0 : Int) < ((0 : Nat) : Int)) = false := by decide
        have HP1 : Hid (∀ j, j < 0 + 1 → 0 < j → at0 xs (j - 1) < at0 xs j) := Lib.hid (fun j h1 h2 => by omega)
        go_wp2_with fail
        go_quiet (fail)
        have HBW := Lib.hid (HB.out.trans (below_of_drewN wi nq _))
        clear HB
        generalize wi.drewN nq = wz at HBW ⊢
        go_wp2
        go_roundw
        case rel => exact ⟨0 + 1, by go_num, by omega, HP1, HBW.out⟩
        case measure => simp [intOf]; omega
      · obtain ⟨kp, rfl⟩ : ∃ kp, k = kp + 1 := ⟨k - 1, by omega⟩
        have hd : decide ((0 : Int) < (kp : Int) + 1) = true := decide_eq_true (by omega)
        obtain ⟨x, hx⟩ : ∃ x, at0 xs (kp + 1) = x := ⟨_, rfl⟩
        obtain ⟨y, hy⟩ : ∃ x, at0 xs kp = x := ⟨_, rfl⟩
        have hcx := at0_cell2 (HR.out.below HB.out (Nat.le_refl _)) (by rw [HN.out]; exact hlt) hx
        have hcy := at0_cell2 (HR.out.below HB.out (Nat.le_refl _)) (by rw [HN.out]; omega) hy
        have hix := rd_idxAt HR.out und_is siz_is (kp + 1) (by rw [HN.out]; exact hlt) ((kp : Int) + 1) (by omega)
        have hiy := rd_idxAt HR.out und_is siz_is kp (by rw [HN.out]; omega) (kp : Int) rfl
        rw [HN.out] at hix hiy
        have ew : IntKind.i64.wrap (kp : Int) = (kp : Int) := IntWalk.i64_in _ (by omega)
        have HXY := Lib.hid (And.intro hx hy)
        clear hx hy
        by_cases hxy : x ≤ y
        · have hd2 : decide (x ≤ y) = true := decide_eq_true hxy
          have HE : Hid (b = false) := Lib.hid (by rw [← HBB.out]; exact incB_no (k := kp + 1) (by rw [HN.out]; exact hlt) (by omega) (by rw [HXY.out.1, Nat.add_sub_cancel, HXY.out.2]; exact hxy))
          clear hxy
          go_wp2_with fail
          go_quiet (fail)
          have HBW := Lib.hid (HB.out.trans (below_of_drewN wi nq _))
          clear HB hcx hcy
          generalize wi.drewN nq = wz at HBW ⊢
          go_wp2
          go_ret
          exact ⟨ret_bool HE.out.symm, HBW.out⟩
        · have hd2 : decide (x ≤ y) = false := decide_eq_false hxy
          have HP1 : Hid (∀ j, j < kp + 1 + 1 → 0 < j → at0 xs (j - 1) < at0 xs j) := Lib.hid (fun j h1 h2 => by
            by_cases h : j = kp + 1
            · subst h; rw [Nat.add_sub_cancel, HXY.out.1, HXY.out.2]; omega
            · exact HP.out j (by omega) h2)
          clear hxy
          go_wp2_with fail
          go_quiet (fail)
          have HBW := Lib.hid (HB.out.trans (below_of_drewN wi nq _))
          clear HB hcx hcy
          generalize wi.drewN nq = wz at HBW ⊢
          go_wp2
          go_roundw
          case rel => exact ⟨kp + 1 + 1, by go_num, by omega, HP1, HBW.out⟩
          case measure => simp [intOf]; omega
    · obtain rfl : k = n := by omega
      have hltz : ¬ (k : Int) < (k : Int) := by omega
      have HE : Hid (b = true) := Lib.hid (by rw [← HBB.out]; exact incB_yes (fun j h1 h2 => HP.out j (by rw [← HN.out]; exact h1) h2))
      go_wp2
      go_ret
      exact ⟨ret_bool HE.out.symm, HB.out⟩

theorem isRoom_any {x : Int} {w : World} : Calls Tryd.prog 70 #[.int .i64 x] w fun e w' => e = .returned (.bool (inR x 1 256)) ∧ w = w' := by
  go_enter Tryd.func70, Tryd.ntmps70
  go_wp2_with fail
  refine (within_any _ _ _ _).mono ?_
  rintro e w1 ⟨rfl, rfl⟩
  go_wp2
  go_ret
  exact ⟨rfl, rfl⟩

theorem isLeast_any {a : Option Addr} {c : Nat} {xs : List Int} {room : Int} {w : World} (hr : Rd (Value.int .i64) w a c xs) (hrm : inR room 1 128 = true) :
    Calls Tryd.prog 49 #[.slice a xs.length c, .int .i64 room] w fun e w' => e = .returned (.bool (rsB xs room)) ∧ Below w.heap.size w w' := by
  have hr2 : inR room 1 256 = true := by simp only [inR, decide_eq_true_eq] at hrm ⊢; omega
  obtain ⟨b, hb⟩ : ∃ b, rsB xs room = b := ⟨_, rfl⟩
  rw [hb]
  have HBB := Lib.hid hb
  clear hb hrm
  cases h1 : decide ((xs.length : Int) ≤ room) with
  | false =>
    have HE : Hid (b = false) := Lib.hid (by rw [← HBB.out]; unfold rsB; rw [h1]; rfl)
    go_enter Tryd.func49, Tryd.ntmps49
    go_wp2_with fail
    refine isRoom_any.mono ?_
    rintro e w1 ⟨rfl, rfl⟩
    rw [hr2]
    go_wp2
    go_ret
    exact ⟨ret_bool HE.out.symm, Below.refl _ _⟩
  | true =>
  cases h2 : keysB xs with
  | false =>
    have HE : Hid (b = false) := Lib.hid (by rw [← HBB.out]; unfold rsB; rw [h1, h2]; rfl)
    go_enter Tryd.func49, Tryd.ntmps49
    go_wp2_with fail
    refine isRoom_any.mono ?_
    rintro e w1 ⟨rfl, rfl⟩
    rw [hr2]
    go_wp2_with fail
    refine (areAllKeys_any hr).mono ?_
    rintro e w1 ⟨rfl, hb1⟩
    rw [h2]
    go_wp2
    go_ret
    exact ⟨ret_bool HE.out.symm, hb1⟩
  | true =>
    have HE : Hid (b = incB xs) := Lib.hid (by rw [← HBB.out]; unfold rsB; rw [h1, h2]; rfl)
    go_enter Tryd.func49, Tryd.ntmps49
    go_wp2_with fail
    refine isRoom_any.mono ?_
    rintro e w1 ⟨rfl, rfl⟩
    rw [hr2]
    go_wp2_with fail
    refine (areAllKeys_any hr).mono ?_
    rintro e w1 ⟨rfl, hb1⟩
    rw [h2]
    go_wp2_with fail
    refine (isInc_any (hr.below hb1 (Nat.le_refl _))).mono ?_
    rintro e w2 ⟨rfl, hb2⟩
    go_wp2
    go_ret
    exact ⟨ret_bool (by simp [HE.out]), hb1.trans (hb2.mono hb1.size)⟩

/-- What is asked of two samples. -/
def jdB (lA : Int) (xs : List Int) (lB : Int) (ys : List Int) (room salt : Int) : Bool := inR lA 0 32 && inR lB 0 32 && inR room 1 128 && rsB xs room && rsB ys room && isKey salt
def jdF (lA lB : Int) : Nat := (if lA > lB then lA else lB).toNat
def jdV (lA : Int) (xs : List Int) (lB : Int) (ys : List Int) (room salt : Int) : Int := if jdB lA xs lB ys room salt then dstV (xs ++ ys) room salt (jdF lA lB) else 0
def jdL (lA : Int) (xs : List Int) (lB : Int) (ys : List Int) (room salt : Int) : List Int := if jdB lA xs lB ys room salt then dstL (xs ++ ys) room salt (jdF lA lB) else []
def jdK (lA : Int) (xs : List Int) (lB : Int) (ys : List Int) (room salt : Int) : Bool := if jdB lA xs lB ys room salt then dstK (xs ++ ys) room salt (jdF lA lB) else false
theorem jd_no {lA lB room salt : Int} {xs ys : List Int} (h : jdB lA xs lB ys room salt = false) : jdV lA xs lB ys room salt = 0 ∧ jdL lA xs lB ys room salt = [] ∧ jdK lA xs lB ys room salt = false := by
  unfold jdV jdL jdK
  rw [h]
  exact ⟨rfl, rfl, rfl⟩
theorem rsB_len {xs : List Int} {room : Int} (h : rsB xs room = true) (hr : inR room 1 128 = true) : xs.length ≤ 128 ∧ keysB xs = true := by
  simp only [rsB, Bool.and_eq_true, decide_eq_true_eq] at h
  simp only [inR, decide_eq_true_eq] at hr
  exact ⟨by omega, h.1.2⟩
theorem jdL_len (lA : Int) (xs : List Int) (lB : Int) (ys : List Int) (room salt : Int) : (jdL lA xs lB ys room salt).length ≤ 256 := by
  unfold jdL
  split
  · rename_i h
    simp only [jdB, Bool.and_eq_true] at h
    obtain ⟨⟨⟨⟨⟨_, _⟩, h3⟩, h4⟩, h5⟩, _⟩ := h
    have h1 := (rsB_len h4 h3).1
    have h2 := (rsB_len h5 h3).1
    have := dstL_len (xs ++ ys) room salt (jdF lA lB)
    rw [List.length_append] at this
    omega
  · simp
theorem jdF_bd {lA lB : Int} (hA : inR lA 0 32 = true) (hB : inR lB 0 32 = true) : jdF lA lB ≤ 32 ∧ ((jdF lA lB : Nat) : Int) = (if lA > lB then lA else lB) := by
  simp only [inR, decide_eq_true_eq] at hA hB
  unfold jdF
  split <;> omega
theorem keysB_app (xs ys : List Int) : keysB (xs ++ ys) = (keysB xs && keysB ys) := by simp [keysB]

set_option maxRecDepth 8000 in
set_option maxHeartbeats 4000000 in
theorem implJd_any {a b : Option Addr} {c d : Nat} {xs ys : List Int} {lA lB room salt : Int} {w : World} (hx : Rd (Value.int .i64) w a c xs) (hy : Rd (Value.int .i64) w b d ys) (hT : Tab w) :
    Calls Tryd.prog 17 #[.int .i64 lA, .slice a xs.length c, .int .i64 lB, .slice b ys.length d, .int .i64 room, .int .i64 salt] w (RetD w (jdV lA xs lB ys room salt) (jdL lA xs lB ys room salt) (jdK lA xs lB ys room salt)) := by
  cases hc0 : inR lA 0 32 with
  | false =>
    have hno : jdB lA xs lB ys room salt = false := by unfold jdB; simp [hc0]
    obtain ⟨e1, e2, e3⟩ := jd_no hno
    rw [e1, e2, e3]
    clear hno e1 e2 e3
    go_enter Tryd.func17, Tryd.ntmps17
    go_wp2_with fail
    refine (within_any _ _ _ _).mono ?_
    rintro e wg1 ⟨rfl, rfl⟩
    rw [hc0]
    go_wp2
    go_ret3
    exact retD_no (Below.refl _ _)
  | true =>
  cases hc1 : inR lB 0 32 with
  | false =>
    have hno : jdB lA xs lB ys room salt = false := by unfold jdB; simp [hc0, hc1]
    obtain ⟨e1, e2, e3⟩ := jd_no hno
    rw [e1, e2, e3]
    clear hno e1 e2 e3
    go_enter Tryd.func17, Tryd.ntmps17
    go_wp2_with fail
    refine (within_any _ _ _ _).mono ?_
    rintro e wg1 ⟨rfl, rfl⟩
    rw [hc0]
    go_wp2_with fail
    refine (within_any _ _ _ _).mono ?_
    rintro e wg2 ⟨rfl, rfl⟩
    rw [hc1]
    go_wp2
    go_ret3
    exact retD_no (Below.refl _ _)
  | true =>
  cases hc2 : inR room 1 128 with
  | false =>
    have hno : jdB lA xs lB ys room salt = false := by unfold jdB; simp [hc0, hc1, hc2]
    obtain ⟨e1, e2, e3⟩ := jd_no hno
    rw [e1, e2, e3]
    clear hno e1 e2 e3
    go_enter Tryd.func17, Tryd.ntmps17
    go_wp2_with fail
    refine (within_any _ _ _ _).mono ?_
    rintro e wg1 ⟨rfl, rfl⟩
    rw [hc0]
    go_wp2_with fail
    refine (within_any _ _ _ _).mono ?_
    rintro e wg2 ⟨rfl, rfl⟩
    rw [hc1]
    go_wp2_with fail
    refine (strRoom_any).mono ?_
    rintro e wg3 ⟨rfl, rfl⟩
    rw [hc2]
    go_wp2
    go_ret3
    exact retD_no (Below.refl _ _)
  | true =>
  cases hc3 : rsB xs room with
  | false =>
    have hno : jdB lA xs lB ys room salt = false := by unfold jdB; simp [hc0, hc1, hc2, hc3]
    obtain ⟨e1, e2, e3⟩ := jd_no hno
    rw [e1, e2, e3]
    clear hno e1 e2 e3
    go_enter Tryd.func17, Tryd.ntmps17
    go_wp2_with fail
    refine (within_any _ _ _ _).mono ?_
    rintro e wg1 ⟨rfl, rfl⟩
    rw [hc0]
    go_wp2_with fail
    refine (within_any _ _ _ _).mono ?_
    rintro e wg2 ⟨rfl, rfl⟩
    rw [hc1]
    go_wp2_with fail
    refine (strRoom_any).mono ?_
    rintro e wg3 ⟨rfl, rfl⟩
    rw [hc2]
    go_wp2_with fail
    refine (isLeast_any (hx.below (Below.refl _ _) (Nat.le_refl _)) hc2).mono ?_
    rintro e wg4 ⟨rfl, hbg4⟩
    have BG4 := Lib.hid hbg4
    clear hbg4
    rw [hc3]
    go_wp2
    go_ret3
    exact retD_no BG4.out
  | true =>
  cases hc4 : rsB ys room with
  | false =>
    have hno : jdB lA xs lB ys room salt = false := by unfold jdB; simp [hc0, hc1, hc2, hc3, hc4]
    obtain ⟨e1, e2, e3⟩ := jd_no hno
    rw [e1, e2, e3]
    clear hno e1 e2 e3
    go_enter Tryd.func17, Tryd.ntmps17
    go_wp2_with fail
    refine (within_any _ _ _ _).mono ?_
    rintro e wg1 ⟨rfl, rfl⟩
    rw [hc0]
    go_wp2_with fail
    refine (within_any _ _ _ _).mono ?_
    rintro e wg2 ⟨rfl, rfl⟩
    rw [hc1]
    go_wp2_with fail
    refine (strRoom_any).mono ?_
    rintro e wg3 ⟨rfl, rfl⟩
    rw [hc2]
    go_wp2_with fail
    refine (isLeast_any (hx.below (Below.refl _ _) (Nat.le_refl _)) hc2).mono ?_
    rintro e wg4 ⟨rfl, hbg4⟩
    have BG4 := Lib.hid hbg4
    clear hbg4
    rw [hc3]
    go_wp2_with fail
    refine (isLeast_any (hy.below BG4.out (Nat.le_refl _)) hc2).mono ?_
    rintro e wg5 ⟨rfl, hbg5⟩
    have BG5 := Lib.hid (BG4.out.trans (hbg5.mono BG4.out.size))
    clear hbg5
    rw [hc4]
    go_wp2
    go_ret3
    exact retD_no BG5.out
  | true =>
  cases hc5 : isKey salt with
  | false =>
    have hno : jdB lA xs lB ys room salt = false := by unfold jdB; simp [hc0, hc1, hc2, hc3, hc4, hc5]
    obtain ⟨e1, e2, e3⟩ := jd_no hno
    rw [e1, e2, e3]
    clear hno e1 e2 e3
    go_enter Tryd.func17, Tryd.ntmps17
    go_wp2_with fail
    refine (within_any _ _ _ _).mono ?_
    rintro e wg1 ⟨rfl, rfl⟩
    rw [hc0]
    go_wp2_with fail
    refine (within_any _ _ _ _).mono ?_
    rintro e wg2 ⟨rfl, rfl⟩
    rw [hc1]
    go_wp2_with fail
    refine (strRoom_any).mono ?_
    rintro e wg3 ⟨rfl, rfl⟩
    rw [hc2]
    go_wp2_with fail
    refine (isLeast_any (hx.below (Below.refl _ _) (Nat.le_refl _)) hc2).mono ?_
    rintro e wg4 ⟨rfl, hbg4⟩
    have BG4 := Lib.hid hbg4
    clear hbg4
    rw [hc3]
    go_wp2_with fail
    refine (isLeast_any (hy.below BG4.out (Nat.le_refl _)) hc2).mono ?_
    rintro e wg5 ⟨rfl, hbg5⟩
    have BG5 := Lib.hid (BG4.out.trans (hbg5.mono BG4.out.size))
    clear hbg5
    rw [hc4]
    go_wp2_with fail
    refine (implIsKey_any).mono ?_
    rintro e wg6 ⟨rfl, rfl⟩
    rw [hc5]
    go_wp2
    go_ret3
    exact retD_no BG5.out
  | true =>
  have hyes : jdB lA xs lB ys room salt = true := by unfold jdB; rw [hc0, hc1, hc2, hc3, hc4, hc5]; rfl
  have e1 : jdV lA xs lB ys room salt = dstV (xs ++ ys) room salt (jdF lA lB) := by unfold jdV; rw [hyes]; rfl
  have e2 : jdL lA xs lB ys room salt = dstL (xs ++ ys) room salt (jdF lA lB) := by unfold jdL; rw [hyes]; rfl
  have e3 : jdK lA xs lB ys room salt = dstK (xs ++ ys) room salt (jdF lA lB) := by unfold jdK; rw [hyes]; rfl
  obtain ⟨L, hL⟩ : ∃ L, dstV (xs ++ ys) room salt (jdF lA lB) = L := ⟨_, rfl⟩
  obtain ⟨zs, hz⟩ : ∃ zs, dstL (xs ++ ys) room salt (jdF lA lB) = zs := ⟨_, rfl⟩
  obtain ⟨k, hk⟩ : ∃ k, dstK (xs ++ ys) room salt (jdF lA lB) = k := ⟨_, rfl⟩
  have HV3 := Lib.hid (And.intro hL (And.intro hz hk))
  rw [e1, e2, e3, hL, hz, hk]
  have HLX := Lib.hid (rsB_len hc3 hc2)
  have HLY := Lib.hid (rsB_len hc4 hc2)
  have HKK : Hid (keysB (xs ++ ys) = true) := Lib.hid (by rw [keysB_app, HLX.out.2, HLY.out.2]; rfl)
  have HFR := Lib.hid (jdF_bd hc0 hc1)
  have HKS := Lib.hid hc5
  obtain ⟨fr, hfr⟩ : ∃ fr, jdF lA lB = fr := ⟨_, rfl⟩
  rw [hfr] at HV3 HFR
  clear hyes e1 e2 e3 hL hz hk hfr
  go_enter Tryd.func17, Tryd.ntmps17
  go_wp2_with fail
  refine (within_any _ _ _ _).mono ?_
  rintro e wg1 ⟨rfl, rfl⟩
  rw [hc0]
  go_wp2_with fail
  refine (within_any _ _ _ _).mono ?_
  rintro e wg2 ⟨rfl, rfl⟩
  rw [hc1]
  go_wp2_with fail
  refine (strRoom_any).mono ?_
  rintro e wg3 ⟨rfl, rfl⟩
  rw [hc2]
  go_wp2_with fail
  refine (isLeast_any (hx.below (Below.refl _ _) (Nat.le_refl _)) hc2).mono ?_
  rintro e wg4 ⟨rfl, hbg4⟩
  have BG4 := Lib.hid hbg4
  clear hbg4
  rw [hc3]
  go_wp2_with fail
  refine (isLeast_any (hy.below BG4.out (Nat.le_refl _)) hc2).mono ?_
  rintro e wg5 ⟨rfl, hbg5⟩
  have BG5 := Lib.hid (BG4.out.trans (hbg5.mono BG4.out.size))
  clear hbg5
  rw [hc4]
  go_wp2_with fail
  refine (implIsKey_any).mono ?_
  rintro e wg6 ⟨rfl, rfl⟩
  rw [hc5]
  have hmx : max lA lB = (fr : Int) := by rw [HFR.out.2]; split <;> omega
  have hBl := Blk.new wg5 #[.slice a xs.length c, .slice b ys.length d] 25
  have hBa : Below wg5.heap.size wg5 (wg5.alloc (.cells #[.slice a xs.length c, .slice b ys.length d] 25)) := (Below.refl _ _).alloc (Nat.le_refl _) _
  have HCC := Lib.hid (concat2_any (hx.below (BG5.out.trans (hBa.mono BG5.out.size)) (Nat.le_refl _)) (hy.below (BG5.out.trans (hBa.mono BG5.out.size)) (Nat.le_refl _)) (by have := HLX.out.1; omega) (by have := HLY.out.1; omega) hBl)
  have HBA := Lib.hid (BG5.out.trans (hBa.mono BG5.out.size))
  clear hBl hBa
  go_wp2_with fail
  refine HCC.out.mono ?_
  rintro e w8 ⟨a8, c8, rfl, ho8, hb8⟩
  have HB8 := Lib.hid (HBA.out.trans (hb8.mono HBA.out.size))
  have hD := distinct_any (fr := fr) (room := room) ho8.rd (by rw [List.length_append]; have := HLX.out.1; have := HLY.out.1; omega) HKK.out HKS.out HFR.out.1 (hT.below HB8.out)
  rw [HV3.out.1, HV3.out.2.1, HV3.out.2.2, List.length_append] at hD
  have HD := Lib.hid hD
  clear hD ho8 hb8 HCC HBA
  go_wp2_with fail
  refine HD.out.mono ?_
  rintro e w9 ⟨a9, c9, rfl, ho9, hb9⟩
  have HO9 := Lib.hid (ho9.mono (b' := w.heap.size) HB8.out.size)
  have HB9 := Lib.hid (HB8.out.trans (hb9.mono HB8.out.size))
  clear ho9 hb9
  go_wp2
  go_ret3
  exact ⟨a9, c9, rfl, HO9.out, HB9.out⟩

end Go.Proofs.YtncbkbfkdgggkaaDoor
