/- ValidWindow in the program's text. -/
import Derived.Test.YtockifchghllhaaDoorWinL
namespace Go.Proofs.YtockifchghllhaaDoor
open Go.RowKit

theorem isNaNi_any {x : Int} {w : World} : Calls Tryd.prog 157 #[.int .i64 x] w fun e w' => e = .returned (.bool false) ∧ w = w' := by
  go_enter Tryd.func157, Tryd.ntmps157
  go_wp2
  go_ret
  exact ⟨ret_bool (by simp), rfl⟩
theorem lessi_any {x y : Int} {w : World} : Calls Tryd.prog 141 #[.int .i64 x, .int .i64 y] w fun e w' => e = .returned (.bool (decide (x < y))) ∧ w = w' := by
  go_enter Tryd.func141, Tryd.ntmps141
  go_wp2_with (go_at_call 157; refine isNaNi_any.mono ?_; rintro e w1 ⟨rfl, rfl⟩)
  go_ret
  exact ⟨rfl, rfl⟩
theorem lessi_quiet {x y : Int} {w : World} {n : Nat} : Calls Tryd.prog 141 #[.int .i64 x, .int .i64 y] (w.drewN n) fun e w'' => e = .returned (.bool (decide (x < y))) ∧ ∃ m, w'' = w.drewN m :=
  lessi_any.mono fun _ _ ⟨he, hw⟩ => ⟨he, n, hw.symm⟩

theorem drewN_more {w wr : World} (h : ∃ n, wr = w.drewN n) (m : Nat) : ∃ n, wr.drewN m = w.drewN n := by
  obtain ⟨n, rfl⟩ := h
  exact ⟨_, World.drewN_drewN _ _ _⟩
theorem at0_cell {w : World} {a : Option Addr} {c : Nat} {xs : List Int} (hr : Rd (Value.int .i64) w a c xs) {k : Nat} (hk : k < xs.length) {x : Int} (hx : at0 xs k = x) : w.cell? (elt a k) = some (.int .i64 x) := by
  rw [hr.cell k hk, ← hx]; rfl

set_option maxHeartbeats 800000 in
theorem isSorted_any {a : Option Addr} {c : Nat} {xs : List Int} {w : World} (hr : Rd (Value.int .i64) w a c xs) :
    Calls Tryd.prog 125 #[.slice a xs.length c] w fun e w' => e = .returned (.bool (ascB xs)) ∧ ∃ n, w' = w.drewN n := by
  have hln := hr.len
  go_enter Tryd.func125, Tryd.ntmps125
  go_wp2
  go_loopw [3] (fun i wr => ∃ (z : Int), -1 ≤ z ∧ z < xs.length ∧ i = .int .i64 z ∧ Hid (∀ j : Nat, 0 < j → j < xs.length → z < j → at0 xs (j - 1) ≤ at0 xs j) ∧ Hid (∃ n, wr = w.drewN n)) (fun i _ => (intOf i).toNat)
  case atStart => exact ⟨_, by omega, by omega, rfl, by show ∀ j : Nat, _; intro j _ _ _; omega, by show ∃ n, _; exact ⟨0, rfl⟩⟩
  case round =>
    obtain ⟨z, hz1, hz2, rfl, HA, HN⟩ := hrel
    have hbr : Below w.heap.size w wr := by obtain ⟨n, hn⟩ := HN.out; rw [hn]; exact below_of_drewN _ _ _
    have hr := hr.below hbr (Nat.le_refl _)
    clear hbr
    by_cases h0 : 0 < z
    · obtain ⟨m, rfl⟩ : ∃ m : Nat, z = (m : Int) + 1 := ⟨(z - 1).toNat, by omega⟩
      have hm1 : m + 1 < xs.length := by omega
      obtain ⟨x, hx⟩ : ∃ x, at0 xs (m + 1) = x := ⟨_, rfl⟩
      obtain ⟨y, hy⟩ : ∃ x, at0 xs m = x := ⟨_, rfl⟩
      have hcx := at0_cell hr (by omega) hx
      have hcy := at0_cell hr (by omega) hy
      have hi0 := rd_idxAt hr und_is siz_is (m + 1) (by omega) ((m : Int) + 1) (by omega)
      have hi1 := rd_idxAt hr und_is siz_is m (by omega) (m : Int) (by omega)
      have HX := Lib.hid hx
      have HY := Lib.hid hy
      have ew : IntKind.i64.wrap (m : Int) = (m : Int) := IntWalk.i64_in _ (by omega)
      have ew1 : IntKind.i64.wrap ((m : Int) + 1) = (m : Int) + 1 := IntWalk.i64_in _ (by omega)
      clear hx hy
      by_cases hlt : x < y
      · go_wp2_with fail
        go_quiet ((go_at_call 141; exact lessi_quiet))
        go_wp2
        go_ret
        exact ⟨ret_bool (ascB_no (m := m) hm1 (by rw [HX.out, HY.out]; exact hlt)).symm, drewN_more HN.out _⟩
      · have hd : decide (x < y) = false := by simpa using hlt
        go_wp2_with fail
        go_quiet ((go_at_call 141; exact lessi_quiet))
        go_wp2
        go_roundw
        case rel =>
          refine ⟨(m : Int), by omega, by omega, rfl, ?_, drewN_more HN.out _⟩
          show ∀ j : Nat, _
          intro j hj1 hj2 hj3
          by_cases hj : j = m + 1
          · subst hj; rw [Nat.add_sub_cancel, HX.out, HY.out]; omega
          · exact HA.out j hj1 hj2 (by omega)
        case measure => simp [intOf]
    · go_wp2
      go_ret
      exact ⟨ret_bool (ascB_yes fun j h1 h2 => HA.out j h1 h2 (by omega)).symm, HN.out⟩

theorem areTimes_any {a : Option Addr} {c : Nat} {xs : List Int} {w : World} (hr : Rd (Value.int .i64) w a c xs) :
    Calls Tryd.prog 110 #[.slice a xs.length c] w fun e w' => e = .returned (.bool ((List.range xs.length).all (timeOk xs))) ∧ Below w.heap.size w w' := by
  rw [times_and]
  cases h : xs.all (fun x => inR x 0 1000000) with
  | false =>
    go_enter Tryd.func110, Tryd.ntmps110
    go_wp2_with fail
    refine (areWithin_any a c xs 0 1000000 w hr).mono ?_
    rintro e w1 ⟨rfl, hb1⟩
    go_wp2
    go_ret
    exact ⟨ret_bool (by simp), hb1⟩
  | true =>
    go_enter Tryd.func110, Tryd.ntmps110
    go_wp2_with fail
    refine (areWithin_any a c xs 0 1000000 w hr).mono ?_
    rintro e w1 ⟨rfl, hb1⟩
    rw [h]
    go_wp2_with fail
    refine (isSorted_any (hr.below hb1 (Nat.le_refl _))).mono ?_
    rintro e w2 ⟨rfl, n, rfl⟩
    go_wp2
    go_ret
    exact ⟨ret_bool (by simp), hb1.trans (below_of_drewN _ _ _)⟩

end Go.Proofs.YtockifchghllhaaDoor
