/- The walk of the law FnExactStoreAll. -/
import Derived.Test.YtgkmmilmdhhleaaStoC
namespace Go.Proofs.Ytgkmmilmdhhleaa
open Go.RowKit

set_option maxRecDepth 10000 in
set_option maxHeartbeats 4000000 in
theorem lawStoreAll_walk {a0 : Option Addr} {c0 : Nat} {hs0 : List SvH} {s0 : List Sv} {w : World} (r0 : Rd9 w a0 c0 hs0 s0) :
    Calls Try.prog 11 #[.slice a0 s0.length c0] w fun e w' => e = .returned (.bool true) ∧ Below w.heap.size w w' := by
  obtain ⟨b, hb⟩ : ∃ b, allB s0 = b := ⟨_, rfl⟩
  obtain ⟨t, ht⟩ : ∃ t, allT s0 = t := ⟨_, rfl⟩
  have HB := Lib.hid hb
  have HT := Lib.hid ht
  clear hb ht
  have hnb : (b ^^ b) = false := by simp
  have hnb2 : (b != b) = false := by simp
  have hnt : (t.toList == t.toList) = true := by simp
  have hnt2 : (t.toList != t.toList) = false := by simp
  go_enter Try.func11, Try.ntmps11
  go_wp2_with fail
  refine (szSavedS_any r0 (by omega) (by omega)).mono ?_
  rintro e w1 ⟨rfl, hb1⟩
  have B1 := Lib.hid hb1
  clear hb1
  by_cases g0 : (1048576 : Int) < svsSize s0
  · rw [room_no g0]
    go_wp2
    go_ret
    exact ⟨rfl, B1.out⟩
  rw [room_yes g0]
  have n0 : svsSize s0 ≤ 1048576 := by omega
  obtain ⟨l, hl⟩ : ∃ l, 1048576 - svsSize s0 = l := ⟨_, rfl⟩
  rw [hl]
  have hd : decide (l < 0) = false := decide_eq_false (by omega)
  have hdn : ¬ l < 0 := by omega
  go_wp2_with fail
  refine (toSavedS_any (r0.below B1.out (Nat.le_refl _)) n0).mono ?_
  rintro e w2 ⟨px0, qx0, rfl, ox0, hb2⟩
  have B2 := Lib.hid (B1.out.trans (hb2.mono B1.out.size))
  have x0 := Lib.hid ox0.rd
  clear ox0
  clear hb2
  go_wp2_with fail
  refine (specStoreAll_any x0.out n0).mono ?_
  rintro e w3 ⟨rfl, hb3⟩
  have B3 := Lib.hid (B2.out.trans (hb3.mono B2.out.size))
  replace x0 := Lib.hid (x0.out.below hb3 (Nat.le_refl _))
  rw [HB.out, HT.out]
  clear hb3
  clear x0
  go_wp2_with fail
  refine (toSavedS_any (r0.below B3.out (Nat.le_refl _)) n0).mono ?_
  rintro e w4 ⟨py0, qy0, rfl, oy0, hb4⟩
  have B4 := Lib.hid (B3.out.trans (hb4.mono B3.out.size))
  have y0 := Lib.hid oy0.rd
  clear oy0
  clear hb4
  go_wp2_with fail
  refine (storeAll_any y0.out n0).mono ?_
  rintro e w5 ⟨rfl, hb5⟩
  have B5 := Lib.hid (B4.out.trans (hb5.mono B4.out.size))
  replace y0 := Lib.hid (y0.out.below hb5 (Nat.le_refl _))
  rw [HB.out, HT.out]
  clear hb5
  go_wp2_with fail
  refine (toSavedS_any (r0.below B5.out (Nat.le_refl _)) n0).mono ?_
  rintro e w6 ⟨pz0, qz0, rfl, oz0, hb6⟩
  have B6 := Lib.hid (B5.out.trans (hb6.mono B5.out.size))
  replace y0 := Lib.hid (y0.out.below hb6 (Nat.le_refl _))
  have z0 := Lib.hid oz0.rd
  clear oz0
  clear hb6
  go_wp2_with fail
  refine (eqSavedS_same y0.out z0.out).mono ?_
  rintro e w7 ⟨rfl, hb7⟩
  have B7 := Lib.hid (B6.out.trans (hb7.mono B6.out.size))
  replace y0 := Lib.hid (y0.out.below hb7 (Nat.le_refl _))
  replace z0 := Lib.hid (z0.out.below hb7 (Nat.le_refl _))
  clear hb7
  go_wp2
  go_ret
  exact ⟨rfl, B7.out⟩

end Go.Proofs.Ytgkmmilmdhhleaa
