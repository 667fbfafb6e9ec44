/- The walk of the law FnExactSameSaved. -/
import Derived.Test.YtgkmmilmdhhleaaSvS
namespace Go.Proofs.Ytgkmmilmdhhleaa
open Go.RowKit

set_option maxRecDepth 10000 in
set_option maxHeartbeats 4000000 in
theorem lawSameSaved_walk {a0 a1 : Option Addr} {c0 c1 : Nat} {hs0 hs1 : List SvH} {s0 s1 : List Sv} {w : World} (r0 : Rd9 w a0 c0 hs0 s0) (r1 : Rd9 w a1 c1 hs1 s1) :
    Calls Try.prog 5 #[.slice a0 s0.length c0, .slice a1 s1.length c1] w fun e w' => e = .returned (.bool true) ∧ Below w.heap.size w w' := by
  obtain ⟨b, hb⟩ : ∃ b, sameSvs s0 s1 = b := ⟨_, rfl⟩
  have HB := Lib.hid hb
  clear hb
  have hnb : (b ^^ b) = false := by simp
  have hnb2 : (b != b) = false := by simp
  go_enter Try.func5, Try.ntmps5
  go_wp2_with fail
  refine (szSavedS_any r0 (by omega) (by omega)).mono ?_
  rintro e w1 ⟨rfl, hb1⟩
  have B1 := Lib.hid hb1
  clear hb1
  by_cases g0 : (1048576 : Int) < svsSize s0
  · rw [room_no g0]
    go_wp2
    go_ret
    exact ⟨rfl, B1.out⟩
  rw [room_yes g0]
  have n0 : svsSize s0 ≤ 1048576 := by omega
  have z0 : 0 ≤ svsSize s0 := by have := svSum_nn s0; unfold svsSize; omega
  obtain ⟨l, hl⟩ : ∃ l, 1048576 - svsSize s0 = l := ⟨_, rfl⟩
  rw [hl]
  have l0 : 0 ≤ l := by omega
  have l1 : l ≤ 1048576 := by omega
  have hd : decide (l < 0) = false := decide_eq_false (by omega)
  have hdn : ¬ l < 0 := by omega
  go_wp2_with fail
  refine (szSavedS_any (r1.below B1.out (Nat.le_refl _)) l0 l1).mono ?_
  rintro e w2 ⟨rfl, hb2⟩
  have B2 := Lib.hid (B1.out.trans (hb2.mono B1.out.size))
  clear hb2
  by_cases g1 : l < svsSize s1
  · rw [room_no g1]
    go_wp2
    go_ret
    exact ⟨rfl, B2.out⟩
  rw [room_yes g1]
  have n1 : svsSize s1 ≤ 1048576 := by omega
  obtain ⟨l', hl'⟩ : ∃ l', l - svsSize s1 = l' := ⟨_, rfl⟩
  rw [hl']
  have hd' : decide (l' < 0) = false := decide_eq_false (by omega)
  have hdn' : ¬ l' < 0 := by omega
  go_wp2_with fail
  refine (toSavedS_any (r0.below B2.out (Nat.le_refl _)) n0).mono ?_
  rintro e w3 ⟨px0, qx0, rfl, ox0, hb3⟩
  have B3 := Lib.hid (B2.out.trans (hb3.mono B2.out.size))
  have x0 := Lib.hid ox0.rd
  clear ox0
  clear hb3
  go_wp2_with fail
  refine (toSavedS_any (r1.below B3.out (Nat.le_refl _)) n1).mono ?_
  rintro e w4 ⟨px1, qx1, rfl, ox1, hb4⟩
  have B4 := Lib.hid (B3.out.trans (hb4.mono B3.out.size))
  replace x0 := Lib.hid (x0.out.below hb4 (Nat.le_refl _))
  have x1 := Lib.hid ox1.rd
  clear ox1
  clear hb4
  go_wp2_with fail
  refine (specSameSaved_any x0.out x1.out).mono ?_
  rintro e w5 ⟨rfl, hb5⟩
  have B5 := Lib.hid (B4.out.trans (hb5.mono B4.out.size))
  replace x0 := Lib.hid (x0.out.below hb5 (Nat.le_refl _))
  replace x1 := Lib.hid (x1.out.below hb5 (Nat.le_refl _))
  rw [HB.out]
  clear hb5
  clear x0 x1
  go_wp2_with fail
  refine (toSavedS_any (r0.below B5.out (Nat.le_refl _)) n0).mono ?_
  rintro e w6 ⟨py0, qy0, rfl, oy0, hb6⟩
  have B6 := Lib.hid (B5.out.trans (hb6.mono B5.out.size))
  have y0 := Lib.hid oy0.rd
  clear oy0
  clear hb6
  go_wp2_with fail
  refine (toSavedS_any (r1.below B6.out (Nat.le_refl _)) n1).mono ?_
  rintro e w7 ⟨py1, qy1, rfl, oy1, hb7⟩
  have B7 := Lib.hid (B6.out.trans (hb7.mono B6.out.size))
  replace y0 := Lib.hid (y0.out.below hb7 (Nat.le_refl _))
  have y1 := Lib.hid oy1.rd
  clear oy1
  clear hb7
  go_wp2_with fail
  refine (implSameSaved_any y0.out y1.out).mono ?_
  rintro e w8 ⟨rfl, hb8⟩
  have B8 := Lib.hid (B7.out.trans (hb8.mono B7.out.size))
  replace y0 := Lib.hid (y0.out.below hb8 (Nat.le_refl _))
  replace y1 := Lib.hid (y1.out.below hb8 (Nat.le_refl _))
  rw [HB.out]
  clear hb8
  go_wp2_with fail
  refine (toSavedS_any (r0.below B8.out (Nat.le_refl _)) n0).mono ?_
  rintro e w9 ⟨pz0', qz0', rfl, oz0', hb9⟩
  have B9 := Lib.hid (B8.out.trans (hb9.mono B8.out.size))
  replace y0 := Lib.hid (y0.out.below hb9 (Nat.le_refl _))
  replace y1 := Lib.hid (y1.out.below hb9 (Nat.le_refl _))
  have z0' := Lib.hid oz0'.rd
  clear oz0'
  clear hb9
  go_wp2_with fail
  refine (eqSavedS_same y0.out z0'.out).mono ?_
  rintro e w10 ⟨rfl, hb10⟩
  have B10 := Lib.hid (B9.out.trans (hb10.mono B9.out.size))
  replace y0 := Lib.hid (y0.out.below hb10 (Nat.le_refl _))
  replace y1 := Lib.hid (y1.out.below hb10 (Nat.le_refl _))
  replace z0' := Lib.hid (z0'.out.below hb10 (Nat.le_refl _))
  clear hb10
  clear z0' y0
  go_wp2_with fail
  refine (toSavedS_any (r1.below B10.out (Nat.le_refl _)) n1).mono ?_
  rintro e w11 ⟨pz1', qz1', rfl, oz1', hb11⟩
  have B11 := Lib.hid (B10.out.trans (hb11.mono B10.out.size))
  replace y1 := Lib.hid (y1.out.below hb11 (Nat.le_refl _))
  have z1' := Lib.hid oz1'.rd
  clear oz1'
  clear hb11
  go_wp2_with fail
  refine (eqSavedS_same y1.out z1'.out).mono ?_
  rintro e w12 ⟨rfl, hb12⟩
  have B12 := Lib.hid (B11.out.trans (hb12.mono B11.out.size))
  replace y1 := Lib.hid (y1.out.below hb12 (Nat.le_refl _))
  replace z1' := Lib.hid (z1'.out.below hb12 (Nat.le_refl _))
  clear hb12
  go_wp2
  go_ret
  exact ⟨rfl, B12.out⟩

end Go.Proofs.Ytgkmmilmdhhleaa
