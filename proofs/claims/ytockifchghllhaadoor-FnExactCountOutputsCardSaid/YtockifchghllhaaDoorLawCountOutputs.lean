/- The walk of the law FnExactCountOutputs. -/
import Derived.Test.YtockifchghllhaaDoorCntO
namespace Go.Proofs.YtockifchghllhaaDoor
open Go.RowKit

set_option maxHeartbeats 1000000 in
theorem lawCountOutputs_walk {s : ByteArray} {w : World} (hM : MLen w) :
    Calls Tryd.prog 3 #[.string s] w fun e w' => e = .returned (.bool true) ∧ Below w.heap.size w w' := by
  by_cases hs : s.size ≤ 1048576
  · have hd : decide ((1048576 : Int) < (s.size : Int)) = false := decide_eq_false (by omega)
    have HM := Lib.hid hM
    clear hM
    obtain ⟨x, hx⟩ : ∃ x, cntA s = x := ⟨_, rfl⟩
    obtain ⟨y, hy⟩ : ∃ y, cntB s = y := ⟨_, rfl⟩
    obtain ⟨b, hb⟩ : ∃ b, linB s = b := ⟨_, rfl⟩
    have HX := Lib.hid hx
    have HY := Lib.hid hy
    have HB := Lib.hid hb
    have hnb : (b ^^ b) = false := by simp
    have hnb2 : (b != b) = false := by simp
    have hnx : (x != x) = false := by simp
    have hny : (y != y) = false := by simp
    clear hx hy hb
    go_enter Tryd.func3, Tryd.ntmps3
    go_wp2_with fail
    refine (specCountOutputs_any hs).mono ?_
    rintro e w1 ⟨rfl, hb1⟩
    rw [HX.out, HY.out, HB.out]
    have HB1 := Lib.hid hb1
    clear hb1
    go_wp2_with fail
    refine (countOutputs_any (HM.out.below HB1.out (Nat.le_refl _)) hs).mono ?_
    rintro e w2 ⟨rfl, hb2⟩
    rw [HX.out, HY.out, HB.out]
    have HB2 := Lib.hid (HB1.out.trans (hb2.mono HB1.out.size))
    clear hb2
    go_wp2
    go_ret
    exact ⟨rfl, HB2.out⟩
  · have hd : decide ((1048576 : Int) < (s.size : Int)) = true := decide_eq_true (by omega)
    clear hM
    go_enter Tryd.func3, Tryd.ntmps3
    go_wp2
    go_ret
    exact ⟨rfl, Below.refl _ _⟩

end Go.Proofs.YtockifchghllhaaDoor
