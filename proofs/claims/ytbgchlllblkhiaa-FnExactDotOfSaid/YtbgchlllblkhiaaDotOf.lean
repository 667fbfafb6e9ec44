/- DotOf: both texts. -/
import Derived.Test.YtbgchlllblkhiaaDot
namespace Go.Proofs.Ytbgchlllblkhiaa
open Go.RowKit

set_option maxHeartbeats 800000 in
theorem implDotOf_any {a1 a2 : Option Addr} {c1 c2 : Nat} {xs ys : List Nat} {w : World} (hx : Rd (Value.float .f32) w a1 c1 xs) (hy : Rd (Value.float .f32) w a2 c2 ys) :
    Calls Try.prog 17 #[.slice a1 xs.length c1, .slice a2 ys.length c2] w (RetFB w (dotR xs ys) (dotB xs ys)) := by
  have hlx := hx.len
  have hly := hy.len
  cases h1 : isVec xs with
  | false =>
    go_enter Try.func17, Try.ntmps17
    go_wp2_with fail
    refine (isVector_any hx).mono ?_
    rintro e w1 ⟨rfl, hb1⟩
    go_wp2
    go_ret2
    exact ⟨0, by simp [dotB, dotOk, h1], by simp [dotR, dotOk, h1, cn_zero], hb1⟩
  | true =>
    cases h2 : isVec ys with
    | false =>
      go_enter Try.func17, Try.ntmps17
      go_wp2_with fail
      refine (isVector_any hx).mono ?_
      rintro e w1 ⟨rfl, hb1⟩
      go_wp2_with fail
      refine (isVector_any (hy.below hb1 (Nat.le_refl _))).mono ?_
      rintro e w2 ⟨rfl, hb2⟩
      go_wp2
      go_ret2
      exact ⟨0, by simp [dotB, dotOk, h2], by simp [dotR, dotOk, h2, cn_zero], hb1.trans (hb2.mono hb1.size)⟩
    | true =>
      by_cases h3 : xs.length = ys.length
      · have hd : ((xs.length : Int) != (ys.length : Int)) = false := by simp [h3]
        have H3 := Lib.hid h3
        clear h3
        go_enter Try.func17, Try.ntmps17
        go_wp2_with fail
        refine (isVector_any hx).mono ?_
        rintro e w1 ⟨rfl, hb1⟩
        go_wp2_with fail
        refine (isVector_any (hy.below hb1 (Nat.le_refl _))).mono ?_
        rintro e w2 ⟨rfl, hb2⟩
        have B2 : Below w.heap.size w w2 := hb1.trans (hb2.mono hb1.size)
        clear hb1 hb2
        go_wp2_with fail
        refine (implDot_any (hx.below B2 (Nat.le_refl _)) (hy.below B2 (Nat.le_refl _)) H3.out).mono ?_
        rintro e w3 ⟨r, rfl, hr, hb3⟩
        have B3 : Below w.heap.size w w3 := B2.trans (hb3.mono B2.size)
        clear hb3
        have HR := Lib.hid hr
        clear hr
        go_wp2_with fail
        refine ifFinite_any.mono ?_
        rintro e w4 ⟨q, rfl, hq, hb4⟩
        have HQ := Lib.hid hq
        clear hq
        go_wp2
        go_ret2
        refine ⟨q, ?_, ?_, B3.trans (hb4.mono B3.size)⟩
        · rw [HR.out]; simp [dotB, dotOk, h1, h2, H3.out]
        · rw [HQ.out, HR.out]; simp [dotR, dotOk, h1, h2, H3.out]
      · have hd : ((xs.length : Int) != (ys.length : Int)) = true := by simp; omega
        have H3 := Lib.hid h3
        clear h3
        go_enter Try.func17, Try.ntmps17
        go_wp2_with fail
        refine (isVector_any hx).mono ?_
        rintro e w1 ⟨rfl, hb1⟩
        go_wp2_with fail
        refine (isVector_any (hy.below hb1 (Nat.le_refl _))).mono ?_
        rintro e w2 ⟨rfl, hb2⟩
        go_wp2
        go_ret2
        exact ⟨0, by simp [dotB, dotOk, H3.out], by simp [dotR, dotOk, H3.out, cn_zero], hb1.trans (hb2.mono hb1.size)⟩

set_option maxHeartbeats 800000 in
theorem specDotOf_any {a1 a2 : Option Addr} {c1 c2 : Nat} {xs ys : List Nat} {w : World} (hx : Rd (Value.float .f32) w a1 c1 xs) (hy : Rd (Value.float .f32) w a2 c2 ys) :
    Calls Try.prog 15 #[.slice a1 xs.length c1, .slice a2 ys.length c2] w (RetFB w (dotR xs ys) (dotB xs ys)) := by
  have hlx := hx.len
  have hly := hy.len
  cases h1 : isVec xs with
  | false =>
    go_enter Try.func15, Try.ntmps15
    go_wp2_with fail
    refine (l07Vector_any hx).mono ?_
    rintro e w1 ⟨rfl, hb1⟩
    go_wp2
    go_ret2
    exact ⟨0, by simp [dotB, dotOk, h1], by simp [dotR, dotOk, h1, cn_zero], hb1⟩
  | true =>
    cases h2 : isVec ys with
    | false =>
      go_enter Try.func15, Try.ntmps15
      go_wp2_with fail
      refine (l07Vector_any hx).mono ?_
      rintro e w1 ⟨rfl, hb1⟩
      go_wp2_with fail
      refine (l07Vector_any (hy.below hb1 (Nat.le_refl _))).mono ?_
      rintro e w2 ⟨rfl, hb2⟩
      go_wp2
      go_ret2
      exact ⟨0, by simp [dotB, dotOk, h2], by simp [dotR, dotOk, h2, cn_zero], hb1.trans (hb2.mono hb1.size)⟩
    | true =>
      by_cases h3 : xs.length = ys.length
      · have hd : ((xs.length : Int) != (ys.length : Int)) = false := by simp [h3]
        have H3 := Lib.hid h3
        clear h3
        go_enter Try.func15, Try.ntmps15
        go_wp2_with fail
        refine (l07Vector_any hx).mono ?_
        rintro e w1 ⟨rfl, hb1⟩
        go_wp2_with fail
        refine (l07Vector_any (hy.below hb1 (Nat.le_refl _))).mono ?_
        rintro e w2 ⟨rfl, hb2⟩
        have B2 : Below w.heap.size w w2 := hb1.trans (hb2.mono hb1.size)
        clear hb1 hb2
        go_wp2_with fail
        refine (specDot_any (hx.below B2 (Nat.le_refl _)) (hy.below B2 (Nat.le_refl _)) H3.out).mono ?_
        rintro e w3 ⟨r, rfl, hr, hb3⟩
        have B3 : Below w.heap.size w w3 := B2.trans (hb3.mono B2.size)
        clear hb3
        have HR := Lib.hid hr
        clear hr
        go_wp2_with fail
        refine l02Number_any.mono ?_
        rintro e w4 ⟨q, rfl, hq, hb4⟩
        have HQ := Lib.hid hq
        clear hq
        go_wp2
        go_ret2
        refine ⟨q, ?_, ?_, B3.trans (hb4.mono B3.size)⟩
        · rw [HR.out]; simp [dotB, dotOk, h1, h2, H3.out]
        · rw [HQ.out, HR.out]; simp [dotR, dotOk, h1, h2, H3.out]
      · have hd : ((xs.length : Int) != (ys.length : Int)) = true := by simp; omega
        have H3 := Lib.hid h3
        clear h3
        go_enter Try.func15, Try.ntmps15
        go_wp2_with fail
        refine (l07Vector_any hx).mono ?_
        rintro e w1 ⟨rfl, hb1⟩
        go_wp2_with fail
        refine (l07Vector_any (hy.below hb1 (Nat.le_refl _))).mono ?_
        rintro e w2 ⟨rfl, hb2⟩
        go_wp2
        go_ret2
        exact ⟨0, by simp [dotB, dotOk, H3.out], by simp [dotR, dotOk, H3.out, cn_zero], hb1.trans (hb2.mono hb1.size)⟩

end Go.Proofs.Ytbgchlllblkhiaa
