/- EdgeSketch, both texts. -/
import Derived.Test.YtgkmmilmdhhleaaSketchI
import Derived.Test.YtgkmmilmdhhleaaSketchS
namespace Go.Proofs.Ytgkmmilmdhhleaa
open Go.RowKit

def eskB (n : Int) (xs : List Int) (v s : Int) : Bool := edgesB n xs && inR v 0 (n - 1) && isKey s
def eskR (n : Int) (xs : List Int) (v s : Int) : List Int := if eskB n xs v s then esk n v s xs (xs.length / 2) else []
theorem eskR_len (n : Int) (xs : List Int) (v s : Int) : (eskR n xs v s).length ≤ 48 := by
  unfold eskR
  split
  · rw [esk_length]; omega
  · simp

set_option maxHeartbeats 400000 in
theorem implSketch_any {a1 : Option Addr} {c1 : Nat} {xs : List Int} {n v s : Int} {w : World} (hr : Rd (Value.int .i64) w a1 c1 xs) :
    Calls Try.prog 20 #[.int .i64 n, .slice a1 xs.length c1, .int .i64 v, .int .i64 s] w (RetSB (Value.int .i64) 2 w (eskR n xs v s) (eskB n xs v s)) := by
  cases he : edgesB n xs with
  | false =>
    have e1 : eskR n xs v s = [] := by simp [eskR, eskB, he]
    have e2 : eskB n xs v s = false := by simp [eskB, he]
    rw [e1, e2]
    clear e1 e2
    go_enter Try.func20, Try.ntmps20
    go_wp2_with fail
    refine (areEdges_any hr).mono ?_
    rintro e w1 ⟨rfl, hb1⟩
    go_wp2
    go_ret2
    exact retSB_no hb1
  | true =>
    cases hv : inR v 0 (n - 1) with
    | false =>
      have e1 : eskR n xs v s = [] := by simp [eskR, eskB, hv]
      have e2 : eskB n xs v s = false := by simp [eskB, hv]
      rw [e1, e2]
      obtain ⟨hn1, hn2, _⟩ := edges_bd he
      clear e1 e2
      go_enter Try.func20, Try.ntmps20
      go_wp2_with fail
      refine (areEdges_any hr).mono ?_
      rintro e w1 ⟨rfl, hb1⟩
      go_wp2_with fail
      refine (within_any _ _ _ _).mono ?_
      rintro e w2 ⟨rfl, rfl⟩
      go_wp2
      go_ret2
      exact retSB_no hb1
    | true =>
      cases hs : isKey s with
      | false =>
        have e1 : eskR n xs v s = [] := by simp [eskR, eskB, hs]
        have e2 : eskB n xs v s = false := by simp [eskB, hs]
        rw [e1, e2]
        obtain ⟨hn1, hn2, _⟩ := edges_bd he
        clear e1 e2
        go_enter Try.func20, Try.ntmps20
        go_wp2_with fail
        refine (areEdges_any hr).mono ?_
        rintro e w1 ⟨rfl, hb1⟩
        go_wp2_with fail
        refine (within_any _ _ _ _).mono ?_
        rintro e w2 ⟨rfl, rfl⟩
        go_wp2_with fail
        refine implIsKey_any.mono ?_
        rintro e w2 ⟨rfl, rfl⟩
        go_wp2
        go_ret2
        exact retSB_no hb1
      | true =>
        have := implSketch_yes hr he hv hs
        simpa [eskR, eskB, he, hv, hs] using this

set_option maxHeartbeats 400000 in
theorem specSketch_any {a1 : Option Addr} {c1 : Nat} {xs : List Int} {n v s : Int} {w : World} (hr : Rd (Value.int .i64) w a1 c1 xs) :
    Calls Try.prog 18 #[.int .i64 n, .slice a1 xs.length c1, .int .i64 v, .int .i64 s] w (RetSB (Value.int .i64) 2 w (eskR n xs v s) (eskB n xs v s)) := by
  cases he : edgesB n xs with
  | false =>
    have e1 : eskR n xs v s = [] := by simp [eskR, eskB, he]
    have e2 : eskB n xs v s = false := by simp [eskB, he]
    rw [e1, e2]
    clear e1 e2
    go_enter Try.func18, Try.ntmps18
    go_wp2_with fail
    refine (l07Edges_any hr).mono ?_
    rintro e w1 ⟨rfl, hb1⟩
    go_wp2
    go_ret2
    exact retSB_no hb1
  | true =>
    cases hv : inR v 0 (n - 1) with
    | false =>
      have e1 : eskR n xs v s = [] := by simp [eskR, eskB, hv]
      have e2 : eskB n xs v s = false := by simp [eskB, hv]
      rw [e1, e2]
      obtain ⟨hn1, hn2, _⟩ := edges_bd he
      clear e1 e2
      go_enter Try.func18, Try.ntmps18
      go_wp2_with fail
      refine (l07Edges_any hr).mono ?_
      rintro e w1 ⟨rfl, hb1⟩
      go_wp2_with fail
      refine (l00In_any _ _ _ _).mono ?_
      rintro e w2 ⟨rfl, rfl⟩
      go_wp2
      go_ret2
      exact retSB_no hb1
    | true =>
      cases hs : isKey s with
      | false =>
        have e1 : eskR n xs v s = [] := by simp [eskR, eskB, hs]
        have e2 : eskB n xs v s = false := by simp [eskB, hs]
        rw [e1, e2]
        obtain ⟨hn1, hn2, _⟩ := edges_bd he
        clear e1 e2
        go_enter Try.func18, Try.ntmps18
        go_wp2_with fail
        refine (l07Edges_any hr).mono ?_
        rintro e w1 ⟨rfl, hb1⟩
        go_wp2_with fail
        refine (l00In_any _ _ _ _).mono ?_
        rintro e w2 ⟨rfl, rfl⟩
        go_wp2_with fail
        refine l02Key_any.mono ?_
        rintro e w2 ⟨rfl, rfl⟩
        go_wp2
        go_ret2
        exact retSB_no hb1
      | true =>
        have := specSketch_yes hr he hv hs
        simpa [eskR, eskB, he, hv, hs] using this

end Go.Proofs.Ytgkmmilmdhhleaa
