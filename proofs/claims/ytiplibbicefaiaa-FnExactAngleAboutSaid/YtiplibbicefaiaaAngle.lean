/- AngleAbout: both texts divide how many bits differ by twice their number. -/
import Derived.Test.YtiplibbicefaiaaEqF
import Derived.Test.YtiplibbicefaiaaEqB
namespace Go.Proofs.Ytiplibbicefaiaa
open Go.RowKit

/-- How many places differ. -/
def diffs (xs ys : List Bool) : Nat := ((List.zip xs ys).filter fun p => p.1 != p.2).length
theorem diffs_snoc (xs ys : List Bool) (k : Nat) (h1 : k < xs.length) (h2 : k < ys.length) : diffs (xs.take (k + 1)) (ys.take (k + 1)) = diffs (xs.take k) (ys.take k) + if xs[k] != ys[k] then 1 else 0 := by
  unfold diffs
  rw [List.take_add_one, List.take_add_one, List.getElem?_eq_getElem h1, List.getElem?_eq_getElem h2]
  simp only [Option.toList_some]
  rw [List.zip_append (by simp; omega), List.filter_append, List.length_append]
  by_cases h : (xs[k] != ys[k]) = true
  · simp [h]
  · simp [h]
theorem diffs_le (xs ys : List Bool) : diffs xs ys ≤ xs.length := by
  unfold diffs
  refine Nat.le_trans (List.length_filter_le _ _) ?_
  simp; omega

/-- A float and a bool: what 'cn' leaves of the float. -/
def RetFB (w : World) (o : Option Nat) (b : Bool) (en : Ending) (w' : World) : Prop :=
  ∃ r, en = .returned (.tuple #[.float .f32 r, .bool b]) ∧ cn .f32 r = o ∧ Below w.heap.size w w'

def angleOk (xs ys : List Bool) : Bool := decide (1 ≤ xs.length) && decide (xs.length ≤ 32) && decide (xs.length = ys.length)
def angleR (xs ys : List Bool) : Option Nat :=
  if angleOk xs ys then fbin .quo .f32 (cn .f32 (floatOfInt .f32 (diffs xs ys : Int))) (cn .f32 (floatOfInt .f32 (2 * (xs.length : Int)))) else some 0
theorem cn_zero : cn .f32 0 = some 0 := by kernel_rfl

theorem und_b : Try.prog.underlying 22 = some (.slice (Try.prog.elem 22)) := by kernel_rfl

set_option maxHeartbeats 800000 in
theorem specAngle_yes {a1 a2 : Option Addr} {c1 c2 : Nat} {xs ys : List Bool} {w : World} (hx : Rd Value.bool w a1 c1 xs) (hy : Rd Value.bool w a2 c2 ys) (h1 : 1 ≤ xs.length) (h2 : xs.length ≤ 32) (h3 : xs.length = ys.length) :
    Calls Try.prog 7 #[.slice a1 xs.length c1, .slice a2 ys.length c2] w (RetFB w (fbin .quo .f32 (cn .f32 (floatOfInt .f32 (diffs xs ys : Int))) (cn .f32 (floatOfInt .f32 (2 * (xs.length : Int))))) true) := by
  have hd : ((ys.length : Int) != (xs.length : Int)) = false := by simp [h3]
  have HL := Lib.hid h3
  clear h3
  go_enter Try.func7, Try.ntmps7
  go_wp2
  go_loopw [6, 7, 25] (fun n _ i wr => ∃ k : Nat, k ≤ xs.length ∧ i = .int .i64 k ∧ n = .int .i64 ((diffs (xs.take k) (ys.take k) : Nat) : Int) ∧ Below w.heap.size w wr) (fun _ _ i _ => xs.length - (intOf i).toNat)
  case atStart => exact ⟨0, Nat.zero_le _, rfl, rfl, Below.refl _ _⟩
  case round =>
    obtain ⟨k, hk, rfl, rfl, hb⟩ := hrel
    clear hd
    have hdl := diffs_le (xs.take k) (ys.take k)
    have hdl2 : (xs.take k).length ≤ k := List.length_take_le _ _
    by_cases hlt : k < xs.length
    · have hlt2 : k < ys.length := by rw [← HL.out]; exact hlt
      have hxr := hx.below hb (Nat.le_refl _)
      have hyr := hy.below hb (Nat.le_refl _)
      have hcx := hxr.cell k hlt
      have hcy := hyr.cell k hlt2
      have hix := hxr.idx und_bs siz_bs
      have hiy := hyr.idx und_bs siz_bs
      have HS := Lib.hid (diffs_snoc xs ys k hlt hlt2)
      simp only [List.getElem?_eq_getElem hlt, List.getElem?_eq_getElem hlt2, Option.getD_some] at hcx hcy
      have hdd : diffs (xs.take k) (ys.take k) ≤ 32 := by omega
      clear hdl hdl2
      generalize diffs (xs.take k) (ys.take k) = dk at hdd HS ⊢
      generalize xs[k] = p at hcx HS
      generalize ys[k] = q at hcy HS
      cases p <;> cases q
      all_goals
        go_wp2_with fail
        go_quiet (fail)
        go_wp2
        go_roundw
        case rel => exact ⟨k + 1, by omega, by go_num, by rw [HS.out]; first | rfl | (simp; done) | go_num, hb.trans (below_of_drewN _ _ _)⟩
        case measure => simp [intOf]; omega
    · obtain rfl : k = xs.length := by omega
      have hx1 : xs.take xs.length = xs := List.take_length
      have hy1 : ys.take xs.length = ys := by rw [HL.out, List.take_length]
      rw [hx1, hy1] at *
      clear hx1 hy1
      go_wp2_with (refine wpl_fbin rfl _ _ _ _ _ rfl rfl .f32 _ _ rfl rfl ?_; rintro r w' ⟨n, rfl⟩ hr)
      go_ret2
      exact ⟨r, rfl, hr, hb.trans (below_of_drewN _ _ _)⟩

set_option maxHeartbeats 800000 in
theorem implAngle_yes {a1 a2 : Option Addr} {c1 c2 : Nat} {xs ys : List Bool} {w : World} (hx : Rd Value.bool w a1 c1 xs) (hy : Rd Value.bool w a2 c2 ys) (h1 : 1 ≤ xs.length) (h2 : xs.length ≤ 32) (h3 : xs.length = ys.length) :
    Calls Try.prog 9 #[.slice a1 xs.length c1, .slice a2 ys.length c2] w (RetFB w (fbin .quo .f32 (cn .f32 (floatOfInt .f32 (diffs xs ys : Int))) (cn .f32 (floatOfInt .f32 (2 * (xs.length : Int))))) true) := by
  have hd : ((xs.length : Int) != (ys.length : Int)) = false := by simp [h3]
  have HL := Lib.hid h3
  clear h3
  go_enter Try.func9, Try.ntmps9
  go_wp2
  go_loopw [6, 7, 21] (fun n _ i wr => ∃ k : Nat, k ≤ xs.length ∧ i = .int .i64 k ∧ n = .int .i64 ((diffs (xs.take k) (ys.take k) : Nat) : Int) ∧ Below w.heap.size w wr) (fun _ _ i _ => xs.length - (intOf i).toNat)
  case atStart => exact ⟨0, Nat.zero_le _, rfl, rfl, Below.refl _ _⟩
  case round =>
    obtain ⟨k, hk, rfl, rfl, hb⟩ := hrel
    clear hd
    have hdl := diffs_le (xs.take k) (ys.take k)
    have hdl2 : (xs.take k).length ≤ k := List.length_take_le _ _
    by_cases hlt : k < xs.length
    · have hlt2 : k < ys.length := by rw [← HL.out]; exact hlt
      have hxr := hx.below hb (Nat.le_refl _)
      have hyr := hy.below hb (Nat.le_refl _)
      have hcx := hxr.cell k hlt
      have hcy := hyr.cell k hlt2
      have hix := hxr.idx und_bs siz_bs
      have hiy := hyr.idx und_bs siz_bs
      have HS := Lib.hid (diffs_snoc xs ys k hlt hlt2)
      simp only [List.getElem?_eq_getElem hlt, List.getElem?_eq_getElem hlt2, Option.getD_some] at hcx hcy
      have hdd : diffs (xs.take k) (ys.take k) ≤ 32 := by omega
      clear hdl hdl2
      generalize diffs (xs.take k) (ys.take k) = dk at hdd HS ⊢
      generalize xs[k] = p at hcx HS
      generalize ys[k] = q at hcy HS
      cases p <;> cases q
      all_goals
        go_wp2_with fail
        go_quiet (fail)
        go_wp2
        go_roundw
        case rel => exact ⟨k + 1, by omega, by go_num, by rw [HS.out]; first | rfl | (simp; done) | go_num, hb.trans (below_of_drewN _ _ _)⟩
        case measure => simp [intOf]; omega
    · obtain rfl : k = xs.length := by omega
      have hx1 : xs.take xs.length = xs := List.take_length
      have hy1 : ys.take xs.length = ys := by rw [HL.out, List.take_length]
      rw [hx1, hy1] at *
      clear hx1 hy1
      go_wp2_with (refine wpl_fbin rfl _ _ _ _ _ rfl rfl .f32 _ _ rfl rfl ?_; rintro r w' ⟨n, rfl⟩ hr)
      go_ret2
      exact ⟨r, rfl, hr, hb.trans (below_of_drewN _ _ _)⟩

set_option maxHeartbeats 400000 in
theorem specAngle_no {a1 a2 : Option Addr} {c1 c2 : Nat} {xs ys : List Bool} {w : World} (hx : Rd Value.bool w a1 c1 xs) (hy : Rd Value.bool w a2 c2 ys) (h : angleOk xs ys = false) :
    Calls Try.prog 7 #[.slice a1 xs.length c1, .slice a2 ys.length c2] w (RetFB w (some 0) false) := by
  have hlx := hx.len
  have hly := hy.len
  by_cases h1 : 1 ≤ xs.length
  · by_cases h2 : xs.length ≤ 32
    · have h3 : ¬ xs.length = ys.length := by intro h3; simp [angleOk, h1, h2, h3] at h; omega
      have hd : ((ys.length : Int) != (xs.length : Int)) = true := by simp; omega
      clear h h3
      go_enter Try.func7, Try.ntmps7
      go_wp2
      go_ret2
      exact ⟨0, rfl, cn_zero, Below.refl _ _⟩
    · have hq : 32 < xs.length := by omega
      have hd : decide ((xs.length : Int) ≤ 32) = false := by simp; omega
      clear h h2
      go_enter Try.func7, Try.ntmps7
      go_wp2
      go_ret2
      exact ⟨0, rfl, cn_zero, Below.refl _ _⟩
  · have hq : xs.length < 1 := by omega
    have hd : decide ((1 : Int) ≤ (xs.length : Int)) = false := by simp; omega
    clear h h1
    go_enter Try.func7, Try.ntmps7
    go_wp2
    go_ret2
    exact ⟨0, rfl, cn_zero, Below.refl _ _⟩

theorem specAngle_any {a1 a2 : Option Addr} {c1 c2 : Nat} {xs ys : List Bool} {w : World} (hx : Rd Value.bool w a1 c1 xs) (hy : Rd Value.bool w a2 c2 ys) :
    Calls Try.prog 7 #[.slice a1 xs.length c1, .slice a2 ys.length c2] w (RetFB w (angleR xs ys) (angleOk xs ys)) := by
  cases h : angleOk xs ys with
  | false => simpa [angleR, h] using specAngle_no hx hy h
  | true =>
    have h' := h
    simp only [angleOk, Bool.and_eq_true, decide_eq_true_eq] at h'
    simpa [angleR, h] using specAngle_yes hx hy h'.1.1 h'.1.2 h'.2

set_option maxHeartbeats 400000 in
theorem implAngle_no {a1 a2 : Option Addr} {c1 c2 : Nat} {xs ys : List Bool} {w : World} (hx : Rd Value.bool w a1 c1 xs) (hy : Rd Value.bool w a2 c2 ys) (h : angleOk xs ys = false) :
    Calls Try.prog 9 #[.slice a1 xs.length c1, .slice a2 ys.length c2] w (RetFB w (some 0) false) := by
  have hlx := hx.len
  have hly := hy.len
  by_cases h1 : 1 ≤ xs.length
  · by_cases h2 : xs.length ≤ 32
    · have h3 : ¬ xs.length = ys.length := by intro h3; simp [angleOk, h1, h2, h3] at h; omega
      have hd : ((xs.length : Int) != (ys.length : Int)) = true := by simp; omega
      clear h h3
      go_enter Try.func9, Try.ntmps9
      go_wp2
      go_ret2
      exact ⟨0, rfl, cn_zero, Below.refl _ _⟩
    · have hq : 32 < xs.length := by omega
      have hd : decide ((xs.length : Int) ≤ 32) = false := by simp; omega
      clear h h2
      go_enter Try.func9, Try.ntmps9
      go_wp2
      go_ret2
      exact ⟨0, rfl, cn_zero, Below.refl _ _⟩
  · have hq : xs.length < 1 := by omega
    have hd : decide ((1 : Int) ≤ (xs.length : Int)) = false := by simp; omega
    clear h h1
    go_enter Try.func9, Try.ntmps9
    go_wp2
    go_ret2
    exact ⟨0, rfl, cn_zero, Below.refl _ _⟩

theorem implAngle_any {a1 a2 : Option Addr} {c1 c2 : Nat} {xs ys : List Bool} {w : World} (hx : Rd Value.bool w a1 c1 xs) (hy : Rd Value.bool w a2 c2 ys) :
    Calls Try.prog 9 #[.slice a1 xs.length c1, .slice a2 ys.length c2] w (RetFB w (angleR xs ys) (angleOk xs ys)) := by
  cases h : angleOk xs ys with
  | false => simpa [angleR, h] using implAngle_no hx hy h
  | true =>
    have h' := h
    simp only [angleOk, Bool.and_eq_true, decide_eq_true_eq] at h'
    simpa [angleR, h] using implAngle_yes hx hy h'.1.1 h'.1.2 h'.2

end Go.Proofs.Ytiplibbicefaiaa
