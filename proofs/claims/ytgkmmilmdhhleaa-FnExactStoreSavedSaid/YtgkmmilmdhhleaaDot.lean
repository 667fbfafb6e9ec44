/- The sum of the products of two vectors, in both texts; a number if it is finite. -/
import Derived.Test.YtgkmmilmdhhleaaEqF
namespace Go.Proofs.Ytgkmmilmdhhleaa
open Go.RowKit

/-- The sum of products, from left to right, each rounded. -/
def dotC (xs ys : List Nat) : Option Nat := (List.zip xs ys).foldl (fun s p => fbin .add .f32 s (fbin .mul .f32 (cn .f32 p.1) (cn .f32 p.2))) (some 0)
theorem dotC_snoc (xs ys : List Nat) (k : Nat) (h1 : k < xs.length) (h2 : k < ys.length) :
    dotC (xs.take (k + 1)) (ys.take (k + 1)) = fbin .add .f32 (dotC (xs.take k) (ys.take k)) (fbin .mul .f32 (cn .f32 xs[k]) (cn .f32 ys[k])) := by
  unfold dotC
  rw [List.take_add_one, List.take_add_one, List.getElem?_eq_getElem h1, List.getElem?_eq_getElem h2]
  simp only [Option.toList_some]
  rw [List.zip_append (by simp; omega), List.foldl_append]
  rfl

set_option maxHeartbeats 800000 in
theorem implDot_any {a1 a2 : Option Addr} {c1 c2 : Nat} {xs ys : List Nat} {w : World} (hx : Rd (Value.float .f32) w a1 c1 xs) (hy : Rd (Value.float .f32) w a2 c2 ys) (hl : xs.length = ys.length) :
    Calls Try.prog 157 #[.slice a1 xs.length c1, .slice a2 ys.length c2] w (RetF w (dotC xs ys)) := by
  have hlx := hx.len
  have HL := Lib.hid hl
  clear hl
  go_enter Try.func157, Try.ntmps157
  go_wp2
  go_loopw [5, 6, 7, 10] (fun s _ _ i wr => ∃ (k r : Nat), k ≤ xs.length ∧ i = .int .i64 k ∧ s = .float .f32 r ∧ Hid (cn .f32 r = dotC (xs.take k) (ys.take k)) ∧ Below w.heap.size w wr) (fun _ _ _ i _ => xs.length - (intOf i).toNat)
  case atStart => exact ⟨0, 0, Nat.zero_le _, rfl, rfl, cn_zero, Below.refl _ _⟩
  case round =>
    obtain ⟨k, r, hk, rfl, rfl, HR, hb⟩ := hrel
    by_cases hlt : k < xs.length
    · have hlt2 : k < ys.length := by rw [← HL.out]; exact hlt
      have hxr := hx.below hb (Nat.le_refl _)
      have hyr := hy.below hb (Nat.le_refl _)
      have hcx := hxr.cell k hlt
      have hcy := hyr.cell k hlt2
      have hix := hxr.idx und_fs siz_fs
      have hiy := hyr.idx und_fs siz_fs
      have HS := Lib.hid (dotC_snoc xs ys k hlt hlt2)
      simp only [List.getElem?_eq_getElem hlt, List.getElem?_eq_getElem hlt2, Option.getD_some] at hcx hcy
      go_wp2_with (refine wpl_fbin rfl _ _ _ _ _ rfl rfl .f32 _ _ rfl rfl ?_; rintro q w' ⟨n, rfl⟩ hq)
      rename_i q1 n1 hq1
      go_roundw
      case rel => exact ⟨k + 1, q, by omega, by go_num, rfl, by show _ = _; rw [HS.out, hq, hq1, HR.out], hb.trans (below_of_drewN _ _ _)⟩
      case measure => simp [intOf]; omega
    · obtain rfl : k = xs.length := by omega
      go_wp2
      go_ret
      refine ⟨r, rfl, ?_, hb⟩
      have := HR.out
      rwa [List.take_length, HL.out, List.take_length] at this

set_option maxHeartbeats 800000 in
theorem specDot_any {a1 a2 : Option Addr} {c1 c2 : Nat} {xs ys : List Nat} {w : World} (hx : Rd (Value.float .f32) w a1 c1 xs) (hy : Rd (Value.float .f32) w a2 c2 ys) (hl : xs.length = ys.length) :
    Calls Try.prog 159 #[.slice a1 xs.length c1, .slice a2 ys.length c2] w (RetF w (dotC xs ys)) := by
  have hlx := hx.len
  have HL := Lib.hid hl
  clear hl
  go_enter Try.func159, Try.ntmps159
  go_wp2
  go_loopw [5, 6, 9] (fun s _ i wr => ∃ (k r : Nat), k ≤ xs.length ∧ i = .int .i64 k ∧ s = .float .f32 r ∧ Hid (cn .f32 r = dotC (xs.take k) (ys.take k)) ∧ Below w.heap.size w wr) (fun _ _ i _ => xs.length - (intOf i).toNat)
  case atStart => exact ⟨0, 0, Nat.zero_le _, rfl, rfl, cn_zero, Below.refl _ _⟩
  case round =>
    obtain ⟨k, r, hk, rfl, rfl, HR, hb⟩ := hrel
    by_cases hlt : k < xs.length
    · have hlt2 : k < ys.length := by rw [← HL.out]; exact hlt
      have hxr := hx.below hb (Nat.le_refl _)
      have hyr := hy.below hb (Nat.le_refl _)
      have hcx := hxr.cell k hlt
      have hcy := hyr.cell k hlt2
      have hix := hxr.idx und_fs siz_fs
      have hiy := hyr.idx und_fs siz_fs
      have HS := Lib.hid (dotC_snoc xs ys k hlt hlt2)
      simp only [List.getElem?_eq_getElem hlt, List.getElem?_eq_getElem hlt2, Option.getD_some] at hcx hcy
      go_wp2_with fail
      go_region_with (refine upon_fbin rfl _ _ ?_; rintro q w' ⟨n, rfl⟩ hq)
      all_goals
        go_wp2
        rename_i q1 n1 hq1
        go_roundw
        case rel => exact ⟨k + 1, q, by omega, by go_num, rfl, by show _ = _; rw [HS.out, hq, hq1, HR.out], hb.trans (below_of_drewN _ _ _)⟩
        case measure => simp [intOf]; omega
    · obtain rfl : k = xs.length := by omega
      go_wp2
      go_ret
      refine ⟨r, rfl, ?_, hb⟩
      have := HR.out
      rwa [List.take_length, HL.out, List.take_length] at this

/-- A number, if it is finite. -/
def ifFin (o : Option Nat) : Option Nat := if fin .f32 o then o else some 0

theorem ifFinite_any {x : Nat} {w : World} : Calls Try.prog 134 #[.float .f32 x] w (RetFB w (ifFin (cn .f32 x)) (fin .f32 (cn .f32 x))) := by
  cases h : fin .f32 (cn .f32 x) with
  | false =>
    go_enter Try.func134, Try.ntmps134
    go_wp2_with fail
    refine isFinite_any.mono ?_
    rintro e w1 ⟨rfl, hb1⟩
    go_wp2
    go_ret2
    exact ⟨0, rfl, by simp [ifFin, h, cn_zero], hb1⟩
  | true =>
    go_enter Try.func134, Try.ntmps134
    go_wp2_with fail
    refine isFinite_any.mono ?_
    rintro e w1 ⟨rfl, hb1⟩
    go_wp2
    go_ret2
    exact ⟨x, rfl, by simp [ifFin, h], hb1⟩

theorem l02Number_any {x : Nat} {w : World} : Calls Try.prog 131 #[.float .f32 x] w (RetFB w (ifFin (cn .f32 x)) (fin .f32 (cn .f32 x))) := by
  cases h : fin .f32 (cn .f32 x) with
  | false =>
    go_enter Try.func131, Try.ntmps131
    go_wp2_with fail
    refine l01Finite_any.mono ?_
    rintro e w1 ⟨rfl, hb1⟩
    go_wp2
    go_ret2
    exact ⟨0, rfl, by simp [ifFin, h, cn_zero], hb1⟩
  | true =>
    go_enter Try.func131, Try.ntmps131
    go_wp2_with fail
    refine l01Finite_any.mono ?_
    rintro e w1 ⟨rfl, hb1⟩
    go_wp2
    go_ret2
    exact ⟨x, rfl, by simp [ifFin, h], hb1⟩

def dotOk (xs ys : List Nat) : Bool := isVec xs && isVec ys && decide (xs.length = ys.length)
def dotR (xs ys : List Nat) : Option Nat := if dotOk xs ys then ifFin (dotC xs ys) else some 0
def dotB (xs ys : List Nat) : Bool := dotOk xs ys && fin .f32 (dotC xs ys)

end Go.Proofs.Ytgkmmilmdhhleaa
