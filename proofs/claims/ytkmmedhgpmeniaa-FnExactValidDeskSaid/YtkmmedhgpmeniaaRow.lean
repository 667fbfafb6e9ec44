/- SignRow: the sum of the numbers with signs, in both texts. -/
import Derived.Test.YtkmmedhgpmeniaaHash
import Derived.Test.YtkmmedhgpmeniaaDot
import Derived.Test.YtkmmedhgpmeniaaWith
namespace Go.Proofs.Ytkmmedhgpmeniaa
open Go.RowKit

def rowK (xs : List Nat) (s : Int) (k : Nat) : Option Nat :=
  (List.range k).foldl (fun acc (i : Nat) => fbin .add .f32 acc (fbin .mul .f32 (cn .f32 (xs[i]?.getD 0)) (cn .f32 (floatOfInt .f32 (sgn (i : Int) s))))) (some 0)
def rowC (xs : List Nat) (s : Int) : Option Nat := rowK xs s xs.length
theorem rowK_succ (xs : List Nat) (s : Int) (k : Nat) (h : k < xs.length) : rowK xs s (k + 1) = fbin .add .f32 (rowK xs s k) (fbin .mul .f32 (cn .f32 xs[k]) (cn .f32 (floatOfInt .f32 (sgn (k : Int) s)))) := by
  unfold rowK
  rw [List.range_succ, List.foldl_append]
  simp [h]

def isKey (k : Int) : Bool := inR k 0 4294967295
theorem isKey_bd {k : Int} (h : isKey k = true) : 0 ≤ k ∧ k < 4294967296 := by
  have := (inR_eq _ _ _).1 h; omega

theorem implIsKey_any {k : Int} {w : World} : Calls Try.prog 107 #[.int .i64 k] w fun e w' => e = .returned (.bool (isKey k)) ∧ w = w' := by
  go_enter Try.func107, Try.ntmps107
  go_wp2_with fail
  refine (within_any _ _ _ _).mono ?_
  rintro e w1 ⟨rfl, rfl⟩
  go_wp2
  go_ret
  exact ⟨rfl, rfl⟩
theorem l02Key_any {k : Int} {w : World} : Calls Try.prog 151 #[.int .i64 k] w fun e w' => e = .returned (.bool (isKey k)) ∧ w = w' := by
  go_enter Try.func151, Try.ntmps151
  go_wp2_with fail
  refine (l00In_any _ _ _ _).mono ?_
  rintro e w1 ⟨rfl, rfl⟩
  go_wp2
  go_ret
  exact ⟨rfl, rfl⟩

set_option maxHeartbeats 800000 in
theorem signRow_any {a1 : Option Addr} {c1 : Nat} {xs : List Nat} {s : Int} {w : World} (hx : Rd (Value.float .f32) w a1 c1 xs) (s0 : 0 ≤ s) (s1 : s < 4294967296) (hn : xs.length ≤ 1048576) :
    Calls Try.prog 104 #[.slice a1 xs.length c1, .int .i64 s] w (RetF w (rowC xs s)) := by
  go_enter Try.func104, Try.ntmps104
  go_wp2
  go_loopw [5, 6, 7, 10] (fun q _ _ i wr => ∃ (k r : Nat), k ≤ xs.length ∧ i = .int .i64 k ∧ q = .float .f32 r ∧ Hid (cn .f32 r = rowK xs s k) ∧ Below w.heap.size w wr) (fun _ _ _ i _ => xs.length - (intOf i).toNat)
  case atStart => exact ⟨0, 0, Nat.zero_le _, rfl, rfl, cn_zero, Below.refl _ _⟩
  case round =>
    obtain ⟨k, r, hk, rfl, rfl, HR, hb⟩ := hrel
    by_cases hlt : k < xs.length
    · have hxr := hx.below hb (Nat.le_refl _)
      have hcx := hxr.cell k hlt
      have hix := hxr.idx und_fs siz_fs
      have HS := Lib.hid (rowK_succ xs s k hlt)
      simp only [List.getElem?_eq_getElem hlt, Option.getD_some] at hcx
      go_wp2_with fail
      refine (sign_any (by omega) (by omega) s0 s1).mono ?_
      rintro e w1 ⟨rfl, rfl⟩
      go_wp2_with (refine wpl_fbin rfl _ _ _ _ _ rfl rfl .f32 _ _ rfl rfl ?_; rintro q w' ⟨n, rfl⟩ hq)
      rename_i q1 n1 hq1
      go_roundw
      case rel => exact ⟨k + 1, q, by omega, by go_num, rfl, by show _ = _; rw [HS.out, hq, hq1, HR.out], hb.trans (below_of_drewN _ _ _)⟩
      case measure => simp [intOf]; omega
    · obtain rfl : k = xs.length := by omega
      go_wp2
      go_ret
      exact ⟨r, rfl, HR.out, hb⟩

set_option maxRecDepth 4000 in
set_option maxHeartbeats 800000 in
theorem l07Row_any {a1 : Option Addr} {c1 : Nat} {xs : List Nat} {s : Int} {w : World} (hx : Rd (Value.float .f32) w a1 c1 xs) (s0 : 0 ≤ s) (s1 : s < 4294967296) (hn : xs.length ≤ 1048576) :
    Calls Try.prog 102 #[.slice a1 xs.length c1, .int .i64 s] w (RetF w (rowC xs s)) := by
  go_enter Try.func102, Try.ntmps102
  go_wp2
  go_loopw [5, 6, 9] (fun q _ i wr => ∃ (k r : Nat), k ≤ xs.length ∧ i = .int .i64 k ∧ q = .float .f32 r ∧ Hid (cn .f32 r = rowK xs s k) ∧ Below w.heap.size w wr) (fun _ _ i _ => xs.length - (intOf i).toNat)
  case atStart => exact ⟨0, 0, Nat.zero_le _, rfl, rfl, cn_zero, Below.refl _ _⟩
  case round =>
    obtain ⟨k, r, hk, rfl, rfl, HR, hb⟩ := hrel
    by_cases hlt : k < xs.length
    · have hxr := hx.below hb (Nat.le_refl _)
      have hcx := hxr.cell k hlt
      have hix := hxr.idx und_fs siz_fs
      have HS := Lib.hid (rowK_succ xs s k hlt)
      simp only [List.getElem?_eq_getElem hlt, Option.getD_some] at hcx
      go_wp2_with fail
      go_region_with (first
          | (go_at_call 143; refine (l02Sign_any (by omega) (by omega) s0 s1).mono ?_; rintro e w1 ⟨rfl, rfl⟩)
          | (refine upon_fbin rfl _ _ ?_; rintro q w' ⟨n, rfl⟩ hq))
      all_goals
        go_wp2
        rename_i q1 n1 hq1
        go_roundw
        case rel => exact ⟨k + 1, q, by omega, by go_num, rfl, by show _ = _; rw [HS.out, hq, hq1, HR.out], hb.trans (below_of_drewN _ _ _)⟩
        case measure => simp [intOf]; omega
    · obtain rfl : k = xs.length := by omega
      go_wp2
      go_ret
      exact ⟨r, rfl, HR.out, hb⟩

theorem isVec_len {xs : List Nat} (h : isVec xs = true) : xs.length ≤ 32 := by simp [isVec] at h; exact h.1.2

end Go.Proofs.Ytkmmedhgpmeniaa
