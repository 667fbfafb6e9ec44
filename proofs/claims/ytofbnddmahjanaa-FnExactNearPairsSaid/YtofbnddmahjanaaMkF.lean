/- mark.., held.. on lists of float32. -/
import Derived.Test.YtofbnddmahjanaaSame
namespace Go.Proofs.Ytofbnddmahjanaa
open Go.RowKit

set_option maxHeartbeats 400000 in
theorem markF_any {a : Option Addr} {c base k0 : Nat} {xs : List Nat} {w : World} (ho : Own (Value.float .f32) 22 w base a c xs) (hk : k0 + xs.length ≤ 4611686018427387904) :
    Calls Try.prog 112 #[.slice a xs.length c, .int .i64 k0] w (RetM (Value.float .f32) 22 w base a c (fun k => floatOfInt .f32 (k : Int)) k0 xs.length) := by
  have hsf := @run_store_fl Try.prog
  go_enter Try.func112, Try.ntmps112
  go_wp2
  go_loopw [1, 5] (fun kk i wr => ∃ k : Nat, k ≤ xs.length ∧ i = .int .i64 k ∧ kk = .int .i64 ((k0 + k : Nat) : Int) ∧ Own (Value.float .f32) 22 wr base a c (marks (fun k => floatOfInt .f32 (k : Int)) k0 k ++ xs.drop k) ∧ w.grownBy wr (a.map (·.block))) (fun _ i _ => xs.length - (intOf i).toNat)
  case atStart => exact ⟨0, Nat.zero_le _, rfl, rfl, by simpa [marks] using ho, World.grownBy.refl _ _⟩
  case round =>
    obtain ⟨k, hk, rfl, rfl, hw, hg⟩ := hrel
    clear ho
    have hln : (marks (fun k => floatOfInt .f32 (k : Int)) k0 k ++ xs.drop k).length = xs.length := by simp [marks_length]; omega
    by_cases hlt : k < xs.length
    · have hio := hw.idx und_fs siz_fs
      rw [hln] at hio
      obtain ⟨v0, hcs⟩ : ∃ v, wr.cell? (elt a k) = some v := ⟨_, hw.cell k (by omega)⟩
      have hfz := hw.free k (by omega)
      have hst := hw.set k (by omega) (floatOfInt .f32 ((k0 + k : Nat) : Int))
      rw [marks_set (fun k => floatOfInt .f32 (k : Int)) k0 k xs hlt] at hst
      have HG : Hid (wr.grownBy _ _) := hst.2
      have HS : Hid (Own _ _ _ _ _ _ _) := hst.1
      have HC : Hid (w.grownBy _ _) := hg
      clear hst hg hln
      go_wp2
      go_roundw
      case rel => exact ⟨k + 1, by omega, by go_num, by go_num, by simpa using HS.out, grown_trans HC.out (by simpa using HG.out)⟩
      case measure => simp [intOf]; omega
    · obtain rfl : k = xs.length := by omega
      have HO : Hid (Own _ _ _ _ _ _ _) := hw
      have HC : Hid (w.grownBy _ _) := hg
      clear hw hln hg
      go_wp2
      go_ret
      exact ⟨rfl, HO.out.cast (by simp), HC.out⟩


end Go.Proofs.Ytofbnddmahjanaa
