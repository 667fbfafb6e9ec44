/- The walks of the laws' small helpers on slices of float32. -/
import Derived.Test.YtgkmmilmdhhleaaRows
import Derived.Test.YtgkmmilmdhhleaaLib
namespace Go.Proofs.Ytgkmmilmdhhleaa
open Go.RowKit

theorem und_fs : Try.prog.underlying 44 = some (.slice (Try.prog.elem 44)) := by kernel_rfl
theorem siz_fs (w : World) : (sizeOf (Try.prog.elem 44)).run Try.prog w = .ok 1 w := by kernel_rfl
theorem und_fse : Try.prog.underlying 44 = some (.slice 22) := by kernel_rfl
theorem info_f : (Try.prog.info? 22).map (fun i => (i.zero, i.size, i.bytes)) = some (some (.float .f32 0), 1, 4) := by kernel_rfl

set_option maxHeartbeats 400000 in
theorem toF_any {a : Option Addr} {c : Nat} {xs : List Nat} {w : World} (hr : Rd (Value.float .f32) w a c xs) (hn : xs.length ≤ 1048576) :
    Calls Try.prog 30 #[.slice a xs.length c] w (RetS (Value.float .f32) 22 w xs) := by
  have hsf := @run_store_fl Try.prog
  go_enter Try.func30, Try.ntmps30
  go_wp2_with (at_make; refine wpl_make (f := Value.float .f32) (d := 0) und_fse info_f rfl xs.length rfl _ _ rfl rfl rfl (by omega) (by omega) ?_; intro w1 ho0 hb0)
  go_loopw [4] (fun i wr => ∃ k : Nat, k ≤ xs.length ∧ i = .int .i64 k ∧ Own (Value.float .f32) 22 wr w.heap.size (some ⟨w.heap.size, 0, none⟩) xs.length (xs.take k ++ List.replicate (xs.length - k) (0 : Nat)) ∧ Below w.heap.size w wr) (fun i _ => xs.length - (intOf i).toNat)
  case atStart => exact ⟨0, Nat.zero_le _, rfl, by simpa using ho0, hb0⟩
  case round =>
    obtain ⟨k, hk, rfl, ho, hb⟩ := hrel
    clear ho0 hb0
    by_cases hlt : k < xs.length
    · have hr' := hr.below hb (Nat.le_refl _)
      have hix := hr'.idx und_fs siz_fs
      have hcx : wr.cell? (elt a k) = some (Value.float .f32 (xs[k]?.getD 0)) := hr'.cell k hlt
      have hln : (xs.take k ++ List.replicate (xs.length - k) (0 : Nat)).length = xs.length := by simp; omega
      have hio := ho.idx und_fs siz_fs
      rw [hln] at hio
      have hcs := ho.rd.cell k (by omega)
      have hfz := ho.free k (by omega)
      have hst := ho.set k (by omega) (xs[k]?.getD 0)
      have hgt : xs[k]? = some (xs[k]?.getD 0) := by simp [hlt]
      rw [set_fill xs 0 _ k hlt hgt] at hst
      have HG : Hid (wr.grownBy _ _) := hst.2
      have HS : Hid (Own _ _ _ _ _ _ _) := hst.1
      clear hst hgt
      go_wp2
      go_roundw
      case rel => exact ⟨k + 1, by omega, by go_num, by simpa [hlt] using HS.out, hb.grown (by simpa [hlt] using HG.out) hb.size (by simp)⟩
      case measure => simp [intOf]; omega
    · obtain rfl : k = xs.length := by omega
      have HO : Hid (Own _ _ _ _ _ _ _) := ho
      clear ho
      go_wp2
      go_ret
      exact ⟨_, _, rfl, HO.out.cast (by simp), hb⟩


end Go.Proofs.Ytgkmmilmdhhleaa
