/- The walks of the laws' small helpers on slices of bool. -/
import Derived.Test.YtockifchghllhaaDoorRows
import Derived.Test.YtockifchghllhaaDoorLib
namespace Go.Proofs.YtockifchghllhaaDoor
open Go.RowKit

theorem und_bs : Tryd.prog.underlying 25 = some (.slice (Tryd.prog.elem 25)) := by kernel_rfl
theorem siz_bs (w : World) : (sizeOf (Tryd.prog.elem 25)).run Tryd.prog w = .ok 1 w := by kernel_rfl
theorem und_bse : Tryd.prog.underlying 25 = some (.slice 4) := by kernel_rfl
theorem info_b : (Tryd.prog.info? 4).map (fun i => (i.zero, i.size, i.bytes)) = some (some (.bool false), 1, 1) := by kernel_rfl

set_option maxHeartbeats 400000 in
theorem toB_any {a : Option Addr} {c : Nat} {xs : List Bool} {w : World} (hr : Rd (Value.bool) w a c xs) (hn : xs.length ≤ 1048576) :
    Calls Tryd.prog 55 #[.slice a xs.length c] w (RetS (Value.bool) 4 w xs) := by
  go_enter Tryd.func55, Tryd.ntmps55
  go_wp2_with (at_make; refine wpl_make (f := Value.bool) (d := false) und_bse info_b rfl xs.length rfl _ _ rfl rfl rfl (by omega) (by omega) ?_; intro w1 ho0 hb0)
  go_loopw [4] (fun i wr => ∃ k : Nat, k ≤ xs.length ∧ i = .int .i64 k ∧ Own (Value.bool) 4 wr w.heap.size (some ⟨w.heap.size, 0, none⟩) xs.length (xs.take k ++ List.replicate (xs.length - k) (false : Bool)) ∧ Below w.heap.size w wr) (fun i _ => xs.length - (intOf i).toNat)
  case atStart => exact ⟨0, Nat.zero_le _, rfl, by simpa using ho0, hb0⟩
  case round =>
    obtain ⟨k, hk, rfl, ho, hb⟩ := hrel
    clear ho0 hb0
    by_cases hlt : k < xs.length
    · have hr' := hr.below hb (Nat.le_refl _)
      have hix := hr'.idx und_bs siz_bs
      have hcx : wr.cell? (elt a k) = some (Value.bool (xs[k]?.getD false)) := hr'.cell k hlt
      have hln : (xs.take k ++ List.replicate (xs.length - k) (false : Bool)).length = xs.length := by simp; omega
      have hio := ho.idx und_bs siz_bs
      rw [hln] at hio
      have hcs := ho.rd.cell k (by omega)
      have hfz := ho.free k (by omega)
      have hst := ho.set k (by omega) (xs[k]?.getD false)
      have hgt : xs[k]? = some (xs[k]?.getD false) := by simp [hlt]
      rw [set_fill xs false _ k hlt hgt] at hst
      have HG : Hid (wr.grownBy _ _) := hst.2
      have HS : Hid (Own _ _ _ _ _ _ _) := hst.1
      clear hst hgt
      go_wp2
      go_roundw
      case rel => exact ⟨k + 1, by omega, by go_num, by simpa [hlt] using HS.out, hb.grown (by simpa [hlt] using HG.out) hb.size (by simp)⟩
      case measure => simp [intOf]; omega
    · obtain rfl : k = xs.length := by omega
      have HO : Hid (Own _ _ _ _ _ _ _) := ho
      clear ho
      go_wp2
      go_ret
      exact ⟨_, _, rfl, HO.out.cast (by simp), hb⟩


end Go.Proofs.YtockifchghllhaaDoor
