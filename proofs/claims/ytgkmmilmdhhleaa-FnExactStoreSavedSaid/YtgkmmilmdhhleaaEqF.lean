/- eq.. on lists of float32. -/
import Derived.Test.YtgkmmilmdhhleaaSame
namespace Go.Proofs.Ytgkmmilmdhhleaa
open Go.RowKit

theorem und_f32 : (Try.prog.underlying 22).isSome = true := by kernel_rfl
theorem und_f64 : Try.prog.underlying 102 = some (.float .f64) := by kernel_rfl

set_option maxRecDepth 4000 in
set_option maxHeartbeats 800000 in
theorem eqF_any {a1 a2 : Option Addr} {c1 c2 : Nat} {xs ys : List Nat} {w : World} (hx : Rd (Value.float .f32) w a1 c1 xs) (hy : Rd (Value.float .f32) w a2 c2 ys) (h : sameF xs ys) :
    Calls Try.prog 33 #[.slice a1 xs.length c1, .slice a2 ys.length c2] w fun e w' => e = .returned (.bool true) ∧ Below w.heap.size w w' := by
  have hlx := hx.len
  have hly := hy.len
  have hl : xs.length = ys.length := by have := congrArg List.length h; simpa using this
  have hd : ((xs.length : Int) != (ys.length : Int)) = false := by simp [hl]
  have HL := Lib.hid hl
  have HS := Lib.hid h
  clear hl h
  go_enter Try.func33, Try.ntmps33
  go_wp2
  go_loopw [5] (fun i wr => ∃ k : Nat, k ≤ xs.length ∧ i = .int .i64 k ∧ Below w.heap.size w wr) (fun i _ => xs.length - (intOf i).toNat)
  case atStart => exact ⟨0, Nat.zero_le _, rfl, Below.refl _ _⟩
  case round =>
    obtain ⟨k, hk, rfl, hb⟩ := hrel
    clear hd
    by_cases hlt : k < xs.length
    · have hlt2 : k < ys.length := by rw [← HL.out]; exact hlt
      have hxr := hx.below hb (Nat.le_refl _)
      have hyr := hy.below hb (Nat.le_refl _)
      have hcx := hxr.cell k hlt
      have hcy := hyr.cell k hlt2
      have hix := hxr.idx und_fs siz_fs
      have hiy := hyr.idx und_fs siz_fs
      have hg := sameF_get HS.out k hlt hlt2
      simp only [List.getElem?_eq_getElem hlt, List.getElem?_eq_getElem hlt2, Option.getD_some] at hcx hcy
      go_wp2_with fail
      go_region_with (first
          | (go_at_call 70; refine (sameFloat_any (by simp only [*])).mono ?_; rintro e w1 ⟨rfl, hb1⟩)
          | (refine upon_widen und_f32 und_f64 _ ?_; rintro r w' ⟨n, rfl⟩ hr))
      all_goals
        go_wp2
        go_roundw
        case rel => exact ⟨k + 1, by omega, by go_num, hb.trans (Below.trans (below_of_drewN _ _ _) (hb1.mono (by simpa using hb.size)))⟩
        case measure => simp [intOf]; omega
    · go_wp2
      go_ret
      exact ⟨rfl, hb⟩

end Go.Proofs.Ytgkmmilmdhhleaa
