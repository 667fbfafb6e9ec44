/- slices.Clone at []int64. -/
import Derived.Test.YtdpolaedfjljmaaToI
namespace Go.Proofs.Ytdpolaedfjljmaa
open Go.RowKit

theorem clonei_any (a : Option Addr) (c : Nat) (xs : List Int) (w : World) (hr : Rd (Value.int .i64) w a c xs) (hn : xs.length ≤ 1048576) :
    Calls Try.prog 159 #[.slice a xs.length c] w (RetS (Value.int .i64) 2 w xs) := by
  cases ha : a with
  | none =>
    obtain ⟨rfl, rfl⟩ := rd_none hr ha
    subst ha
    have hq := fun w' => Lib.run_eql_slice_nil (P := Try.prog) w' 22 2 none 0 0 0 0 und_ise
    go_enter Try.func159, Try.ntmps159
    go_wp2
    go_ret
    exact ⟨none, 0, rfl, World.ownsRow_nil _ _ _ _, Below.refl _ _⟩
  | some p =>
    rw [ha] at hr
    clear ha
    have hq := fun w' => Lib.run_eql_slice_nil (P := Try.prog) w' 22 2 (some p) xs.length c 0 0 und_ise
    go_enter Try.func159, Try.ntmps159
    have HE := Lib.hid (own_empty (f := Value.int .i64) (e := 2) (α := Int) w (by_ := 0) w.heap.size (Nat.le_refl _) rfl)
    have HR := Lib.hid (hr.below ((Below.refl w.heap.size w).alloc (Nat.le_refl _) (.cells #[] 2)) (Nat.le_refl _))
    go_wp2_with (at_builtin; refine wpl_appendN (f := Value.int .i64) (d := 0) und_ise info_i (fun _ => rfl) HE.out HR.out rfl _ _ rfl rfl rfl (by simp) (by omega) (by omega) (by simp) ?_; intro a1 c1 w1 ho1 hg1)
    go_ret
    refine ⟨a1, c1, by simp, ho1, ?_⟩
    exact ((Below.refl w.heap.size w).alloc (Nat.le_refl _) (.cells #[] 2)).trans (grown_belowOwn HE.out hg1 (Nat.le_refl _) (by simp))

end Go.Proofs.Ytdpolaedfjljmaa
