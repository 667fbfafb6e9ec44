/- ValidWindow in the program's text. -/
import Derived.Test.YtihbckoldblpcaaWinL
namespace Go.Proofs.Ytihbckoldblpcaa
open Go.RowKit

theorem isNaNi_any {x : Int} {w : World} : Calls Try.prog 136 #[.int .i64 x] w fun e w' => e = .returned (.bool false) ∧ w = w' := by
  go_enter Try.func136, Try.ntmps136
  go_wp2
  go_ret
  exact ⟨ret_bool (by simp), rfl⟩
theorem lessi_any {x y : Int} {w : World} : Calls Try.prog 152 #[.int .i64 x, .int .i64 y] w fun e w' => e = .returned (.bool (decide (x < y))) ∧ w = w' := by
  go_enter Try.func152, Try.ntmps152
  go_wp2_with (go_at_call 136; refine isNaNi_any.mono ?_; rintro e w1 ⟨rfl, rfl⟩)
  go_ret
  exact ⟨rfl, rfl⟩
theorem lessi_quiet {x y : Int} {w : World} {n : Nat} : Calls Try.prog 152 #[.int .i64 x, .int .i64 y] (w.drewN n) fun e w'' => e = .returned (.bool (decide (x < y))) ∧ ∃ m, w'' = w.drewN m :=
  lessi_any.mono fun _ _ ⟨he, hw⟩ => ⟨he, n, hw.symm⟩

theorem drewN_more {w wr : World} (h : ∃ n, wr = w.drewN n) (m : Nat) : ∃ n, wr.drewN m = w.drewN n := by
  obtain ⟨n, rfl⟩ := h
  exact ⟨_, World.drewN_drewN _ _ _⟩
theorem at0_cell {w : World} {a : Option Addr} {c : Nat} {xs : List Int} (hr : Rd (Value.int .i64) w a c xs) {k : Nat} (hk : k < xs.length) {x : Int} (hx : at0 xs k = x) : w.cell? (elt a k) = some (.int .i64 x) := by
  rw [hr.cell k hk, ← hx]; rfl

theorem isTime_any {x : Int} {w : World} : Calls Try.prog 106 #[.int .i64 x] w fun e w' => e = .returned (.bool (inR x 0 1000000)) ∧ w = w' := by
  go_enter Try.func106, Try.ntmps106
  go_wp2_with fail
  refine (within_any _ _ _ _).mono ?_
  rintro e w1 ⟨rfl, rfl⟩
  go_wp2
  go_ret
  exact ⟨rfl, rfl⟩

end Go.Proofs.Ytihbckoldblpcaa
