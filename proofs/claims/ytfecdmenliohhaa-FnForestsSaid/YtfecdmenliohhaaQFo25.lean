/- The helpers of the laws on bytes (as in XBanW: import one of the two). -/
import Derived.Test.YtfecdmenliohhaaQFo22
import Derived.Test.YtfecdmenliohhaaQFo10
import Derived.Test.YtfecdmenliohhaaQFo6
import Derived.Deep.DrawnRows
set_option linter.unusedVariables false
set_option linter.unusedSimpArgs false
namespace Go.Proofs.Ytfecdmenliohhaa
open Go.RowKit
attribute [local go_sem ↓] Go.wp_at_zero Go.wp_at_succ

theorem bd_byte {n : Int} (h : (Lit.int .u8 n).wf = true) : 0 ≤ n ∧ n < 256 := by
  simp [Lit.wf, IntKind.min, IntKind.max, IntKind.signed, IntKind.bits] at h
  omega
theorem b10Long_any {a1 a2 : Option Addr} {c1 c2 n1 n2 : Nat} {w : World} (h1 : n1 ≤ 9223372036854775807) (h2 : n2 ≤ 9223372036854775807) :
    Calls Try.prog 6 #[.slice a1 n1 c1, .slice a2 n2 c2] w fun e w' => e = .returned (.bool (decide (1048576 < n1) || decide (1048576 < n2))) ∧ w = w' := by
  by_cases g1 : 1048576 < n1
  · have z1 : (1048576 : Int) < (n1 : Int) := by omega
    go_enter Try.func6, Try.ntmps6
    go_wp2
    go_ret
    exact ⟨ret_bool (by rw [decide_eq_true g1]; rfl), rfl⟩
  · have z1 : ¬ (1048576 : Int) < (n1 : Int) := by omega
    by_cases g2 : 1048576 < n2
    · have z2 : (1048576 : Int) < (n2 : Int) := by omega
      go_enter Try.func6, Try.ntmps6
      go_wp2
      go_ret
      exact ⟨ret_bool (by first | rfl | (rw [decide_eq_false g1, decide_eq_true g2]; rfl)), rfl⟩
    · have z2 : ¬ (1048576 : Int) < (n2 : Int) := by omega
      go_enter Try.func6, Try.ntmps6
      go_wp2
      go_ret
      exact ⟨ret_bool (by first | rfl | (rw [decide_eq_false g1, decide_eq_false g2]; rfl)), rfl⟩

set_option maxHeartbeats 1000000 in
theorem b10At_any {a : Option Addr} {c : Nat} {xs : List Int} {i n : Nat} {w : World} (hr : Rd (Value.int .u8) w a c xs) (hb : ∀ x ∈ xs, 0 ≤ x ∧ x < 256) (hi : i ≤ 1099511627776) (hn : 1 ≤ n) (hn2 : n ≤ 1099511627776) :
    Calls Try.prog 7 #[.slice a xs.length c, .int .i64 (i : Int), .int .i64 (n : Int)] w fun e w' => (∃ v : Nat, e = .returned (.int .i64 (v : Int)) ∧ v < n) ∧ w = w' := by
  have hln := hr.len
  by_cases h1 : n ≤ 1
  · have z1 : (n : Int) ≤ 1 := by omega
    go_enter Try.func7, Try.ntmps7
    go_wp2
    go_ret
    exact ⟨⟨0, rfl, by omega⟩, rfl⟩
  · have z1 : ¬ (n : Int) ≤ 1 := by omega
    have hn0 : ¬ (n : Int) = 0 := by omega
    have hn00 : ((n : Int) == 0) = false := by simp; omega
    by_cases h2 : i < xs.length
    · have z2 : (i : Int) < (xs.length : Int) := by omega
      have hix := hr.idx und_y siz_y
      have hcx := hr.cell i h2
      simp only [List.getElem?_eq_getElem h2, Option.getD_some] at hcx
      have hx := hb xs[i] (List.getElem_mem h2)
      generalize xs[i] = x at hcx hx
      obtain ⟨v, hv⟩ : ∃ v : Nat, x.tmod (n : Int) = (v : Int) := ⟨(x.tmod (n : Int)).toNat, by have := Int.tmod_nonneg (n : Int) hx.1; omega⟩
      have hvn : v < n := by have := Int.tmod_lt_of_pos x (show (0 : Int) < (n : Int) by omega); omega
      have ewv : IntKind.i64.wrap (v : Int) = (v : Int) := IntWalk.i64_in _ (by omega)
      have ewx : IntKind.i64.wrap x = x := IntWalk.i64_in _ (by omega)
      go_enter Try.func7, Try.ntmps7
      go_wp2
      go_ret
      exact ⟨⟨v, ret_int (by first | rfl | exact hv), hvn⟩, rfl⟩
    · have z2 : ¬ (i : Int) < (xs.length : Int) := by omega
      obtain ⟨v, hv⟩ : ∃ v : Nat, ((i : Int) * 37 + 11).tmod (n : Int) = (v : Int) := ⟨(((i : Int) * 37 + 11).tmod (n : Int)).toNat, by have := Int.tmod_nonneg (n : Int) (show 0 ≤ (i : Int) * 37 + 11 by omega); omega⟩
      have hvn : v < n := by have := Int.tmod_lt_of_pos ((i : Int) * 37 + 11) (show (0 : Int) < (n : Int) by omega); omega
      have ewv : IntKind.i64.wrap (v : Int) = (v : Int) := IntWalk.i64_in _ (by omega)
      have ew1 : IntKind.i64.wrap ((i : Int) * 37) = (i : Int) * 37 := IntWalk.i64_in _ (by omega)
      have ew2 : IntKind.i64.wrap ((i : Int) * 37 + 11) = (i : Int) * 37 + 11 := IntWalk.i64_in _ (by omega)
      go_enter Try.func7, Try.ntmps7
      go_wp2
      go_ret
      exact ⟨⟨v, ret_int (by first | rfl | exact hv), hvn⟩, rfl⟩

set_option maxHeartbeats 400000 in
theorem b10Ints_same {a1 a2 : Option Addr} {c1 c2 : Nat} {xs : List Int} {w : World} (hx : Rd (Value.int .i64) w a1 c1 xs) (hy : Rd (Value.int .i64) w a2 c2 xs) :
    Calls Try.prog 12 #[.slice a1 xs.length c1, .slice a2 xs.length c2] w fun e w' => e = .returned (.bool true) ∧ Below w.heap.size w w' := by
  have hlx := hx.len
  have hd : ((xs.length : Int) != (xs.length : Int)) = false := by simp
  go_enter Try.func12, Try.ntmps12
  go_wp2
  clear hd
  go_loopw [13] (fun i wr => ∃ k : Nat, k ≤ xs.length ∧ i = .int .i64 k ∧ ∃ n, wr = w.drewN n) (fun i _ => xs.length - (intOf i).toNat)
  case atStart => exact ⟨0, Nat.zero_le _, rfl, 0, rfl⟩
  case round =>
    obtain ⟨k, hk, rfl, n, rfl⟩ := hrel
    by_cases hlt : k < xs.length
    · have hltz : (k : Int) < (xs.length : Int) := by omega
      have ewk : IntKind.i64.wrap ((k : Int) + 1) = (k : Int) + 1 := IntWalk.i64_in _ (by omega)
      have hcx := hx.cell k hlt
      have hcy := hy.cell k hlt
      have hix := hx.idx und_is siz_is
      have hiy := hy.idx und_is siz_is
      have hne : (xs[k] != xs[k]) = false := by simp
      simp only [List.getElem?_eq_getElem hlt, Option.getD_some] at hcx hcy
      generalize xs[k] = x at hcx hcy hne
      go_wp2_with fail
      go_quiet (fail)
      go_wp2
      go_roundw
      case rel => exact ⟨k + 1, by omega, by go_num, _, rfl⟩
      case measure => simp [intOf]; omega
    · obtain rfl : k = xs.length := by omega
      have hltz : ¬ (xs.length : Int) < (xs.length : Int) := by omega
      go_wp2
      go_ret
      exact ⟨rfl, below_of_drewN _ _ _⟩
end Go.Proofs.Ytfecdmenliohhaa
