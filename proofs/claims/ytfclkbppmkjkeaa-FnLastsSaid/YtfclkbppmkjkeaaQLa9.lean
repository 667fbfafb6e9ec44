/- SignRow: the sum of the numbers with signs, in both texts. Lists of keys, in both texts. Valid cells in both texts. -/
import Derived.Test.YtfclkbppmkjkeaaQLa5
import Derived.Test.YtfclkbppmkjkeaaQLa3
import Derived.Test.YtfclkbppmkjkeaaQLa4
import Derived.Test.YtfclkbppmkjkeaaQLa2
namespace Go.Proofs.Ytfclkbppmkjkeaa
open Go.RowKit

def rowK (xs : List Nat) (s : Int) (k : Nat) : Option Nat :=
  (List.range k).foldl (fun acc (i : Nat) => fbin .add .f32 acc (fbin .mul .f32 (cn .f32 (xs[i]?.getD 0)) (cn .f32 (floatOfInt .f32 (sgn (i : Int) s))))) (some 0)
def rowC (xs : List Nat) (s : Int) : Option Nat := rowK xs s xs.length
theorem rowK_succ (xs : List Nat) (s : Int) (k : Nat) (h : k < xs.length) : rowK xs s (k + 1) = fbin .add .f32 (rowK xs s k) (fbin .mul .f32 (cn .f32 xs[k]) (cn .f32 (floatOfInt .f32 (sgn (k : Int) s)))) := by
  unfold rowK
  rw [List.range_succ, List.foldl_append]
  simp [h]

def isKey (k : Int) : Bool := inR k 0 4294967295
theorem isKey_bd {k : Int} (h : isKey k = true) : 0 ≤ k ∧ k < 4294967296 := by
  have := (inR_eq _ _ _).1 h; omega

theorem implIsKey_any {k : Int} {w : World} : Calls Try.prog 99 #[.int .i64 k] w fun e w' => e = .returned (.bool (isKey k)) ∧ w = w' := by
  go_enter Try.func99, Try.ntmps99
  go_wp2_with fail
  refine (within_any _ _ _ _).mono ?_
  rintro e w1 ⟨rfl, rfl⟩
  go_wp2
  go_ret
  exact ⟨rfl, rfl⟩
set_option maxHeartbeats 800000 in
theorem signRow_any {a1 : Option Addr} {c1 : Nat} {xs : List Nat} {s : Int} {w : World} (hx : Rd (Value.float .f32) w a1 c1 xs) (s0 : 0 ≤ s) (s1 : s < 4294967296) (hn : xs.length ≤ 1048576) :
    Calls Try.prog 92 #[.slice a1 xs.length c1, .int .i64 s] w (RetF w (rowC xs s)) := by
  go_enter Try.func92, Try.ntmps92
  go_wp2
  go_loopw [5, 6, 7, 10] (fun q _ _ i wr => ∃ (k r : Nat), k ≤ xs.length ∧ i = .int .i64 k ∧ q = .float .f32 r ∧ Hid (cn .f32 r = rowK xs s k) ∧ Below w.heap.size w wr) (fun _ _ _ i _ => xs.length - (intOf i).toNat)
  case atStart => exact ⟨0, 0, Nat.zero_le _, rfl, rfl, cn_zero, Below.refl _ _⟩
  case round =>
    obtain ⟨k, r, hk, rfl, rfl, HR, hb⟩ := hrel
    by_cases hlt : k < xs.length
    · have hxr := hx.below hb (Nat.le_refl _)
      have hcx := hxr.cell k hlt
      have hix := hxr.idx und_fs siz_fs
      have HS := Lib.hid (rowK_succ xs s k hlt)
      simp only [List.getElem?_eq_getElem hlt, Option.getD_some] at hcx
      go_wp2_with fail
      refine (sign_any (by omega) (by omega) s0 s1).mono ?_
      rintro e w1 ⟨rfl, rfl⟩
      go_wp2_with (refine wpl_fbin rfl _ _ _ _ _ rfl rfl .f32 _ _ rfl rfl ?_; rintro q w' ⟨n, rfl⟩ hq)
      rename_i q1 n1 hq1
      go_roundw
      case rel => exact ⟨k + 1, q, by omega, by go_num, rfl, by show _ = _; rw [HS.out, hq, hq1, HR.out], hb.trans (below_of_drewN _ _ _)⟩
      case measure => simp [intOf]; omega
    · obtain rfl : k = xs.length := by omega
      go_wp2
      go_ret
      exact ⟨r, rfl, HR.out, hb⟩

theorem isVec_len {xs : List Nat} (h : isVec xs = true) : xs.length ≤ 32 := by simp [isVec] at h; exact h.1.2

end Go.Proofs.Ytfclkbppmkjkeaa

namespace Go.Proofs.Ytfclkbppmkjkeaa
open Go.RowKit

def keysB (xs : List Int) : Bool := xs.all isKey
def saltsB (xs : List Int) : Bool := decide (1 ≤ xs.length) && decide (xs.length ≤ 32) && keysB xs
theorem saltsB_len {xs : List Int} (h : saltsB xs = true) : xs.length ≤ 32 := by simp [saltsB] at h; exact h.1.2
theorem keysB_get {xs : List Int} (h : keysB xs = true) (k : Nat) (hk : k < xs.length) : 0 ≤ xs[k] ∧ xs[k] < 4294967296 :=
  isKey_bd ((List.all_eq_true.1 h) _ (List.getElem_mem hk))
theorem saltsB_keys {xs : List Int} (h : saltsB xs = true) : keysB xs = true := by simp [saltsB] at h; exact h.2

theorem areAllKeys1_any {x : Int} {w : World} : Calls Try.prog 177 #[.int .i64 x] w fun e w' => e = .returned (.bool (!isKey x)) ∧ Below w.heap.size w w' := by
  go_enter Try.func177, Try.ntmps177
  go_wp2_with fail
  refine implIsKey_any.mono ?_
  rintro e w1 ⟨rfl, rfl⟩
  go_wp2
  go_ret
  exact ⟨rfl, Below.refl _ _⟩

theorem call_areAllKeys1 (vs : Array Value) (w : World) : (callFunc 177 vs).run Try.prog w = .ok (.enter 177 vs) w := by kernel_rfl

theorem areAllKeys_any {a : Option Addr} {c : Nat} {xs : List Int} {w : World} (hr : Rd (Value.int .i64) w a c xs) :
    Calls Try.prog 138 #[.slice a xs.length c] w fun e w' => e = .returned (.bool (keysB xs)) ∧ Below w.heap.size w w' := by
  have HC := Lib.hid (containsFunci_any a c xs w 177 #[] (fun x => !isKey x) call_areAllKeys1 hr (fun k h wr hb => by simpa using areAllKeys1_any))
  go_enter Try.func138, Try.ntmps138
  go_wp2_with fail
  refine HC.out.mono ?_
  rintro e w1 ⟨rfl, hb1⟩
  go_wp2
  go_ret
  refine ⟨ret_bool ?_, hb1⟩
  rw [Bool.eq_iff_iff]; simp [keysB, List.all_eq_true, List.any_eq_true]

theorem areSalts_any {a : Option Addr} {c : Nat} {xs : List Int} {w : World} (hr : Rd (Value.int .i64) w a c xs) :
    Calls Try.prog 91 #[.slice a xs.length c] w fun e w' => e = .returned (.bool (saltsB xs)) ∧ Below w.heap.size w w' := by
  have hln := hr.len
  by_cases h1 : 1 ≤ xs.length
  · by_cases h2 : xs.length ≤ 32
    · go_enter Try.func91, Try.ntmps91
      go_wp2_with fail
      refine (areAllKeys_any hr).mono ?_
      rintro e w1 ⟨rfl, hb1⟩
      go_wp2
      go_ret
      exact ⟨ret_bool (by simp [saltsB, h1, h2]), hb1⟩
    · have h3 : decide ((xs.length : Int) ≤ 32) = false := by simp; omega
      go_enter Try.func91, Try.ntmps91
      go_wp2
      go_ret
      exact ⟨ret_bool (by simp [saltsB, h2]), Below.refl _ _⟩
  · have h3 : decide ((1 : Int) ≤ (xs.length : Int)) = false := by simp; omega
    go_enter Try.func91, Try.ntmps91
    go_wp2
    go_ret
    exact ⟨ret_bool (by simp [saltsB, h1]), Below.refl _ _⟩

end Go.Proofs.Ytfclkbppmkjkeaa

namespace Go.Proofs.Ytfclkbppmkjkeaa
open Go.RowKit

theorem quiet_same {P : Program} {f : FuncId} {args : Array Value} {w : World} {n : Nat} {v : Value} (h : Calls P f args (w.drewN n) fun e w' => e = .returned v ∧ w.drewN n = w') : Calls P f args (w.drewN n) fun e w'' => e = .returned v ∧ ∃ m, w'' = w.drewN m :=
  h.mono fun _ _ ⟨he, hw⟩ => ⟨he, n, hw.symm⟩

def cellR (x : Int) : Bool := inR x (-1000000000000) 1000000000000
def cellsB (W D S : Int) (cs : List Int) : Bool := inR W 2 64 && inR D 1 6 && isKey S && decide ((cs.length : Int) = W * D) && cs.all cellR
theorem prod_bd {W D : Int} (h1 : inR W 2 64 = true) (h2 : inR D 1 6 = true) : 0 ≤ W * D ∧ W * D ≤ 384 := by
  rw [inR_eq] at h1 h2
  constructor
  · exact Int.mul_nonneg (by omega) (by omega)
  · have := Int.mul_le_mul h1.2 h2.2 (by omega) (by omega)
    omega

theorem validCells_all {a : Option Addr} {c : Nat} {cs : List Int} {w : World} (hr : Rd (Value.int .i64) w a c cs) :
    Calls Try.prog 125 #[.slice a cs.length c, .int .i64 (-1000000000000), .int .i64 1000000000000] w fun e w' => e = .returned (.bool (cs.all cellR)) ∧ Below w.heap.size w w' := areWithin_any a c cs _ _ w hr

end Go.Proofs.Ytfclkbppmkjkeaa
