/- SignRow: the sum of the numbers with signs, in both texts. Lists of keys, in both texts. Valid cells in both texts. -/
import Derived.Test.YtdpolaedfjljmaaQSVF5
import Derived.Test.YtdpolaedfjljmaaQSVF3
import Derived.Test.YtdpolaedfjljmaaQSVF4
import Derived.Test.YtdpolaedfjljmaaQSVF2
namespace Go.Proofs.Ytdpolaedfjljmaa
open Go.RowKit

def rowK (xs : List Nat) (s : Int) (k : Nat) : Option Nat :=
  (List.range k).foldl (fun acc (i : Nat) => fbin .add .f32 acc (fbin .mul .f32 (cn .f32 (xs[i]?.getD 0)) (cn .f32 (floatOfInt .f32 (sgn (i : Int) s))))) (some 0)
def rowC (xs : List Nat) (s : Int) : Option Nat := rowK xs s xs.length
theorem rowK_succ (xs : List Nat) (s : Int) (k : Nat) (h : k < xs.length) : rowK xs s (k + 1) = fbin .add .f32 (rowK xs s k) (fbin .mul .f32 (cn .f32 xs[k]) (cn .f32 (floatOfInt .f32 (sgn (k : Int) s)))) := by
  unfold rowK
  rw [List.range_succ, List.foldl_append]
  simp [h]

def isKey (k : Int) : Bool := inR k 0 4294967295
theorem isKey_bd {k : Int} (h : isKey k = true) : 0 ≤ k ∧ k < 4294967296 := by
  have := (inR_eq _ _ _).1 h; omega

theorem implIsKey_any {k : Int} {w : World} : Calls Try.prog 123 #[.int .i64 k] w fun e w' => e = .returned (.bool (isKey k)) ∧ w = w' := by
  go_enter Try.func123, Try.ntmps123
  go_wp2_with fail
  refine (within_any _ _ _ _).mono ?_
  rintro e w1 ⟨rfl, rfl⟩
  go_wp2
  go_ret
  exact ⟨rfl, rfl⟩
theorem l02Key_any {k : Int} {w : World} : Calls Try.prog 116 #[.int .i64 k] w fun e w' => e = .returned (.bool (isKey k)) ∧ w = w' := by
  go_enter Try.func116, Try.ntmps116
  go_wp2_with fail
  refine (l00In_any _ _ _ _).mono ?_
  rintro e w1 ⟨rfl, rfl⟩
  go_wp2
  go_ret
  exact ⟨rfl, rfl⟩

theorem isVec_len {xs : List Nat} (h : isVec xs = true) : xs.length ≤ 32 := by simp [isVec] at h; exact h.1.2

end Go.Proofs.Ytdpolaedfjljmaa

namespace Go.Proofs.Ytdpolaedfjljmaa
open Go.RowKit

def keysB (xs : List Int) : Bool := xs.all isKey
def saltsB (xs : List Int) : Bool := decide (1 ≤ xs.length) && decide (xs.length ≤ 32) && keysB xs
theorem saltsB_len {xs : List Int} (h : saltsB xs = true) : xs.length ≤ 32 := by simp [saltsB] at h; exact h.1.2
theorem keysB_get {xs : List Int} (h : keysB xs = true) (k : Nat) (hk : k < xs.length) : 0 ≤ xs[k] ∧ xs[k] < 4294967296 :=
  isKey_bd ((List.all_eq_true.1 h) _ (List.getElem_mem hk))
theorem saltsB_keys {xs : List Int} (h : saltsB xs = true) : keysB xs = true := by simp [saltsB] at h; exact h.2

theorem areAllKeys1_any {x : Int} {w : World} : Calls Try.prog 126 #[.int .i64 x] w fun e w' => e = .returned (.bool (!isKey x)) ∧ Below w.heap.size w w' := by
  go_enter Try.func126, Try.ntmps126
  go_wp2_with fail
  refine implIsKey_any.mono ?_
  rintro e w1 ⟨rfl, rfl⟩
  go_wp2
  go_ret
  exact ⟨rfl, Below.refl _ _⟩

theorem call_areAllKeys1 (vs : Array Value) (w : World) : (callFunc 126 vs).run Try.prog w = .ok (.enter 126 vs) w := by kernel_rfl

theorem areAllKeys_any {a : Option Addr} {c : Nat} {xs : List Int} {w : World} (hr : Rd (Value.int .i64) w a c xs) :
    Calls Try.prog 72 #[.slice a xs.length c] w fun e w' => e = .returned (.bool (keysB xs)) ∧ Below w.heap.size w w' := by
  have HC := Lib.hid (containsFunci_any a c xs w 126 #[] (fun x => !isKey x) call_areAllKeys1 hr (fun k h wr hb => by simpa using areAllKeys1_any))
  go_enter Try.func72, Try.ntmps72
  go_wp2_with fail
  refine HC.out.mono ?_
  rintro e w1 ⟨rfl, hb1⟩
  go_wp2
  go_ret
  refine ⟨ret_bool ?_, hb1⟩
  rw [Bool.eq_iff_iff]; simp [keysB, List.all_eq_true, List.any_eq_true]

end Go.Proofs.Ytdpolaedfjljmaa

namespace Go.Proofs.Ytdpolaedfjljmaa
open Go.RowKit

theorem quiet_same {P : Program} {f : FuncId} {args : Array Value} {w : World} {n : Nat} {v : Value} (h : Calls P f args (w.drewN n) fun e w' => e = .returned v ∧ w.drewN n = w') : Calls P f args (w.drewN n) fun e w'' => e = .returned v ∧ ∃ m, w'' = w.drewN m :=
  h.mono fun _ _ ⟨he, hw⟩ => ⟨he, n, hw.symm⟩

def cellR (x : Int) : Bool := inR x (-1000000000000) 1000000000000
def cellsB (W D S : Int) (cs : List Int) : Bool := inR W 2 64 && inR D 1 6 && isKey S && decide ((cs.length : Int) = W * D) && cs.all cellR
theorem prod_bd {W D : Int} (h1 : inR W 2 64 = true) (h2 : inR D 1 6 = true) : 0 ≤ W * D ∧ W * D ≤ 384 := by
  rw [inR_eq] at h1 h2
  constructor
  · exact Int.mul_nonneg (by omega) (by omega)
  · have := Int.mul_le_mul h1.2 h2.2 (by omega) (by omega)
    omega

theorem validCells_all {a : Option Addr} {c : Nat} {cs : List Int} {w : World} (hr : Rd (Value.int .i64) w a c cs) :
    Calls Try.prog 124 #[.slice a cs.length c, .int .i64 (-1000000000000), .int .i64 1000000000000] w fun e w' => e = .returned (.bool (cs.all cellR)) ∧ Below w.heap.size w w' := areWithin_any a c cs _ _ w hr

set_option maxHeartbeats 2000000 in
theorem validCells_any {a : Option Addr} {c : Nat} {cs : List Int} {W D S : Int} {w : World} (hr : Rd (Value.int .i64) w a c cs) :
    Calls Try.prog 71 #[.agg #[.int .i64 W, .int .i64 D, .int .i64 S, .slice a cs.length c]] w fun e w' => e = .returned (.bool (cellsB W D S cs)) ∧ Below w.heap.size w w' := by
  have hln := hr.len
  have hb0 : Below w.heap.size w (w.alloc (.cells #[.int .i64 W, .int .i64 D, .int .i64 S, .slice a cs.length c] 24)) := (Below.refl _ _).alloc (Nat.le_refl _) _
  have HB0 := Lib.hid hb0
  clear hb0
  cases hc0 : inR W 2 64 with
  | false =>
    have hno : cellsB W D S cs = false := by unfold cellsB; simp [hc0]
    have HNO := Lib.hid hno
    rw [hno]
    clear hno
    go_enter Try.func71, Try.ntmps71
    go_wp2_with fail
    refine (within_any _ _ _ _).mono ?_
    rintro e wg1 ⟨rfl, rfl⟩
    rw [hc0]
    go_wp2
    go_ret
    exact ⟨rfl, HB0.out⟩
  | true =>
  cases hc1 : inR D 1 6 with
  | false =>
    have hno : cellsB W D S cs = false := by unfold cellsB; simp [hc0, hc1]
    have HNO := Lib.hid hno
    rw [hno]
    clear hno
    go_enter Try.func71, Try.ntmps71
    go_wp2_with fail
    refine (within_any _ _ _ _).mono ?_
    rintro e wg1 ⟨rfl, rfl⟩
    rw [hc0]
    go_wp2_with fail
    refine (within_any _ _ _ _).mono ?_
    rintro e wg2 ⟨rfl, rfl⟩
    rw [hc1]
    go_wp2
    go_ret
    exact ⟨rfl, HB0.out⟩
  | true =>
  cases hc2 : isKey S with
  | false =>
    have hno : cellsB W D S cs = false := by unfold cellsB; simp [hc0, hc1, hc2]
    have HNO := Lib.hid hno
    rw [hno]
    clear hno
    go_enter Try.func71, Try.ntmps71
    go_wp2_with fail
    refine (within_any _ _ _ _).mono ?_
    rintro e wg1 ⟨rfl, rfl⟩
    rw [hc0]
    go_wp2_with fail
    refine (within_any _ _ _ _).mono ?_
    rintro e wg2 ⟨rfl, rfl⟩
    rw [hc1]
    go_wp2_with fail
    refine (implIsKey_any).mono ?_
    rintro e wg3 ⟨rfl, rfl⟩
    rw [hc2]
    go_wp2
    go_ret
    exact ⟨rfl, HB0.out⟩
  | true =>
  have hpb := prod_bd hc0 hc1
  have ewp : IntKind.i64.wrap (W * D) = W * D := IntWalk.i64_in _ (by omega)
  cases hc3 : decide ((cs.length : Int) = W * D) with
  | false =>
    have hno : cellsB W D S cs = false := by unfold cellsB; rw [hc3]; simp
    rw [hno]
    clear hno
    have hq : ((cs.length : Int) == W * D) = false := by have := of_decide_eq_false hc3; simpa using this
    go_enter Try.func71, Try.ntmps71
    go_wp2_with fail
    refine (within_any _ _ _ _).mono ?_
    rintro e wg1 ⟨rfl, rfl⟩
    rw [hc0]
    go_wp2_with fail
    refine (within_any _ _ _ _).mono ?_
    rintro e wg2 ⟨rfl, rfl⟩
    rw [hc1]
    go_wp2_with fail
    refine (implIsKey_any).mono ?_
    rintro e wg3 ⟨rfl, rfl⟩
    rw [hc2]
    go_wp2
    go_ret
    exact ⟨rfl, HB0.out⟩
  | true =>
  have hq : ((cs.length : Int) == W * D) = true := by have := of_decide_eq_true hc3; simpa using this
  cases hc4 : cs.all cellR with
  | false =>
    have hno : cellsB W D S cs = false := by unfold cellsB; rw [hc4]; simp
    rw [hno]
    clear hno
    go_enter Try.func71, Try.ntmps71
    go_wp2_with fail
    refine (within_any _ _ _ _).mono ?_
    rintro e wg1 ⟨rfl, rfl⟩
    rw [hc0]
    go_wp2_with fail
    refine (within_any _ _ _ _).mono ?_
    rintro e wg2 ⟨rfl, rfl⟩
    rw [hc1]
    go_wp2_with fail
    refine (implIsKey_any).mono ?_
    rintro e wg3 ⟨rfl, rfl⟩
    rw [hc2]
    go_wp2_with fail
    refine (validCells_all (hr.below HB0.out (Nat.le_refl _))).mono ?_
    rintro e wg4 ⟨rfl, hbg4⟩
    have BG4 := Lib.hid (HB0.out.trans (hbg4.mono HB0.out.size))
    clear hbg4
    rw [hc4]
    go_wp2
    go_ret
    exact ⟨rfl, BG4.out⟩
  | true =>
  have hyes : cellsB W D S cs = true := by unfold cellsB; rw [hc0, hc1, hc2, hc3, hc4]; rfl
  rw [hyes]
  clear hyes
  go_enter Try.func71, Try.ntmps71
  go_wp2_with fail
  refine (within_any _ _ _ _).mono ?_
  rintro e wg1 ⟨rfl, rfl⟩
  rw [hc0]
  go_wp2_with fail
  refine (within_any _ _ _ _).mono ?_
  rintro e wg2 ⟨rfl, rfl⟩
  rw [hc1]
  go_wp2_with fail
  refine (implIsKey_any).mono ?_
  rintro e wg3 ⟨rfl, rfl⟩
  rw [hc2]
  go_wp2_with fail
  refine (validCells_all (hr.below HB0.out (Nat.le_refl _))).mono ?_
  rintro e wg4 ⟨rfl, hbg4⟩
  have BG4 := Lib.hid (HB0.out.trans (hbg4.mono HB0.out.size))
  clear hbg4
  rw [hc4]
  go_wp2
  go_ret
  exact ⟨rfl, BG4.out⟩

set_option maxRecDepth 8000 in
set_option maxHeartbeats 4000000 in
theorem l03Is_any {b o : Nat} {a : Option Addr} {c : Nat} {cs : List Int} {W D S : Int} {w : World} (hr : Rd (Value.int .i64) w a c cs)
    (c0 : w.cell? ⟨b, o, none⟩ = some (.int .i64 W)) (c1 : w.cell? ⟨b, o + 1, none⟩ = some (.int .i64 D)) (c2 : w.cell? ⟨b, o + 2, none⟩ = some (.int .i64 S)) (c3 : w.cell? ⟨b, o + 3, none⟩ = some (.slice a cs.length c)) :
    Calls Try.prog 114 #[.pointer (some ⟨b, o, none⟩)] w fun e w' => e = .returned (.bool (cellsB W D S cs)) ∧ ∃ n, w' = w.drewN n := by
  have hln := hr.len
  cases hc0 : inR W 2 64 with
  | false =>
    have hno : cellsB W D S cs = false := by unfold cellsB; rw [hc0]; simp
    rw [hno]
    clear hno
    go_enter Try.func114, Try.ntmps114
    go_wp2_with fail
    go_quiet (first | (go_at_call 90; exact quiet_same (l00In_any _ _ _ _)) | (go_at_call 116; exact quiet_same l02Key_any))
    go_wp2
    go_ret
    exact ⟨rfl, _, rfl⟩
  | true =>
  cases hc1 : inR D 1 6 with
  | false =>
    have hno : cellsB W D S cs = false := by unfold cellsB; rw [hc1]; simp
    rw [hno]
    clear hno
    go_enter Try.func114, Try.ntmps114
    go_wp2_with fail
    go_quiet (first | (go_at_call 90; exact quiet_same (l00In_any _ _ _ _)) | (go_at_call 116; exact quiet_same l02Key_any))
    go_wp2
    go_ret
    exact ⟨rfl, _, rfl⟩
  | true =>
  cases hc2 : isKey S with
  | false =>
    have hno : cellsB W D S cs = false := by unfold cellsB; rw [hc2]; simp
    rw [hno]
    clear hno
    go_enter Try.func114, Try.ntmps114
    go_wp2_with fail
    go_quiet (first | (go_at_call 90; exact quiet_same (l00In_any _ _ _ _)) | (go_at_call 116; exact quiet_same l02Key_any))
    go_wp2
    go_ret
    exact ⟨rfl, _, rfl⟩
  | true =>
  have hpb := prod_bd hc0 hc1
  have ewp : IntKind.i64.wrap (W * D) = W * D := IntWalk.i64_in _ (by omega)
  cases hc3 : decide ((cs.length : Int) = W * D) with
  | false =>
    have hno : cellsB W D S cs = false := by unfold cellsB; rw [hc3]; simp
    rw [hno]
    clear hno
    have hq : ((cs.length : Int) != W * D) = true := by have := of_decide_eq_false hc3; simpa using this
    go_enter Try.func114, Try.ntmps114
    go_wp2_with fail
    go_quiet (first | (go_at_call 90; exact quiet_same (l00In_any _ _ _ _)) | (go_at_call 116; exact quiet_same l02Key_any))
    go_wp2
    go_ret
    exact ⟨rfl, _, rfl⟩
  | true =>
  have hq : ((cs.length : Int) != W * D) = false := by have := of_decide_eq_true hc3; simpa using this
  have hyes : cellsB W D S cs = cs.all cellR := by unfold cellsB; rw [hc0, hc1, hc2, hc3]; rfl
  rw [hyes]
  obtain ⟨r, hr0⟩ : ∃ r, cs.all cellR = r := ⟨_, rfl⟩
  rw [hr0]
  have HR0 := Lib.hid hr0
  clear hyes hr0
  go_enter Try.func114, Try.ntmps114
  go_wp2_with fail
  go_quiet (first | (go_at_call 90; exact quiet_same (l00In_any _ _ _ _)) | (go_at_call 116; exact quiet_same l02Key_any))
  simp only [hc0, hc1, hc2]
  have HQ : Hid (∃ n, w.drewN nq = w.drewN n) := Lib.hid ⟨nq, rfl⟩
  have HR := Lib.hid (hr.below (below_of_drewN w nq _) (Nat.le_refl _))
  have hk0 : (w.drewN nq).cell? ⟨b, o, none⟩ = some (.int .i64 W) := c0
  have hk1 : (w.drewN nq).cell? ⟨b, o + 1, none⟩ = some (.int .i64 D) := c1
  have hk2 : (w.drewN nq).cell? ⟨b, o + 2, none⟩ = some (.int .i64 S) := c2
  have hk3 : (w.drewN nq).cell? ⟨b, o + 3, none⟩ = some (.slice a cs.length c) := c3
  clear c0 c1 c2 c3 hr hc0 hc1 hc2 hc3
  generalize w.drewN nq = wz at HQ HR hk0 hk1 hk2 hk3 ⊢
  go_wp2_with fail
  go_loopw [3, 48] (fun _ vi wr => ∃ k : Nat, vi = .int .i64 k ∧ k ≤ cs.length ∧ Hid (∀ x ∈ cs.take k, (!cellR x) = false) ∧ Hid (wr = wz)) (fun _ vi _ => cs.length - (intOf vi).toNat)
  case atStart => exact ⟨0, rfl, Nat.zero_le _, Lib.hid (by simp), Lib.hid rfl⟩
  case round =>
    obtain ⟨k, rfl, hk, HP, HW⟩ := hrel
    obtain rfl := HW.out
    clear HW
    by_cases hlt : k < cs.length
    · have hltz : (k : Int) < (cs.length : Int) := by omega
      have hix := HR.out.idx und_is siz_is
      have hcx := HR.out.cell k hlt
      simp only [List.getElem?_eq_getElem hlt, Option.getD_some] at hcx
      obtain ⟨x, hx⟩ : ∃ x, cs[k] = x := ⟨_, rfl⟩
      rw [hx] at hcx
      have HX := Lib.hid hx
      have ewk : IntKind.i64.wrap ((k : Int) + 1) = (k : Int) + 1 := IntWalk.i64_in _ (by omega)
      clear hx
      go_wp2_with fail
      refine (l00In_any _ _ _ _).mono ?_
      rintro e w1 ⟨rfl, rfl⟩
      cases hxx : inR x (-1000000000000) 1000000000000 with
      | false =>
        have HE : Hid (r = false) := Lib.hid (by rw [← HR0.out, List.all_eq_false]; exact ⟨_, List.getElem_mem hlt, by rw [HX.out]; unfold cellR; rw [hxx]; simp⟩)
        go_wp2
        go_ret
        exact ⟨ret_bool HE.out.symm, HQ.out⟩
      | true =>
        have hs := snoc_none (p := fun x => !cellR x) hlt HP.out (by show (!cellR cs[k]) = false; rw [HX.out]; unfold cellR; rw [hxx]; rfl)
        have HS := Lib.hid hs
        clear hs
        go_wp2
        go_roundw
        case rel => exact ⟨k + 1, by go_num, by omega, HS, Lib.hid trivial⟩
        case measure => simp [intOf]; omega
    · obtain rfl : k = cs.length := by omega
      have hltz : ¬ (cs.length : Int) < (cs.length : Int) := by omega
      have HE : Hid (r = true) := Lib.hid (by
        rw [← HR0.out, List.all_eq_true]
        intro x hx
        have := HP.out x (by rw [List.take_length]; exact hx)
        simpa using this)
      go_wp2
      go_ret
      exact ⟨ret_bool HE.out.symm, HQ.out⟩

end Go.Proofs.Ytdpolaedfjljmaa
