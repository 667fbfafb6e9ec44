/- mark.., held.. on lists of texts. -/
import Derived.Test.YtdpolaedfjljmaaQSVF24
import Derived.Test.YtdpolaedfjljmaaQSVF19
import Derived.Test.YtdpolaedfjljmaaQSVF4
import Derived.Deep.DrawnRows
namespace Go.Proofs.Ytdpolaedfjljmaa
open Go.RowKit
attribute [local go_sem ↓] Go.wp_at_zero Go.wp_at_succ

/-- What is marked. -/
def mkT (k : Nat) : ByteArray := ⟨#[109]⟩ ++ decT (k : Int)
theorem toL_strOf1 {x : Nat} (h : x < 10) : toL (strOf [48 + (x : Int)]) = [UInt8.ofNat (48 + x)] := by
  have e : strOf [48 + (x : Int)] = ByteArray.empty.push (UInt8.ofNat (48 + (x : Int)).toNat) := rfl
  rw [e]
  have e2 : (48 + (x : Int)).toNat = 48 + x := by omega
  rw [e2]; rfl
/-- What is told, and what is left. -/
def MkInv (n r : Nat) (D : ByteArray) : Prop := Lib.decDigits n = (if r = 0 then [] else Lib.decDigits r) ++ toL D
theorem mkInv_step {n r : Nat} {D : ByteArray} (h : MkInv n r D) (hr : r ≠ 0) : MkInv n (r / 10) (strOf [48 + ((r % 10 : Nat) : Int)] ++ D) := by
  unfold MkInv at *
  rw [if_neg hr] at h
  rw [h, toL_append, toL_strOf1 (Nat.mod_lt _ (by decide))]
  by_cases hs : r < 10
  · rw [if_pos (by omega), Lib.decDigits_one hs, Nat.mod_eq_of_lt hs]; rfl
  · rw [if_neg (by omega)]
    conv => lhs; rw [Lib.decDigits, dif_neg hs]
    simp
set_option maxRecDepth 20000 in
set_option maxHeartbeats 2000000 in
theorem markText_any {n : Nat} {w : World} (h0 : 1 ≤ n) (h1 : n ≤ 4611686018427387904) :
    Calls Try.prog 58 #[.int .i64 (n : Int)] w fun e w' => e = .returned (.string (mkT n)) ∧ Below w.heap.size w w' := by
  have hd0 : decide ((n : Int) ≤ 0) = false := decide_eq_false (by omega)
  have HSTEP : Hid (∀ r D, MkInv n r D → r ≠ 0 → MkInv n (r / 10) (strOf [48 + ((r % 10 : Nat) : Int)] ++ D)) := Lib.hid (fun r D h hr => mkInv_step h hr)
  have HINI : Hid (MkInv n n ⟨#[]⟩) := Lib.hid (by unfold MkInv; rw [if_neg (by omega)]; simp [toL])
  have HFIN : Hid (∀ D, MkInv n 0 D → ⟨#[109]⟩ ++ D = mkT n) := Lib.hid (fun D h => by
    unfold MkInv at h
    rw [if_pos rfl, List.nil_append] at h
    unfold mkT
    congr 1
    apply toL_inj
    rw [toL_decT, itoa_pos' (by omega), ← h]
    rfl)
  have HSZ : Hid (∀ r D, MkInv n r D → D.size ≤ 20) := Lib.hid (fun r D h => by
    unfold MkInv at h
    have h2 := congrArg List.length h
    rw [List.length_append, toL_len] at h2
    have h3 := decT_size (n := (n : Int)) (by omega) (by omega)
    rw [size_decT, itoa_pos' (by omega)] at h3
    have e : ((n : Int)).natAbs = n := by omega
    rw [e] at h3
    omega)
  obtain ⟨res, hres⟩ : ∃ r, mkT n = r := ⟨_, rfl⟩
  rw [hres] at HFIN ⊢
  clear hres
  generalize MkInv n = IV at HSTEP HINI HFIN HSZ
  go_enter Try.func58, Try.ntmps58
  go_wp2
  go_loopw [0, 3] (fun ki oi wr => ∃ (r : Nat) (D : ByteArray), ki = .int .i64 (r : Int) ∧ r ≤ n ∧ oi = .string D ∧ Hid (IV r D) ∧ Hid (Below w.heap.size w wr)) (fun ki _ _ => (intOf ki).toNat)
  case atStart => exact ⟨n, ⟨#[]⟩, rfl, Nat.le_refl _, rfl, HINI, Lib.hid (Below.refl _ _)⟩
  case round =>
    obtain ⟨r, D, rfl, hr, rfl, HI, HB⟩ := hrel
    have hds := HSZ.out r D HI.out
    by_cases hz : r = 0
    · subst hz
      have hd : decide ((0 : Int) < ((0 : Nat) : Int)) = false := decide_eq_false (by omega)
      have HR := Lib.hid (HFIN.out D HI.out)
      have hadd : ∀ w', (Op.stringOp .add ⟨#[109]⟩ D).run Try.prog w' = .ok (.string (⟨#[109]⟩ ++ D)) w' := fun w' => run_string_add_sum _ _ _ (by have e : (⟨#[109]⟩ : ByteArray).size = 1 := rfl; omega)
      go_wp2
      go_ret
      exact ⟨by rw [← HR.out]; rfl, HB.out⟩
    · have hd : decide ((0 : Int) < (r : Int)) = true := decide_eq_true (by omega)
      have HI1 := Lib.hid (HSTEP.out r D HI.out hz)
      have hm : (r : Int).tmod 10 = ((r % 10 : Nat) : Int) := by rw [Int.tmod_eq_emod_of_nonneg (by omega)]; omega
      have hq : (r : Int).tdiv 10 = ((r / 10 : Nat) : Int) := by rw [Int.tdiv_eq_ediv_of_nonneg (by omega)]; omega
      have hbw : w.heap.size ≤ wr.heap.size := HB.out.size
      obtain ⟨x, hx⟩ : ∃ x, r % 10 = x := ⟨_, rfl⟩
      obtain ⟨q, hqq⟩ : ∃ x, r / 10 = x := ⟨_, rfl⟩
      have hx10 : x < 10 := by omega
      have hqr : q < r := by omega
      rw [hx] at hm HI1
      rw [hqq] at hq HI1
      have e1 : IntKind.i64.wrap (x : Int) = (x : Int) := IntWalk.i64_in _ (by omega)
      have e2 : IntKind.i64.wrap (48 + (x : Int)) = 48 + (x : Int) := IntWalk.i64_in _ (by omega)
      have e3 : IntKind.u8.wrap (48 + (x : Int)) = 48 + (x : Int) := by rw [IntKind.wrap_u8']; omega
      have e4 : IntKind.i64.wrap (q : Int) = (q : Int) := IntWalk.i64_in _ (by omega)
      have hcv : (convert 43 9 (.slice (some ⟨wr.heap.size, 0, none⟩) 1 1)).run Try.prog (wr.alloc (.cells #[.int .u8 (48 + (x : Int))] 5)) = .ok (.string (strOf [48 + (x : Int)])) (wr.alloc (.cells #[.int .u8 (48 + (x : Int))] 5)) := conv_own (own_lit (f := Value.int .u8) wr w.heap.size [48 + (x : Int)] hbw (by simp [maxLen])) (by simp)
      have hss : (strOf [48 + (x : Int)]).size = 1 := by rw [strOf_size]; rfl
      obtain ⟨sx, hsx⟩ : ∃ s, strOf [48 + (x : Int)] = s := ⟨_, rfl⟩
      rw [hsx] at hcv hss HI1
      have hadd : ∀ w', (Op.stringOp .add sx D).run Try.prog w' = .ok (.string (sx ++ D)) w' := fun w' => run_string_add_sum _ _ _ (by omega)
      have HB1 := Lib.hid (HB.out.alloc hbw (.cells (([48 + (x : Int)] : List Int).map (Value.int .u8)).toArray 5))
      clear hx hqq hsx hss
      go_wp2
      go_roundw
      case rel => exact ⟨q, sx ++ D, rfl, by omega, rfl, HI1, HB1⟩
      case measure => simp [intOf]; omega

theorem below_grown {w w' : World} (hb : Below w.heap.size w w') (row : Option Nat) : w.grownBy w' row := ⟨hb.os, hb.tape, hb.output, hb.size, fun k hk _ => hb.block k hk⟩
end Go.Proofs.Ytdpolaedfjljmaa
