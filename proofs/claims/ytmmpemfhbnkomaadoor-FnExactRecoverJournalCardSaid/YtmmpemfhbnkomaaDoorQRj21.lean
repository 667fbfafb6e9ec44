/- mark.., held.. on lists of texts. -/
import Derived.Test.YtmmpemfhbnkomaaDoorQRj19
import Derived.Test.YtmmpemfhbnkomaaDoorQRj15
import Derived.Test.YtmmpemfhbnkomaaDoorQRj2
import Derived.Deep.DrawnRows
set_option linter.unusedVariables false
set_option linter.unusedSimpArgs false
namespace Go.Proofs.YtmmpemfhbnkomaaDoor
open Go.RowKit
attribute [local go_sem ↓] Go.wp_at_zero Go.wp_at_succ

/-- What is marked. -/
def mkT (k : Nat) : ByteArray := ⟨#[109]⟩ ++ decT (k : Int)
theorem toL_strOf1 {x : Nat} (h : x < 10) : toL (strOf [48 + (x : Int)]) = [UInt8.ofNat (48 + x)] := by
  have e : strOf [48 + (x : Int)] = ByteArray.empty.push (UInt8.ofNat (48 + (x : Int)).toNat) := rfl
  rw [e]
  have e2 : (48 + (x : Int)).toNat = 48 + x := by omega
  rw [e2]; rfl
/-- What is told, and what is left. -/
def MkInv (n r : Nat) (D : ByteArray) : Prop := Lib.decDigits n = (if r = 0 then [] else Lib.decDigits r) ++ toL D
theorem mkInv_step {n r : Nat} {D : ByteArray} (h : MkInv n r D) (hr : r ≠ 0) : MkInv n (r / 10) (strOf [48 + ((r % 10 : Nat) : Int)] ++ D) := by
  unfold MkInv at *
  rw [if_neg hr] at h
  rw [h, toL_append, toL_strOf1 (Nat.mod_lt _ (by decide))]
  by_cases hs : r < 10
  · rw [if_pos (by omega), Lib.decDigits_one hs, Nat.mod_eq_of_lt hs]; rfl
  · rw [if_neg (by omega)]
    conv => lhs; rw [Lib.decDigits, dif_neg hs]
    simp
set_option maxRecDepth 20000 in
set_option maxHeartbeats 2000000 in
theorem markText_any {n : Nat} {w : World} (h0 : 1 ≤ n) (h1 : n ≤ 4611686018427387904) :
    Calls Tryd.prog 29 #[.int .i64 (n : Int)] w fun e w' => e = .returned (.string (mkT n)) ∧ Below w.heap.size w w' := by
  have hd0 : decide ((n : Int) ≤ 0) = false := decide_eq_false (by omega)
  have HSTEP : Hid (∀ r D, MkInv n r D → r ≠ 0 → MkInv n (r / 10) (strOf [48 + ((r % 10 : Nat) : Int)] ++ D)) := Lib.hid (fun r D h hr => mkInv_step h hr)
  have HINI : Hid (MkInv n n ⟨#[]⟩) := Lib.hid (by unfold MkInv; rw [if_neg (by omega)]; simp [toL])
  have HFIN : Hid (∀ D, MkInv n 0 D → ⟨#[109]⟩ ++ D = mkT n) := Lib.hid (fun D h => by
    unfold MkInv at h
    rw [if_pos rfl, List.nil_append] at h
    unfold mkT
    congr 1
    apply toL_inj
    rw [toL_decT, itoa_pos' (by omega), ← h]
    rfl)
  have HSZ : Hid (∀ r D, MkInv n r D → D.size ≤ 20) := Lib.hid (fun r D h => by
    unfold MkInv at h
    have h2 := congrArg List.length h
    rw [List.length_append, toL_len] at h2
    have h3 := decT_size (n := (n : Int)) (by omega) (by omega)
    rw [size_decT, itoa_pos' (by omega)] at h3
    have e : ((n : Int)).natAbs = n := by omega
    rw [e] at h3
    omega)
  obtain ⟨res, hres⟩ : ∃ r, mkT n = r := ⟨_, rfl⟩
  rw [hres] at HFIN ⊢
  clear hres
  generalize MkInv n = IV at HSTEP HINI HFIN HSZ
  go_enter Tryd.func29, Tryd.ntmps29
  go_wp2
  go_loopw [0, 3] (fun ki oi wr => ∃ (r : Nat) (D : ByteArray), ki = .int .i64 (r : Int) ∧ r ≤ n ∧ oi = .string D ∧ Hid (IV r D) ∧ Hid (Below w.heap.size w wr)) (fun ki _ _ => (intOf ki).toNat)
  case atStart => exact ⟨n, ⟨#[]⟩, rfl, Nat.le_refl _, rfl, HINI, Lib.hid (Below.refl _ _)⟩
  case round =>
    obtain ⟨r, D, rfl, hr, rfl, HI, HB⟩ := hrel
    have hds := HSZ.out r D HI.out
    by_cases hz : r = 0
    · subst hz
      have hd : decide ((0 : Int) < ((0 : Nat) : Int)) = false := decide_eq_false (by omega)
      have HR := Lib.hid (HFIN.out D HI.out)
      have hadd : ∀ w', (Op.stringOp .add ⟨#[109]⟩ D).run Tryd.prog w' = .ok (.string (⟨#[109]⟩ ++ D)) w' := fun w' => run_string_add_sum _ _ _ (by have e : (⟨#[109]⟩ : ByteArray).size = 1 := rfl; omega)
      go_wp2
      go_ret
      exact ⟨by rw [← HR.out]; rfl, HB.out⟩
    · have hd : decide ((0 : Int) < (r : Int)) = true := decide_eq_true (by omega)
      have HI1 := Lib.hid (HSTEP.out r D HI.out hz)
      have hm : (r : Int).tmod 10 = ((r % 10 : Nat) : Int) := by rw [Int.tmod_eq_emod_of_nonneg (by omega)]; omega
      have hq : (r : Int).tdiv 10 = ((r / 10 : Nat) : Int) := by rw [Int.tdiv_eq_ediv_of_nonneg (by omega)]; omega
      have hbw : w.heap.size ≤ wr.heap.size := HB.out.size
      obtain ⟨x, hx⟩ : ∃ x, r % 10 = x := ⟨_, rfl⟩
      obtain ⟨q, hqq⟩ : ∃ x, r / 10 = x := ⟨_, rfl⟩
      have hx10 : x < 10 := by omega
      have hqr : q < r := by omega
      rw [hx] at hm HI1
      rw [hqq] at hq HI1
      have e1 : IntKind.i64.wrap (x : Int) = (x : Int) := IntWalk.i64_in _ (by omega)
      have e2 : IntKind.i64.wrap (48 + (x : Int)) = 48 + (x : Int) := IntWalk.i64_in _ (by omega)
      have e3 : IntKind.u8.wrap (48 + (x : Int)) = 48 + (x : Int) := by rw [IntKind.wrap_u8']; omega
      have e4 : IntKind.i64.wrap (q : Int) = (q : Int) := IntWalk.i64_in _ (by omega)
      have hcv : (convert 74 9 (.slice (some ⟨wr.heap.size, 0, none⟩) 1 1)).run Tryd.prog (wr.alloc (.cells #[.int .u8 (48 + (x : Int))] 5)) = .ok (.string (strOf [48 + (x : Int)])) (wr.alloc (.cells #[.int .u8 (48 + (x : Int))] 5)) := conv_own (own_lit (f := Value.int .u8) wr w.heap.size [48 + (x : Int)] hbw (by simp [maxLen])) (by simp)
      have hss : (strOf [48 + (x : Int)]).size = 1 := by rw [strOf_size]; rfl
      obtain ⟨sx, hsx⟩ : ∃ s, strOf [48 + (x : Int)] = s := ⟨_, rfl⟩
      rw [hsx] at hcv hss HI1
      have hadd : ∀ w', (Op.stringOp .add sx D).run Tryd.prog w' = .ok (.string (sx ++ D)) w' := fun w' => run_string_add_sum _ _ _ (by omega)
      have HB1 := Lib.hid (HB.out.alloc hbw (.cells (([48 + (x : Int)] : List Int).map (Value.int .u8)).toArray 5))
      clear hx hqq hsx hss
      go_wp2
      go_roundw
      case rel => exact ⟨q, sx ++ D, rfl, by omega, rfl, HI1, HB1⟩
      case measure => simp [intOf]; omega

theorem below_grown {w w' : World} (hb : Below w.heap.size w w') (row : Option Nat) : w.grownBy w' row := ⟨hb.os, hb.tape, hb.output, hb.size, fun k hk _ => hb.block k hk⟩
set_option maxRecDepth 20000 in
set_option maxHeartbeats 2000000 in
theorem markS_any {a : Option Addr} {c base k0 : Nat} {xs : List ByteArray} {w : World} (ho : Own Value.string 9 w base a c xs) (h1 : 1 ≤ k0) (hk : k0 + xs.length ≤ 4611686018427387904) :
    Calls Tryd.prog 10 #[.slice a xs.length c, .int .i64 (k0 : Int)] w (RetM Value.string 9 w base a c mkT k0 xs.length) := by
  have HO := Lib.hid ho
  clear ho
  go_enter Tryd.func10, Tryd.ntmps10
  go_wp2
  go_loopw [1, 5] (fun kk i wr => ∃ k : Nat, k ≤ xs.length ∧ i = .int .i64 (k : Int) ∧ kk = .int .i64 ((k0 + k : Nat) : Int) ∧ Hid (Own Value.string 9 wr base a c (marks mkT k0 k ++ xs.drop k) ∧ w.grownBy wr (a.map (·.block)))) (fun _ i _ => xs.length - (intOf i).toNat)
  case atStart => exact ⟨0, Nat.zero_le _, rfl, rfl, Lib.hid ⟨by simpa [marks] using HO.out, World.grownBy.refl _ _⟩⟩
  case round =>
    clear HO
    obtain ⟨k, hk2, rfl, rfl, HI⟩ := hrel
    have hln : (marks mkT k0 k ++ xs.drop k).length = xs.length := by simp [marks_length]; omega
    by_cases hlt : k < xs.length
    · have hltz : (k : Int) < (xs.length : Int) := by omega
      have ewk : IntKind.i64.wrap ((k : Int) + 1) = (k : Int) + 1 := IntWalk.i64_in _ (by omega)
      go_wp2_with fail
      refine (markText_any (n := k0 + k) (by omega) (by omega)).mono ?_
      rintro e w1 ⟨rfl, hb1⟩
      have HW : Hid (Own Value.string 9 w1 base a c (marks mkT k0 k ++ xs.drop k)) := Lib.hid (HI.out.1.below hb1 (Nat.le_refl _))
      have HC : Hid (w.grownBy w1 (a.map (·.block))) := Lib.hid (grown_trans HI.out.2 (below_grown hb1 _))
      clear hb1 HI
      have hio := HW.out.idx und_ss siz_ss
      rw [hln] at hio
      obtain ⟨v0, hcs⟩ : ∃ v, w1.cell? (elt a k) = some v := ⟨_, HW.out.cell k (by omega)⟩
      have hfz := HW.out.free k (by omega)
      have hst := HW.out.set k (by omega) (mkT (k0 + k))
      rw [marks_set mkT k0 k xs hlt] at hst
      have HS := Lib.hid hst
      clear hst HW
      generalize mkT (k0 + k) = tx at HS ⊢
      clear hln
      go_wp2
      go_roundw
      case rel => exact ⟨k + 1, by omega, by go_num, by go_num, Lib.hid ⟨HS.out.1, grown_trans HC.out HS.out.2⟩⟩
      case measure => simp [intOf]; omega
    · obtain rfl : k = xs.length := by omega
      have hltz : ¬ (xs.length : Int) < (xs.length : Int) := by omega
      clear hln
      go_wp2
      go_ret
      exact ⟨rfl, HI.out.1.cast (by simp), HI.out.2⟩

set_option maxRecDepth 20000 in
set_option maxHeartbeats 2000000 in
theorem heldS_any {a : Option Addr} {c k0 n : Nat} {w : World} (hr : Rd Value.string w a c (marks mkT k0 n)) (h1 : 1 ≤ k0) (hk : k0 + n ≤ 4611686018427387904) :
    Calls Tryd.prog 11 #[.slice a n c, .int .i64 (k0 : Int)] w fun e w' => e = .returned (.int .i64 ((k0 + n : Nat) : Int)) ∧ Below w.heap.size w w' := by
  have HR := Lib.hid hr
  clear hr
  go_enter Tryd.func11, Tryd.ntmps11
  go_wp2
  go_loopw [1, 5] (fun kk i wr => ∃ k : Nat, k ≤ n ∧ i = .int .i64 (k : Int) ∧ kk = .int .i64 ((k0 + k : Nat) : Int) ∧ Hid (Below w.heap.size w wr)) (fun _ i _ => n - (intOf i).toNat)
  case atStart => exact ⟨0, Nat.zero_le _, rfl, rfl, Lib.hid (Below.refl _ _)⟩
  case round =>
    obtain ⟨k, hk2, rfl, rfl, HI⟩ := hrel
    by_cases hlt : k < n
    · have hltz : (k : Int) < (n : Int) := by omega
      have ewk : IntKind.i64.wrap ((k : Int) + 1) = (k : Int) + 1 := IntWalk.i64_in _ (by omega)
      have hio := HR.out.idx und_ss siz_ss
      rw [marks_length] at hio
      have HEL := Lib.hid (fun (w' : World) (hb : Below w.heap.size w w') => (by
        have hcs := (HR.out.below hb (Nat.le_refl _)).cell k (by rw [marks_length]; exact hlt)
        rw [marks_get _ _ _ _ hlt, Option.getD_some] at hcs
        exact hcs : w'.cell? (elt a k) = some (.string (mkT (k0 + k)))))
      have hcx := HEL.out wr HI.out
      have HMT := Lib.hid (fun w' => markText_any (n := k0 + k) (w := w') (by omega) (by omega))
      generalize mkT (k0 + k) = tx at HEL hcx HMT
      have hbq : (tx.toList == tx.toList) = true := by simp
      have hbq3 : (tx.toList != tx.toList) = false := by simp
      go_wp2_with fail
      have HBD := Lib.hid (HI.out.trans ((below_of_drewN wr 1 wr.heap.size).mono HI.out.size))
      go_region_held3 (fun w' => w'.cell? (elt a k) = some (.string tx))
        (first | (with_reducible exact hk8.out) | exact hcx)
        (first
          | (go_at_call 29; refine (HMT.out _).mono ?_; rintro e w8 ⟨rfl, hb8⟩; have HB8 : Hid (Below w.heap.size w w8) := Lib.hid (HBD.out.trans (hb8.mono HBD.out.size)); have hk8 := Lib.hid (HEL.out w8 HB8.out); clear hb8))
      go_wp2
      go_roundw
      case rel => exact ⟨k + 1, by omega, by go_num, by go_num, HB8⟩
      case measure => simp [intOf]; omega
    · obtain rfl : k = n := by omega
      have hltz : ¬ (k : Int) < (k : Int) := by omega
      go_wp2
      go_ret
      exact ⟨rfl, HI.out⟩

end Go.Proofs.YtmmpemfhbnkomaaDoor
