/- The text of zeros, in both texts. The text of a sieve, in both texts. -/
import Derived.Test.YtmmpemfhbnkomaaDoorQRs16
import Derived.Test.YtmmpemfhbnkomaaDoorQRs7
import Derived.Test.YtmmpemfhbnkomaaDoorQRs0
import Derived.Test.YtmmpemfhbnkomaaDoorQRs1
set_option linter.unusedVariables false
set_option linter.unusedSimpArgs false
namespace Go.Proofs.YtmmpemfhbnkomaaDoor
open Go.RowKit

def zerV (Z : Int) (zs : List Int) : Bool := valsB zs && zerosB Z zs
def zerT (Z : Int) (zs : List Int) : ByteArray := if zerV Z zs then (decT Z ++ ⟨#[59]⟩) ++ lstT zs else ⟨#[]⟩
theorem zeros_in {Z : Int} {zs : List Int} (h : zerosB Z zs = true) : -9223372036854775808 ≤ Z ∧ Z ≤ 9223372036854775807 := by
  unfold zerosB at h
  simp only [Bool.and_eq_true] at h
  have := isKey_bd h.1.1
  omega
theorem lt_size {xs : List Int} (h : valsB xs = true) : (ltT xs).size ≤ 1400 := by
  rw [ltT_yes h]
  have h1 := valsB_in h
  have := lstT_size h1.1
  omega

set_option maxRecDepth 20000 in
set_option maxHeartbeats 2000000 in
theorem zerosText_any {a : Option Addr} {c : Nat} {zs : List Int} {Z : Int} {w : World} (hT : PTab w) (hr : Rd (Value.int .i64) w a c zs) :
    Calls Tryd.prog 39 #[.agg #[.int .i64 Z, .slice a zs.length c]] w fun e w' => e = .returned (.tuple #[.string (zerT Z zs), .bool (zerV Z zs)]) ∧ Below w.heap.size w w' := by
  have B0 : Below w.heap.size w (w.alloc (.cells #[.int .i64 Z, .slice a zs.length c] 37)) := (Below.refl _ _).alloc (Nat.le_refl _) _
  have I0 : Blk (w.alloc (.cells #[.int .i64 Z, .slice a zs.length c] 37)) w.heap.size #[.int .i64 Z, .slice a zs.length c] 37 := Blk.new _ _ _
  have H0 := Lib.hid (And.intro B0 I0)
  have HR := Lib.hid hr
  have HT := Lib.hid hT
  clear B0 I0 hr hT
  cases hv : valsB zs with
  | false =>
    have he : zerV Z zs = false := by unfold zerV; rw [hv]; rfl
    have he2 : zerT Z zs = ⟨#[]⟩ := by unfold zerT; rw [he]; rfl
    rw [he, he2]
    clear he he2
    go_enter Tryd.func39, Tryd.ntmps39
    go_wp2_with fail
    generalize (w.alloc (.cells #[.int .i64 Z, .slice a zs.length c] 37)) = w0 at H0 ⊢
    refine (implListText_any (HT.out.below H0.out.1 (Nat.le_refl _)) (HR.out.below H0.out.1 (Nat.le_refl _))).mono ?_
    rintro e w1 ⟨rfl, hb1⟩
    rw [hv]
    have HB1 := Lib.hid (H0.out.1.trans (hb1.mono H0.out.1.size))
    have HI1 := Lib.hid (H0.out.2.below hb1 (Nat.le_refl _))
    clear hb1 H0
    go_wp2
    go_ret2
    exact ⟨rfl, HB1.out⟩
  | true =>
  have hlz := lt_size hv
  cases hz : zerosB Z zs with
  | false =>
    have he : zerV Z zs = false := by unfold zerV; rw [hv, hz]; rfl
    have he2 : zerT Z zs = ⟨#[]⟩ := by unfold zerT; rw [he]; rfl
    rw [he, he2]
    clear he he2
    go_enter Tryd.func39, Tryd.ntmps39
    go_wp2_with fail
    generalize (w.alloc (.cells #[.int .i64 Z, .slice a zs.length c] 37)) = w0 at H0 ⊢
    refine (implListText_any (HT.out.below H0.out.1 (Nat.le_refl _)) (HR.out.below H0.out.1 (Nat.le_refl _))).mono ?_
    rintro e w1 ⟨rfl, hb1⟩
    rw [hv]
    have HB1 := Lib.hid (H0.out.1.trans (hb1.mono H0.out.1.size))
    have HI1 := Lib.hid (H0.out.2.below hb1 (Nat.le_refl _))
    clear hb1 H0
    have i0 := HI1.out.cell (i := 0) (v := .int .i64 Z) rfl
    have i1 := HI1.out.cell (i := 1) (v := .slice a zs.length c) rfl
    obtain ⟨lt, hlt⟩ : ∃ l, ltT zs = l := ⟨_, rfl⟩
    have HLT := Lib.hid hlt
    rw [hlt]
    clear hlt
    go_wp2_with fail
    refine (validZeros_any (HR.out.below HB1.out (Nat.le_refl _))).mono ?_
    rintro e w2 ⟨rfl, hb2⟩
    rw [hz]
    have HB2 := Lib.hid (HB1.out.trans (hb2.mono HB1.out.size))
    have HI2 := Lib.hid (HI1.out.below hb2 (Nat.le_refl _))
    clear hb2 i0 i1
    go_wp2
    go_ret2
    exact ⟨rfl, HB2.out⟩
  | true =>
  have hzb := zeros_in hz
  have hds := decT_size hzb.1 hzb.2
  have he : zerV Z zs = true := by unfold zerV; rw [hv, hz]; rfl
  rw [he]
  obtain ⟨res, hres⟩ : ∃ r, zerT Z zs = r := ⟨_, rfl⟩
  have HRES : Hid (res = (decT Z ++ ⟨#[59]⟩) ++ lstT zs) := Lib.hid (by rw [← hres]; unfold zerT; rw [he]; rfl)
  rw [hres]
  clear hres he
  go_enter Tryd.func39, Tryd.ntmps39
  go_wp2_with fail
  generalize (w.alloc (.cells #[.int .i64 Z, .slice a zs.length c] 37)) = w0 at H0 ⊢
  refine (implListText_any (HT.out.below H0.out.1 (Nat.le_refl _)) (HR.out.below H0.out.1 (Nat.le_refl _))).mono ?_
  rintro e w1 ⟨rfl, hb1⟩
  rw [hv]
  have HB1 := Lib.hid (H0.out.1.trans (hb1.mono H0.out.1.size))
  have HI1 := Lib.hid (H0.out.2.below hb1 (Nat.le_refl _))
  clear hb1 H0
  have i0 := HI1.out.cell (i := 0) (v := .int .i64 Z) rfl
  have i1 := HI1.out.cell (i := 1) (v := .slice a zs.length c) rfl
  obtain ⟨lt, hlt⟩ : ∃ l, ltT zs = l := ⟨_, rfl⟩
  have HLT := Lib.hid hlt
  rw [hlt]
  clear hlt
  go_wp2_with fail
  refine (validZeros_any (HR.out.below HB1.out (Nat.le_refl _))).mono ?_
  rintro e w2 ⟨rfl, hb2⟩
  rw [hz]
  have HB2 := Lib.hid (HB1.out.trans (hb2.mono HB1.out.size))
  have HI2 := Lib.hid (HI1.out.below hb2 (Nat.le_refl _))
  clear hb2 i0 i1
  have i0 := HI2.out.cell (i := 0) (v := .int .i64 Z) rfl
  go_wp2_with fail
  refine (decimal_any (HT.out.below HB2.out (Nat.le_refl _)) hzb.1 hzb.2).mono ?_
  rintro e w3 ⟨rfl, hb3⟩
  have HB3 := Lib.hid (HB2.out.trans (hb3.mono HB2.out.size))
  have hls : lt.size ≤ 1400 := by rw [← HLT.out]; exact hlz
  have HRE : Hid (res = (decT Z ++ ⟨#[59]⟩) ++ lt) := Lib.hid (by rw [HRES.out, ← HLT.out, ltT_yes hv])
  obtain ⟨d, hd⟩ : ∃ d, decT Z = d := ⟨_, rfl⟩
  rw [hd] at hds HRE ⊢
  have e59 : (⟨#[59]⟩ : ByteArray).size = 1 := rfl
  have hadd1 : ∀ w', (Op.stringOp .add d ⟨#[59]⟩).run Tryd.prog w' = .ok (.string (d ++ ⟨#[59]⟩)) w' := fun w' => run_string_add_sum _ _ _ (by omega)
  have hs2 : (d ++ (⟨#[59]⟩ : ByteArray)).size ≤ 21 := by rw [ByteArray.size_append]; omega
  obtain ⟨dc, hdc⟩ : ∃ dc, d ++ (⟨#[59]⟩ : ByteArray) = dc := ⟨_, rfl⟩
  rw [hdc] at hadd1 hs2 HRE
  have hadd2 : ∀ w', (Op.stringOp .add dc lt).run Tryd.prog w' = .ok (.string (dc ++ lt)) w' := fun w' => run_string_add_sum _ _ _ (by omega)
  clear hb3 hd hdc e59 hs2 hls hds hlz i0
  go_wp2
  go_ret2
  exact ⟨by rw [HRE.out]; rfl, HB3.out⟩

end Go.Proofs.YtmmpemfhbnkomaaDoor

namespace Go.Proofs.YtmmpemfhbnkomaaDoor
open Go.RowKit

def bitT (R S : Int) (bs : List Bool) : Nat → ByteArray
  | 0 => lstT [R, S] ++ ⟨#[59]⟩
  | k + 1 => bitT R S bs k ++ if bs[k]?.getD false then ⟨#[49]⟩ else ⟨#[48]⟩
def sieveT (R S : Int) (bs : List Bool) : ByteArray := if sieveB R S bs.length then bitT R S bs bs.length else ⟨#[]⟩
theorem sieve_in {R S : Int} {n : Nat} (h : sieveB R S n = true) : InB [R, S] ∧ n ≤ 512 := by
  unfold sieveB at h
  simp only [Bool.and_eq_true, decide_eq_true_eq] at h
  have h1 := (inR_eq _ _ _).1 h.1.1.1
  have h2 := isKey_bd h.1.1.2
  refine ⟨fun k hk => ?_, h.2⟩
  match k, hk with
  | 0, _ => show _ ≤ R ∧ R ≤ _; omega
  | 1, _ => show _ ≤ S ∧ S ≤ _; omega
theorem bitT_size {R S : Int} {bs : List Bool} (hb : InB [R, S]) (k : Nat) : (bitT R S bs k).size ≤ 100 + k := by
  induction k with
  | zero =>
    show (lstT [R, S] ++ ⟨#[59]⟩ : ByteArray).size ≤ _
    rw [ByteArray.size_append]
    have := lstT_size hb
    have e : (⟨#[59]⟩ : ByteArray).size = 1 := rfl
    simp at this
    omega
  | succ k ih =>
    rw [bitT, ByteArray.size_append]
    have e : (if bs[k]?.getD false then (⟨#[49]⟩ : ByteArray) else ⟨#[48]⟩).size = 1 := by split <;> rfl
    omega

set_option maxRecDepth 20000 in
set_option maxHeartbeats 2000000 in
theorem sieveText_any {a : Option Addr} {c : Nat} {bs : List Bool} {R S : Int} {w : World} (hT : PTab w) (hr : Rd Value.bool w a c bs) :
    Calls Tryd.prog 33 #[.agg #[.int .i64 R, .int .i64 S, .slice a bs.length c]] w fun e w' => e = .returned (.tuple #[.string (sieveT R S bs), .bool (sieveB R S bs.length)]) ∧ Below w.heap.size w w' := by
  have B0 : Below w.heap.size w (w.alloc (.cells #[.int .i64 R, .int .i64 S, .slice a bs.length c] 30)) := (Below.refl _ _).alloc (Nat.le_refl _) _
  have I0 : Blk (w.alloc (.cells #[.int .i64 R, .int .i64 S, .slice a bs.length c] 30)) w.heap.size #[.int .i64 R, .int .i64 S, .slice a bs.length c] 30 := Blk.new _ _ _
  have H0 := Lib.hid (And.intro B0 I0)
  have HR := Lib.hid hr
  have HT := Lib.hid hT
  have hln := hr.len
  clear B0 I0 hr hT
  cases hv : sieveB R S bs.length with
  | false =>
    have he : sieveT R S bs = ⟨#[]⟩ := by unfold sieveT; rw [hv]; rfl
    rw [he]
    clear he
    go_enter Tryd.func33, Tryd.ntmps33
    go_wp2_with fail
    generalize (w.alloc (.cells #[.int .i64 R, .int .i64 S, .slice a bs.length c] 30)) = w0 at H0 ⊢
    refine (validSieve_any (HR.out.below H0.out.1 (Nat.le_refl _))).mono ?_
    rintro e w1 ⟨rfl, hb1⟩
    rw [hv]
    have HB1 := Lib.hid (H0.out.1.trans (hb1.mono H0.out.1.size))
    clear hb1
    go_wp2
    go_ret2
    exact ⟨rfl, HB1.out⟩
  | true =>
  have hin := sieve_in hv
  have HZ : Hid (∀ k, k ≤ bs.length → (bitT R S bs k).size ≤ 700) := Lib.hid (fun k hk => by have := bitT_size (bs := bs) hin.1 k; omega)
  have HS : Hid (∀ k (h : k < bs.length), bitT R S bs (k + 1) = bitT R S bs k ++ if bs[k] then ⟨#[49]⟩ else ⟨#[48]⟩) := Lib.hid (fun k h => by rw [bitT, List.getElem?_eq_getElem h]; rfl)
  have HC0 : Hid (bitT R S bs 0 = lstT [R, S] ++ ⟨#[59]⟩) := Lib.hid rfl
  obtain ⟨res, hres⟩ : ∃ r, sieveT R S bs = r := ⟨_, rfl⟩
  have HRES : Hid (res = bitT R S bs bs.length) := Lib.hid (by rw [← hres]; unfold sieveT; rw [hv]; rfl)
  rw [hres]
  have HIN := Lib.hid hin.1
  have hl46 := lstT_size hin.1
  simp at hl46
  generalize bitT R S bs = C at HZ HS HC0 HRES
  clear hres hin
  go_enter Tryd.func33, Tryd.ntmps33
  go_wp2_with fail
  generalize (w.alloc (.cells #[.int .i64 R, .int .i64 S, .slice a bs.length c] 30)) = w0 at H0 ⊢
  refine (validSieve_any (HR.out.below H0.out.1 (Nat.le_refl _))).mono ?_
  rintro e w1 ⟨rfl, hb1⟩
  rw [hv]
  have HB1 := Lib.hid (H0.out.1.trans (hb1.mono H0.out.1.size))
  have HI1 := Lib.hid (H0.out.2.below hb1 (Nat.le_refl _))
  have i0 := HI1.out.cell (i := 0) (v := .int .i64 R) rfl
  have i1 := HI1.out.cell (i := 1) (v := .int .i64 S) rfl
  clear hb1 H0 hv
  have HBL := Lib.hid ((Below.refl w1.heap.size w1).alloc (Nat.le_refl _) (.cells (([R, S] : List Int).map (Value.int .i64)).toArray 2))
  have HC := Lib.hid (listText_any (w := w1.alloc (.cells (([R, S] : List Int).map (Value.int .i64)).toArray 2)) ((HT.out.below HB1.out (Nat.le_refl _)).below HBL.out (Nat.le_refl _)) (own_lit (f := Value.int .i64) w1 w1.heap.size [R, S] (Nat.le_refl _) (by simp [maxLen])).rd HIN.out (by simp))
  go_wp2_with fail
  refine HC.out.mono ?_
  rintro e w2 ⟨rfl, hb2⟩
  have HB2 := Lib.hid (HB1.out.trans ((HBL.out.trans (hb2.mono HBL.out.size)).mono HB1.out.size))
  have HI2 := Lib.hid ((HI1.out.alloc (.cells (([R, S] : List Int).map (Value.int .i64)).toArray 2)).below hb2 (Nat.le_refl _))
  have HRW := Lib.hid (HR.out.below HB2.out (Nat.le_refl _))
  have i2 := HI2.out.cell (i := 2) (v := .slice a bs.length c) rfl
  obtain ⟨l, hl⟩ : ∃ l, lstT [R, S] = l := ⟨_, rfl⟩
  rw [hl] at hl46 HC0 ⊢
  have e59 : (⟨#[59]⟩ : ByteArray).size = 1 := rfl
  have hadd : ∀ w', (Op.stringOp .add l ⟨#[59]⟩).run Tryd.prog w' = .ok (.string (C 0)) w' := fun w' => by rw [HC0.out]; exact run_string_add_sum _ _ _ (by omega)
  clear hb2 hl hl46 e59 i0 i1 HC HBL
  go_wp2
  clear hadd i2
  go_loopw [4, 6, 20] (fun oi _ vi wr => ∃ k : Nat, vi = .int .i64 k ∧ k ≤ bs.length ∧ oi = .string (C k) ∧ Hid (wr = w2)) (fun _ _ vi _ => bs.length - (intOf vi).toNat)
  case atStart => exact ⟨0, rfl, Nat.zero_le _, rfl, Lib.hid rfl⟩
  case round =>
    obtain ⟨k, rfl, hk, rfl, HW⟩ := hrel
    obtain rfl := HW.out
    clear HW
    by_cases hlt : k < bs.length
    · have hltz : (k : Int) < (bs.length : Int) := by omega
      have ewk : IntKind.i64.wrap ((k : Int) + 1) = (k : Int) + 1 := IntWalk.i64_in _ (by omega)
      have hix := HRW.out.idx und_bs siz_bs
      have hcx := HRW.out.cell k hlt
      simp only [List.getElem?_eq_getElem hlt, Option.getD_some] at hcx
      have HS1 := Lib.hid (HS.out k hlt)
      have hz := HZ.out k hk
      generalize bs[k] = x at hcx HS1
      generalize C k = t at HS1 hz ⊢
      have e1 : (⟨#[49]⟩ : ByteArray).size = 1 := rfl
      have e0 : (⟨#[48]⟩ : ByteArray).size = 1 := rfl
      have hadd1 : ∀ w', (Op.stringOp .add t ⟨#[49]⟩).run Tryd.prog w' = .ok (.string (t ++ ⟨#[49]⟩)) w' := fun w' => run_string_add_sum _ _ _ (by omega)
      have hadd0 : ∀ w', (Op.stringOp .add t ⟨#[48]⟩).run Tryd.prog w' = .ok (.string (t ++ ⟨#[48]⟩)) w' := fun w' => run_string_add_sum _ _ _ (by omega)
      clear hz e1 e0
      cases x with
      | true =>
        go_wp2
        go_roundw
        case rel => exact ⟨k + 1, by go_num, by omega, by rw [HS1.out]; rfl, Lib.hid trivial⟩
        case measure => simp [intOf]; omega
      | false =>
        go_wp2
        go_roundw
        case rel => exact ⟨k + 1, by go_num, by omega, by rw [HS1.out]; rfl, Lib.hid trivial⟩
        case measure => simp [intOf]; omega
    · obtain rfl : k = bs.length := by omega
      have hltz : ¬ (bs.length : Int) < (bs.length : Int) := by omega
      go_wp2
      go_ret2
      exact ⟨by rw [HRES.out]; rfl, HB2.out⟩

end Go.Proofs.YtmmpemfhbnkomaaDoor
