/- Valid zeros in both texts. -/
import Derived.Test.YtmmpemfhbnkomaaDoorQRj4
import Derived.Test.YtmmpemfhbnkomaaDoorQRj6
set_option linter.unusedVariables false
set_option linter.unusedSimpArgs false
namespace Go.Proofs.YtmmpemfhbnkomaaDoor
open Go.RowKit

def cellsB (zs : List Int) : Bool := zs.all fun x => inR x 0 33
def zerosB (Z : Int) (zs : List Int) : Bool := isKey Z && pw16 zs.length && cellsB zs
theorem zerosB_Z {Z : Int} {zs : List Int} (h : isKey Z = false) : zerosB Z zs = false := by simp [zerosB, h]
theorem zerosB_p {Z : Int} {zs : List Int} (h : pw16 zs.length = false) : zerosB Z zs = false := by simp [zerosB, h]
theorem zerosB_in {Z : Int} {zs : List Int} (h1 : isKey Z = true) (h2 : pw16 zs.length = true) : zerosB Z zs = cellsB zs := by simp [zerosB, h1, h2]

set_option maxHeartbeats 1000000 in
theorem validZeros_any {a : Option Addr} {c : Nat} {zs : List Int} {Z : Int} {w : World} (hr : Rd (Value.int .i64) w a c zs) :
    Calls Tryd.prog 64 #[.agg #[.int .i64 Z, .slice a zs.length c]] w fun e w' => e = .returned (.bool (zerosB Z zs)) ∧ Below w.heap.size w w' := by
  have hln := hr.len
  have hb0 : Below w.heap.size w (w.alloc (.cells #[.int .i64 Z, .slice a zs.length c] 37)) := (Below.refl _ _).alloc (Nat.le_refl _) _
  have hc := areWithin_any a c zs 0 33 _ (hr.below hb0 (Nat.le_refl _))
  have HC := Lib.hid hc
  clear hc
  cases h1 : isKey Z with
  | false =>
    go_enter Tryd.func64, Tryd.ntmps64
    go_wp2_with fail
    refine implIsKey_any.mono ?_
    rintro e w1 ⟨rfl, rfl⟩
    rw [h1]
    go_wp2
    go_ret
    exact ⟨ret_bool (zerosB_Z h1).symm, hb0⟩
  | true =>
  cases h2 : pw16 zs.length with
  | false =>
    go_enter Tryd.func64, Tryd.ntmps64
    go_wp2_with fail
    refine implIsKey_any.mono ?_
    rintro e w1 ⟨rfl, rfl⟩
    rw [h1]
    go_wp2_with fail
    refine isPowerOfTwo16_any.mono ?_
    rintro e w1 ⟨rfl, rfl⟩
    rw [h2]
    go_wp2
    go_ret
    exact ⟨ret_bool (zerosB_p h2).symm, hb0⟩
  | true =>
    go_enter Tryd.func64, Tryd.ntmps64
    go_wp2_with fail
    refine implIsKey_any.mono ?_
    rintro e w1 ⟨rfl, rfl⟩
    rw [h1]
    go_wp2_with fail
    refine isPowerOfTwo16_any.mono ?_
    rintro e w1 ⟨rfl, rfl⟩
    rw [h2]
    go_wp2_with fail
    refine HC.out.mono ?_
    rintro e w2 ⟨rfl, hb1⟩
    go_wp2
    go_ret
    exact ⟨ret_bool (zerosB_in h1 h2).symm, hb0.trans (hb1.mono (by simp))⟩

set_option maxHeartbeats 2000000 in
theorem l04Zeros_any {b o : Nat} {a : Option Addr} {c : Nat} {zs : List Int} {Z : Int} {w : World} (hr : Rd (Value.int .i64) w a c zs)
    (c0 : w.cell? ⟨b, o, none⟩ = some (.int .i64 Z)) (c1 : w.cell? ⟨b, o + 1, none⟩ = some (.slice a zs.length c)) :
    Calls Tryd.prog 60 #[.pointer (some ⟨b, o, none⟩)] w fun e w' => e = .returned (.bool (zerosB Z zs)) ∧ w = w' := by
  have hln := hr.len
  cases h1 : isKey Z with
  | false =>
    go_enter Tryd.func60, Tryd.ntmps60
    go_wp2_with fail
    refine l02Key_any.mono ?_
    rintro e w1 ⟨rfl, rfl⟩
    rw [h1]
    go_wp2
    go_ret
    exact ⟨ret_bool (zerosB_Z h1).symm, rfl⟩
  | true =>
  cases h2 : pw16 zs.length with
  | false =>
    go_enter Tryd.func60, Tryd.ntmps60
    go_wp2_with fail
    refine l02Key_any.mono ?_
    rintro e w1 ⟨rfl, rfl⟩
    rw [h1]
    go_wp2_with fail
    refine l04Power16_any.mono ?_
    rintro e w1 ⟨rfl, rfl⟩
    rw [h2]
    go_wp2
    go_ret
    exact ⟨ret_bool (zerosB_p h2).symm, rfl⟩
  | true =>
    go_enter Tryd.func60, Tryd.ntmps60
    go_wp2_with fail
    refine l02Key_any.mono ?_
    rintro e w1 ⟨rfl, rfl⟩
    rw [h1]
    go_wp2_with fail
    refine l04Power16_any.mono ?_
    rintro e w1 ⟨rfl, rfl⟩
    rw [h2]
    have HE := Lib.hid (zerosB_in h1 h2)
    clear h1 h2
    go_wp2_with fail
    go_loop [3] (fun i => ∃ k : Nat, k ≤ zs.length ∧ i = .int .i64 k ∧ Hid (∀ x ∈ zs.take k, (!inR x 0 33) = false)) (fun i => zs.length - (intOf i).toNat)
    case atStart => exact ⟨0, Nat.zero_le _, rfl, by show ∀ x ∈ _, _; simp⟩
    case round =>
      obtain ⟨k, hk, rfl, HP⟩ := hrel
      by_cases hlt : k < zs.length
      · have hix := hr.idx und_is siz_is
        have hcx := hr.cell k hlt
        simp only [List.getElem?_eq_getElem hlt, Option.getD_some] at hcx
        go_wp2_with fail
        refine (l00In_any _ _ _ _).mono ?_
        rintro e w1 ⟨rfl, rfl⟩
        cases hx : inR zs[k] 0 33 with
        | true =>
          have HX := Lib.hid hx
          clear hx
          go_wp2
          go_round
          case rel => exact ⟨k + 1, by omega, by go_num, snoc_none hlt HP.out (by rw [HX.out]; rfl)⟩
          case measure => simp [intOf]; omega
        | false =>
          have HX := Lib.hid hx
          clear hx
          go_wp2
          go_ret
          refine ⟨ret_bool ?_, rfl⟩
          symm
          rw [HE.out]
          unfold cellsB
          rw [List.all_eq_false]; exact ⟨_, List.getElem_mem hlt, by rw [HX.out]; simp⟩
      · obtain rfl : k = zs.length := by omega
        go_wp2
        go_ret
        refine ⟨ret_bool ?_, rfl⟩
        have := HP.out
        symm
        rw [HE.out]
        simpa [cellsB] using this

end Go.Proofs.YtmmpemfhbnkomaaDoor
