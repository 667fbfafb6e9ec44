/- ListText, and what has a text, in both texts. -/
import Derived.Test.YtockifchghllhaaDoorTxt
namespace Go.Proofs.YtockifchghllhaaDoor
open Go.RowKit

set_option maxHeartbeats 1000000 in
theorem areValues_any {a : Option Addr} {c : Nat} {xs : List Int} {w : World} (hr : Rd (Value.int .i64) w a c xs) :
    Calls Tryd.prog 105 #[.slice a xs.length c] w fun e w' => e = .returned (.bool (valsB xs)) ∧ w = w' := by
  have hln := hr.len
  obtain ⟨b, hb⟩ : ∃ b, valsB xs = b := ⟨_, rfl⟩
  have HB := Lib.hid hb
  rw [hb]
  clear hb
  go_enter Tryd.func105, Tryd.ntmps105
  go_wp2
  go_loopw [4, 7] (fun _ vi wr => ∃ k : Nat, vi = .int .i64 k ∧ k ≤ xs.length ∧ Hid (∀ x ∈ xs.take k, (!valR x) = false) ∧ Hid (w = wr)) (fun _ vi _ => xs.length - (intOf vi).toNat)
  case atStart => exact ⟨0, rfl, Nat.zero_le _, Lib.hid (by simp), Lib.hid rfl⟩
  case round =>
    obtain ⟨k, rfl, hk, HP, HW⟩ := hrel
    obtain rfl := HW.out
    clear HW
    by_cases hlt : k < xs.length
    · have hltz : (k : Int) < (xs.length : Int) := by omega
      have hix := hr.idx und_is siz_is
      have hcx := hr.cell k hlt
      simp only [List.getElem?_eq_getElem hlt, Option.getD_some] at hcx
      have HNO := Lib.hid (valsB_no hlt)
      have HS : Hid (valR xs[k] = true → ∀ x ∈ xs.take (k + 1), (!valR x) = false) := Lib.hid (fun h => snoc_none (p := fun x => !valR x) hlt HP.out (by show (!valR xs[k]) = false; rw [h]; rfl))
      have ewk : IntKind.i64.wrap ((k : Int) + 1) = (k : Int) + 1 := IntWalk.i64_in _ (by omega)
      generalize xs[k] = x at hcx HNO HS
      cases hv : valR x with
      | false =>
        have HE : Hid (b = false) := Lib.hid (by rw [← HB.out]; exact HNO.out hv)
        go_wp2_with fail
        refine isValue_any.mono ?_
        rintro e w1 ⟨rfl, rfl⟩
        rw [hv]
        go_wp2
        go_ret
        exact ⟨ret_bool HE.out.symm, rfl⟩
      | true =>
        have HS1 := Lib.hid (HS.out hv)
        go_wp2_with fail
        refine isValue_any.mono ?_
        rintro e w1 ⟨rfl, rfl⟩
        rw [hv]
        go_wp2
        go_roundw
        case rel => exact ⟨k + 1, by go_num, by omega, HS1, Lib.hid trivial⟩
        case measure => simp [intOf]; omega
    · obtain rfl : k = xs.length := by omega
      have hltz : ¬ (xs.length : Int) < (xs.length : Int) := by omega
      have HE : Hid (b = decide (xs.length ≤ 64)) := Lib.hid (by rw [← HB.out]; exact valsB_yes (fun x hx => HP.out x (by rw [List.take_length]; exact hx)))
      have hd : decide ((xs.length : Int) ≤ 64) = decide (xs.length ≤ 64) := by by_cases h : xs.length ≤ 64 <;> simp [h] <;> omega
      go_wp2
      go_ret
      exact ⟨by rw [HE.out, ← hd]; rfl, rfl⟩

set_option maxHeartbeats 1000000 in
theorem l01List_any {a : Option Addr} {c : Nat} {xs : List Int} {w : World} (hr : Rd (Value.int .i64) w a c xs) :
    Calls Tryd.prog 68 #[.slice a xs.length c] w fun e w' => e = .returned (.bool (valsB xs)) ∧ w = w' := by
  have hln := hr.len
  obtain ⟨b, hb⟩ : ∃ b, valsB xs = b := ⟨_, rfl⟩
  have HB := Lib.hid hb
  rw [hb]
  clear hb
  go_enter Tryd.func68, Tryd.ntmps68
  go_wp2
  go_loopw [3] (fun vi wr => ∃ k : Nat, vi = .int .i64 k ∧ k ≤ xs.length ∧ Hid (∀ x ∈ xs.take k, (!valR x) = false) ∧ Hid (w = wr)) (fun vi _ => xs.length - (intOf vi).toNat)
  case atStart => exact ⟨0, rfl, Nat.zero_le _, Lib.hid (by simp), Lib.hid rfl⟩
  case round =>
    obtain ⟨k, rfl, hk, HP, HW⟩ := hrel
    obtain rfl := HW.out
    clear HW
    by_cases hlt : k < xs.length
    · have hltz : (k : Int) < (xs.length : Int) := by omega
      have hix := hr.idx und_is siz_is
      have hcx := hr.cell k hlt
      simp only [List.getElem?_eq_getElem hlt, Option.getD_some] at hcx
      have HNO := Lib.hid (valsB_no hlt)
      have HS : Hid (valR xs[k] = true → ∀ x ∈ xs.take (k + 1), (!valR x) = false) := Lib.hid (fun h => snoc_none (p := fun x => !valR x) hlt HP.out (by show (!valR xs[k]) = false; rw [h]; rfl))
      have ewk : IntKind.i64.wrap ((k : Int) + 1) = (k : Int) + 1 := IntWalk.i64_in _ (by omega)
      generalize xs[k] = x at hcx HNO HS
      have hvr : Hid (inR x (-1000000000000000) 1000000000000000 = valR x) := Lib.hid rfl
      cases hv : valR x with
      | false =>
        have HE : Hid (b = false) := Lib.hid (by rw [← HB.out]; exact HNO.out hv)
        go_wp2_with fail
        refine (l00In_any _ _ _ _).mono ?_
        rintro e w1 ⟨rfl, rfl⟩
        rw [hvr.out, hv]
        go_wp2
        go_ret
        exact ⟨ret_bool HE.out.symm, rfl⟩
      | true =>
        have HS1 := Lib.hid (HS.out hv)
        go_wp2_with fail
        refine (l00In_any _ _ _ _).mono ?_
        rintro e w1 ⟨rfl, rfl⟩
        rw [hvr.out, hv]
        go_wp2
        go_roundw
        case rel => exact ⟨k + 1, by go_num, by omega, HS1, Lib.hid trivial⟩
        case measure => simp [intOf]; omega
    · obtain rfl : k = xs.length := by omega
      have hltz : ¬ (xs.length : Int) < (xs.length : Int) := by omega
      have HE : Hid (b = decide (xs.length ≤ 64)) := Lib.hid (by rw [← HB.out]; exact valsB_yes (fun x hx => HP.out x (by rw [List.take_length]; exact hx)))
      have hd : decide ((xs.length : Int) ≤ 64) = decide (xs.length ≤ 64) := by by_cases h : xs.length ≤ 64 <;> simp [h] <;> omega
      go_wp2
      go_ret
      exact ⟨by rw [HE.out, ← hd]; rfl, rfl⟩

/-- ListText. -/
def ltT (xs : List Int) : ByteArray := if valsB xs then lstT xs else ⟨#[]⟩
theorem ltT_yes {xs : List Int} (h : valsB xs = true) : ltT xs = lstT xs := by unfold ltT; rw [h]; rfl
theorem ltT_no {xs : List Int} (h : valsB xs = false) : ltT xs = ⟨#[]⟩ := by unfold ltT; rw [h]; rfl
theorem implListText_any {a : Option Addr} {c : Nat} {xs : List Int} {w : World} (hT : PTab w) (hr : Rd (Value.int .i64) w a c xs) :
    Calls Tryd.prog 71 #[.slice a xs.length c] w fun e w' => e = .returned (.tuple #[.string (ltT xs), .bool (valsB xs)]) ∧ Below w.heap.size w w' := by
  have HA := Lib.hid (areValues_any hr)
  cases hv : valsB xs with
  | false =>
    rw [ltT_no hv]
    rw [hv] at HA
    clear hr hT
    go_enter Tryd.func71, Tryd.ntmps71
    go_wp2_with fail
    refine HA.out.mono ?_
    rintro e w1 ⟨rfl, rfl⟩
    go_wp2
    go_ret2
    exact ⟨rfl, Below.refl _ _⟩
  | true =>
  rw [ltT_yes hv]
  rw [hv] at HA
  have hin := valsB_in hv
  have HC := Lib.hid (listText_any hT hr hin.1 (by omega))
  obtain ⟨t, ht⟩ : ∃ t, lstT xs = t := ⟨_, rfl⟩
  rw [ht] at HC ⊢
  clear hr hT hin ht
  go_enter Tryd.func71, Tryd.ntmps71
  go_wp2_with fail
  refine HA.out.mono ?_
  rintro e w1 ⟨rfl, rfl⟩
  go_wp2_with fail
  refine HC.out.mono ?_
  rintro e w2 ⟨rfl, hb2⟩
  have HB2 := Lib.hid hb2
  clear hb2
  go_wp2
  go_ret2
  exact ⟨rfl, HB2.out⟩

end Go.Proofs.YtockifchghllhaaDoor
