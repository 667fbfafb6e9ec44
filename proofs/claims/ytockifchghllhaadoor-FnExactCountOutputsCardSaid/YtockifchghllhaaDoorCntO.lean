/- CountOutputs in both texts. -/
import Derived.Test.YtockifchghllhaaDoorLines
namespace Go.Proofs.YtockifchghllhaaDoor
open Go.RowKit

def isErr (x : ByteArray) : Bool := (x.toList == [110, 111]) || (x.toList == [119, 104, 97, 116])
def badK (L : List ByteArray) : Nat → Int
  | 0 => 0
  | k + 1 => badK L k + if isErr (L[k]?.getD ⟨#[]⟩) then 1 else 0
theorem badK_bd (L : List ByteArray) (k : Nat) : 0 ≤ badK L k ∧ badK L k ≤ k := by
  induction k with
  | zero => exact ⟨Int.le_refl _, Int.le_refl _⟩
  | succ k ih => unfold badK; split <;> omega
def cntA (s : ByteArray) : Int := if linB s then badK (linesL s) (linesL s).length else 0
def cntB (s : ByteArray) : Int := if linB s then ((linesL s).length : Int) - badK (linesL s) (linesL s).length else 0

set_option maxHeartbeats 2000000 in
theorem countOutputs_any {s : ByteArray} {w : World} (hM : MLen w) (hs : s.size ≤ 1048576) :
    Calls Tryd.prog 13 #[.string s] w fun e w' => e = .returned (.tuple #[.int .i64 (cntA s), .int .i64 (cntB s), .bool (linB s)]) ∧ Below w.heap.size w w' := by
  have hpl := parts_len s 10
  have hLl : (linesL s).length ≤ 1048576 := by unfold linesL; rw [List.length_take]; omega
  have HC := Lib.hid (linesOf_any hM hs)
  cases hb : linB s with
  | false =>
    have ha : cntA s = 0 := by unfold cntA; rw [hb]; rfl
    have hc : cntB s = 0 := by unfold cntB; rw [hb]; rfl
    rw [ha, hc]
    rw [hb] at HC
    clear ha hc hpl
    go_enter Tryd.func13, Tryd.ntmps13
    go_wp2_with fail
    refine HC.out.mono ?_
    rintro e w1 ⟨a, c, rfl, hr, hb1⟩
    have HB := Lib.hid hb1
    clear hb1 hr
    go_wp2
    go_ret3
    exact ⟨rfl, HB.out⟩
  | true =>
  rw [hb] at HC
  have ha : Hid (cntA s = badK (linesL s) (linesL s).length) := Lib.hid (by unfold cntA; rw [hb]; rfl)
  have hc : Hid (cntB s = ((linesL s).length : Int) - badK (linesL s) (linesL s).length) := Lib.hid (by unfold cntB; rw [hb]; rfl)
  obtain ⟨ra, hra⟩ : ∃ r, cntA s = r := ⟨_, rfl⟩
  obtain ⟨rc, hrc⟩ : ∃ r, cntB s = r := ⟨_, rfl⟩
  rw [hra] at ha ⊢
  rw [hrc] at hc ⊢
  clear hra hrc hb hpl
  generalize linesL s = L at HC ha hc hLl
  have HBD := Lib.hid (badK_bd L)
  have H0 : Hid (badK L 0 = 0) := Lib.hid rfl
  have HS : Hid (∀ k, badK L (k + 1) = badK L k + if isErr (L[k]?.getD ⟨#[]⟩) then 1 else 0) := Lib.hid (fun _ => rfl)
  generalize badK L = C at HBD H0 HS ha hc
  go_enter Tryd.func13, Tryd.ntmps13
  go_wp2_with fail
  refine HC.out.mono ?_
  rintro e w1 ⟨a, c, rfl, hr, hb1⟩
  have HB := Lib.hid hb1
  clear hb1 HC
  go_wp2
  go_loopw [7, 9, 19] (fun bi _ vi wr => ∃ k : Nat, vi = .int .i64 k ∧ k ≤ L.length ∧ bi = .int .i64 (C k) ∧ Hid (wr = w1)) (fun _ _ vi _ => L.length - (intOf vi).toNat)
  case atStart => exact ⟨0, rfl, Nat.zero_le _, by rw [H0.out], Lib.hid rfl⟩
  case round =>
    obtain ⟨k, rfl, hk, rfl, HW⟩ := hrel
    obtain rfl := HW.out
    clear HW
    have hbd := HBD.out k
    by_cases hlt : k < L.length
    · have hltz : (k : Int) < (L.length : Int) := by omega
      have ewk : IntKind.i64.wrap ((k : Int) + 1) = (k : Int) + 1 := IntWalk.i64_in _ (by omega)
      have hix := hr.idx und_ss siz_ss
      have hcx := hr.cell k hlt
      simp only [List.getElem?_eq_getElem hlt, Option.getD_some] at hcx
      have hS1 := HS.out k
      rw [List.getElem?_eq_getElem hlt, Option.getD_some] at hS1
      have HS1 := Lib.hid hS1
      clear hS1
      generalize L[k] = x at hcx HS1
      generalize C k = z at hbd HS1 ⊢
      have ewz : IntKind.i64.wrap (z + 1) = z + 1 := IntWalk.i64_in _ (by omega)
      cases h1 : (x.toList == [110, 111]) with
      | true =>
        have he : Hid (C (k + 1) = z + 1) := Lib.hid (by rw [HS1.out]; unfold isErr; rw [h1]; rfl)
        go_wp2
        go_roundw
        case rel => exact ⟨k + 1, by go_num, by omega, by rw [he.out], Lib.hid trivial⟩
        case measure => simp [intOf]; omega
      | false =>
      cases h2 : (x.toList == [119, 104, 97, 116]) with
      | true =>
        have he : Hid (C (k + 1) = z + 1) := Lib.hid (by rw [HS1.out]; unfold isErr; rw [h1, h2]; rfl)
        go_wp2
        go_roundw
        case rel => exact ⟨k + 1, by go_num, by omega, by rw [he.out], Lib.hid trivial⟩
        case measure => simp [intOf]; omega
      | false =>
        have he : Hid (C (k + 1) = z) := Lib.hid (by rw [HS1.out]; unfold isErr; rw [h1, h2]; simp)
        go_wp2
        go_roundw
        case rel => exact ⟨k + 1, by go_num, by omega, by rw [he.out], Lib.hid trivial⟩
        case measure => simp [intOf]; omega
    · obtain rfl : k = L.length := by omega
      have hltz : ¬ (L.length : Int) < (L.length : Int) := by omega
      obtain ⟨z, hz⟩ : ∃ z, C L.length = z := ⟨_, rfl⟩
      rw [hz] at ha hc hbd ⊢
      have ewz : IntKind.i64.wrap ((L.length : Int) - z) = (L.length : Int) - z := IntWalk.i64_in _ (by omega)
      clear hz
      go_wp2
      go_ret3
      exact ⟨by rw [ha.out, hc.out]; rfl, HB.out⟩

set_option maxHeartbeats 2000000 in
theorem specCountOutputs_any {s : ByteArray} {w : World} (hs : s.size ≤ 1048576) :
    Calls Tryd.prog 12 #[.string s] w fun e w' => e = .returned (.tuple #[.int .i64 (cntA s), .int .i64 (cntB s), .bool (linB s)]) ∧ Below w.heap.size w w' := by
  have hpl := parts_len s 10
  have hLl : (linesL s).length ≤ 1048576 := by unfold linesL; rw [List.length_take]; omega
  have HC := Lib.hid (l08Lines_any (w := w) hs)
  cases h16 : decide (s.size ≤ 16000) with
  | false =>
    have hb : linB s = false := by unfold linB; rw [h16]; rfl
    have ha : cntA s = 0 := by unfold cntA; rw [hb]; rfl
    have hc : cntB s = 0 := by unfold cntB; rw [hb]; rfl
    rw [ha, hc, hb]
    have hd : decide ((16000 : Int) < (s.size : Int)) = true := by have := of_decide_eq_false h16; exact decide_eq_true (by omega)
    have hdn : ¬ s.size ≤ 16000 := of_decide_eq_false h16
    clear ha hc hpl hb
    go_enter Tryd.func12, Tryd.ntmps12
    go_wp2
    go_ret3
    exact ⟨rfl, Below.refl _ _⟩
  | true =>
  have hd : decide ((16000 : Int) < (s.size : Int)) = false := by have := of_decide_eq_true h16; exact decide_eq_false (by omega)
  cases hre : (restT s).toList.isEmpty with
  | false =>
    have hb : linB s = false := by unfold linB; rw [h16, hre]; rfl
    have ha : cntA s = 0 := by unfold cntA; rw [hb]; rfl
    have hc : cntB s = 0 := by unfold cntB; rw [hb]; rfl
    rw [ha, hc, hb]
    clear ha hc hpl hb h16
    generalize restT s = R at HC hre
    have hre2 : (R.toList == (⟨#[]⟩ : ByteArray).toList) = false := by simpa using hre
    have hre3 : ¬ R.toList = [] := by intro h; rw [h] at hre; simp at hre
    go_enter Tryd.func12, Tryd.ntmps12
    go_wp2_with fail
    refine HC.out.mono ?_
    rintro e w1 ⟨a, c, rfl, hr, hb1⟩
    have HB := Lib.hid hb1
    clear hb1 hr
    go_wp2
    go_ret3
    exact ⟨rfl, HB.out⟩
  | true =>
  have hb : linB s = true := by unfold linB; rw [h16, hre]; rfl
  rw [hb]
  have hre3 : (restT s).toList = [] := by simpa using hre
  clear h16
  generalize restT s = R at HC hre hre3
  have ha : Hid (cntA s = badK (linesL s) (linesL s).length) := Lib.hid (by unfold cntA; rw [hb]; rfl)
  have hc : Hid (cntB s = ((linesL s).length : Int) - badK (linesL s) (linesL s).length) := Lib.hid (by unfold cntB; rw [hb]; rfl)
  obtain ⟨ra, hra⟩ : ∃ r, cntA s = r := ⟨_, rfl⟩
  obtain ⟨rc, hrc⟩ : ∃ r, cntB s = r := ⟨_, rfl⟩
  rw [hra] at ha ⊢
  rw [hrc] at hc ⊢
  clear hra hrc hb hpl
  generalize linesL s = L at HC ha hc hLl
  have HBD := Lib.hid (badK_bd L)
  have H0 : Hid (badK L 0 = 0) := Lib.hid rfl
  have HS : Hid (∀ k, badK L (k + 1) = badK L k + if isErr (L[k]?.getD ⟨#[]⟩) then 1 else 0) := Lib.hid (fun _ => rfl)
  generalize badK L = C at HBD H0 HS ha hc
  go_enter Tryd.func12, Tryd.ntmps12
  go_wp2_with fail
  refine HC.out.mono ?_
  rintro e w1 ⟨a, c, rfl, hr, hb1⟩
  have HB := Lib.hid hb1
  clear hb1 HC
  go_wp2
  go_loopw [7, 8] (fun bi vi wr => ∃ k : Nat, vi = .int .i64 k ∧ k ≤ L.length ∧ bi = .int .i64 (C k) ∧ Hid (wr = w1)) (fun _ vi _ => L.length - (intOf vi).toNat)
  case atStart => exact ⟨0, rfl, Nat.zero_le _, by rw [H0.out], Lib.hid rfl⟩
  case round =>
    obtain ⟨k, rfl, hk, rfl, HW⟩ := hrel
    obtain rfl := HW.out
    clear HW
    have hbd := HBD.out k
    by_cases hlt : k < L.length
    · have hltz : (k : Int) < (L.length : Int) := by omega
      have ewk : IntKind.i64.wrap ((k : Int) + 1) = (k : Int) + 1 := IntWalk.i64_in _ (by omega)
      have hix := hr.idx und_ss siz_ss
      have hcx := hr.cell k hlt
      simp only [List.getElem?_eq_getElem hlt, Option.getD_some] at hcx
      have hS1 := HS.out k
      rw [List.getElem?_eq_getElem hlt, Option.getD_some] at hS1
      have HS1 := Lib.hid hS1
      clear hS1
      generalize L[k] = x at hcx HS1
      generalize C k = z at hbd HS1 ⊢
      have ewz : IntKind.i64.wrap (z + 1) = z + 1 := IntWalk.i64_in _ (by omega)
      cases h1 : (x.toList == [110, 111]) with
      | true =>
        have he : Hid (C (k + 1) = z + 1) := Lib.hid (by rw [HS1.out]; unfold isErr; rw [h1]; rfl)
        go_wp2
        go_roundw
        case rel => exact ⟨k + 1, by go_num, by omega, by rw [he.out], Lib.hid trivial⟩
        case measure => simp [intOf]; omega
      | false =>
      cases h2 : (x.toList == [119, 104, 97, 116]) with
      | true =>
        have he : Hid (C (k + 1) = z + 1) := Lib.hid (by rw [HS1.out]; unfold isErr; rw [h1, h2]; rfl)
        go_wp2
        go_roundw
        case rel => exact ⟨k + 1, by go_num, by omega, by rw [he.out], Lib.hid trivial⟩
        case measure => simp [intOf]; omega
      | false =>
        have he : Hid (C (k + 1) = z) := Lib.hid (by rw [HS1.out]; unfold isErr; rw [h1, h2]; simp)
        go_wp2
        go_roundw
        case rel => exact ⟨k + 1, by go_num, by omega, by rw [he.out], Lib.hid trivial⟩
        case measure => simp [intOf]; omega
    · obtain rfl : k = L.length := by omega
      have hltz : ¬ (L.length : Int) < (L.length : Int) := by omega
      obtain ⟨z, hz⟩ : ∃ z, C L.length = z := ⟨_, rfl⟩
      rw [hz] at ha hc hbd ⊢
      have ewz : IntKind.i64.wrap ((L.length : Int) - z) = (L.length : Int) - z := IntWalk.i64_in _ (by omega)
      clear hz
      go_wp2
      go_ret3
      exact ⟨by rw [ha.out, hc.out]; rfl, HB.out⟩

end Go.Proofs.YtockifchghllhaaDoor
