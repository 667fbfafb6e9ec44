/- OftenInWindow's number of one window, in the program's text. A number for the last ones of every index of a list: eachLast in the program's text, for whatever closure. The least and the greatest ones of last ones: walked. -/
import Derived.Test.YtncbkbfkdgggkaaDoorQPk30
import Derived.Test.YtncbkbfkdgggkaaDoorQPk2
import Derived.Test.YtncbkbfkdgggkaaDoorQPk6
import Derived.IntWalk
import Derived.Laws.Small
import Derived.Test.YtncbkbfkdgggkaaDoorQPk4
set_option linter.unusedVariables false
set_option linter.unusedSimpArgs false
namespace Go.Proofs.YtncbkbfkdgggkaaDoor
open Go.RowKit

theorem oft_go {ys : List Int} {k : Nat} (h : (oft ys k).2 < runK ys (k + 1)) : oft ys (k + 1) = (at0 ys k, runK ys (k + 1)) := by rw [oft, if_pos h]
theorem oft_stay {ys : List Int} {k : Nat} (h : ¬ (oft ys k).2 < runK ys (k + 1)) : oft ys (k + 1) = oft ys k := by rw [oft, if_neg h]

end Go.Proofs.YtncbkbfkdgggkaaDoor

namespace Go.Proofs.YtncbkbfkdgggkaaDoor
open Go.RowKit

theorem isStream_any {n : Nat} {w : World} : Calls Tryd.prog 31 #[.int .i64 n] w fun e w' => e = .returned (.bool (inR n 1 128)) ∧ w = w' := by
  by_cases h1 : 1 ≤ n
  · have hd : decide ((1 : Int) ≤ (n : Int)) = true := by simp; omega
    have hdn : decide (1 ≤ n) = true := by simp; omega
    have hdn2 : decide (0 < n) = true := by simp; omega
    by_cases h2 : n ≤ 128
    · have he : inR n 1 128 = true := by simp [inR]; omega
      rw [he]
      go_enter Tryd.func31, Tryd.ntmps31
      go_wp2
      go_ret
      exact ⟨ret_bool (show decide ((n : Int) ≤ 128) = _ by simp; omega), rfl⟩
    · have he : inR n 1 128 = false := by simp [inR]; omega
      rw [he]
      go_enter Tryd.func31, Tryd.ntmps31
      go_wp2
      go_ret
      exact ⟨ret_bool (show decide ((n : Int) ≤ 128) = _ by simp; omega), rfl⟩
  · have hd : decide ((1 : Int) ≤ (n : Int)) = false := by simp; omega
    have hdn : decide (1 ≤ n) = false := by simp; omega
    have hdn2 : decide (0 < n) = false := by simp; omega
    have he : inR n 1 128 = false := by simp [inR]; omega
    rw [he]
    go_enter Tryd.func31, Tryd.ntmps31
    go_wp2
    go_ret
    exact ⟨rfl, rfl⟩

/-- What is a list with its windows. -/
def lstB (L : Int) (xs : List Int) : Bool := inR xs.length 1 128 && xs.all (fun x => inR x (-1000000) 1000000) && inR L 1 128
def eachR (g : List Int → Int) (L : Int) (xs : List Int) (n : Nat) : List Int := (List.range n).map fun i => g (lastL xs L i)
def eachL (g : List Int → Int) (L : Int) (xs : List Int) : List Int := if lstB L xs then eachR g L xs xs.length else []
theorem eachR_len (g : List Int → Int) (L : Int) (xs : List Int) (n : Nat) : (eachR g L xs n).length = n := by simp [eachR]
theorem eachR_succ (g : List Int → Int) (L : Int) (xs : List Int) (n : Nat) : eachR g L xs (n + 1) = eachR g L xs n ++ [g (lastL xs L n)] := by simp [eachR, List.range_succ]
theorem eachL_len (g : List Int → Int) (L : Int) (xs : List Int) : (eachL g L xs).length ≤ 128 := by
  unfold eachL
  split
  · rename_i h
    simp only [lstB, Bool.and_eq_true, inR, decide_eq_true_eq] at h
    rw [eachR_len]; omega
  · simp
theorem lastL_len {xs : List Int} {L : Int} {i : Nat} (hi : i < xs.length) (hL : 1 ≤ L) : lastL xs L i ≠ [] ∧ (lastL xs L i).length ≤ xs.length := by
  unfold lastL
  constructor
  · intro h
    have := congrArg List.length h
    simp at this
    omega
  · simp; omega

def oftG (zs : List Int) : Int := oftR (srt zs)

end Go.Proofs.YtncbkbfkdgggkaaDoor

namespace Go.Proofs.YtncbkbfkdgggkaaDoor
open Go.RowKit

/-- The least of the first k + 1 numbers. -/
def minK (ys : List Int) : Nat → Int
  | 0 => at0 ys 0
  | k + 1 => if at0 ys (k + 1) < minK ys k then at0 ys (k + 1) else minK ys k
def maxK (ys : List Int) : Nat → Int
  | 0 => at0 ys 0
  | k + 1 => if at0 ys (k + 1) > maxK ys k then at0 ys (k + 1) else maxK ys k
def minG (ys : List Int) : Int := minK ys (ys.length - 1)
def maxG (ys : List Int) : Int := maxK ys (ys.length - 1)
theorem minK_best (ys : List Int) : ∀ k, k < ys.length → minK ys k ∈ ys ∧ ∀ j, j ≤ k → minK ys k ≤ at0 ys j
  | 0, h => ⟨by unfold minK at0; rw [List.getElem?_eq_getElem h]; exact List.getElem_mem h, fun j hj => by have e : j = 0 := (by omega); subst e; exact Int.le_refl _⟩
  | k + 1, h => by
    obtain ⟨h1, h2⟩ := minK_best ys k (by omega)
    unfold minK
    split
    · refine ⟨by unfold at0; rw [List.getElem?_eq_getElem h]; exact List.getElem_mem h, fun j hj => ?_⟩
      by_cases e : j = k + 1
      · subst e; exact Int.le_refl _
      · have := h2 j (by omega); omega
    · refine ⟨h1, fun j hj => ?_⟩
      by_cases e : j = k + 1
      · subst e; omega
      · exact h2 j (by omega)
theorem maxK_best (ys : List Int) : ∀ k, k < ys.length → maxK ys k ∈ ys ∧ ∀ j, j ≤ k → at0 ys j ≤ maxK ys k
  | 0, h => ⟨by unfold maxK at0; rw [List.getElem?_eq_getElem h]; exact List.getElem_mem h, fun j hj => by have e : j = 0 := (by omega); subst e; exact Int.le_refl _⟩
  | k + 1, h => by
    obtain ⟨h1, h2⟩ := maxK_best ys k (by omega)
    unfold maxK
    split
    · refine ⟨by unfold at0; rw [List.getElem?_eq_getElem h]; exact List.getElem_mem h, fun j hj => ?_⟩
      by_cases e : j = k + 1
      · subst e; exact Int.le_refl _
      · have := h2 j (by omega); omega
    · refine ⟨h1, fun j hj => ?_⟩
      by_cases e : j = k + 1
      · subst e; omega
      · exact h2 j (by omega)
theorem minG_best {ys : List Int} (h : ys ≠ []) : minG ys ∈ ys ∧ ∀ y ∈ ys, minG ys ≤ y := by
  have hp := List.length_pos_iff.2 h
  obtain ⟨h1, h2⟩ := minK_best ys (ys.length - 1) (by omega)
  refine ⟨h1, fun y hy => ?_⟩
  obtain ⟨j, hj, rfl⟩ := List.getElem_of_mem hy
  have := h2 j (by omega)
  unfold at0 at this
  rw [List.getElem?_eq_getElem hj] at this
  exact this
theorem maxG_best {ys : List Int} (h : ys ≠ []) : maxG ys ∈ ys ∧ ∀ y ∈ ys, y ≤ maxG ys := by
  have hp := List.length_pos_iff.2 h
  obtain ⟨h1, h2⟩ := maxK_best ys (ys.length - 1) (by omega)
  refine ⟨h1, fun y hy => ?_⟩
  obtain ⟨j, hj, rfl⟩ := List.getElem_of_mem hy
  have := h2 j (by omega)
  unfold at0 at this
  rw [List.getElem?_eq_getElem hj] at this
  exact this

set_option maxRecDepth 20000 in
set_option maxHeartbeats 2000000 in
theorem slicesMin_any {a : Option Addr} {c : Nat} {xs : List Int} {w : World} (hr : Rd (Value.int .i64) w a c xs) (hne : xs ≠ []) :
    Calls Tryd.prog 64 #[.slice a xs.length c] w fun e w' => e = .returned (.int .i64 (minG xs)) ∧ w = w' := by
  have hln := hr.len
  have hp := List.length_pos_iff.2 hne
  have z1 : ¬ (xs.length : Int) < 1 := by omega
  have hi0 := rd_idxAt hr und_is siz_is 0 hp 0 rfl
  obtain ⟨z, hz⟩ : ∃ z, at0 xs 0 = z := ⟨_, rfl⟩
  have hc0 := at0_cell hr hp hz
  have HZ : Hid (minK xs 0 = z) := Lib.hid hz
  have HR := Lib.hid hr
  clear hr hne hz
  go_enter Tryd.func64, Tryd.ntmps64
  go_wp2
  go_loop [3, 4] (fun m i => ∃ (k : Nat) (M : Int), k + 1 ≤ xs.length ∧ i = .int .i64 ((k + 1 : Nat) : Int) ∧ m = .int .i64 M ∧ Hid (minK xs k = M)) (fun _ i => xs.length - (intOf i).toNat)
  case atStart => exact ⟨0, z, by omega, rfl, rfl, HZ⟩
  case round =>
    clear HZ hc0 hi0
    obtain ⟨k, M, hk, rfl, rfl, HM⟩ := hrel
    by_cases hlt : k + 1 < xs.length
    · have z2 : (k : Int) + 1 < (xs.length : Int) := by omega
      obtain ⟨x, hx⟩ : ∃ x, at0 xs (k + 1) = x := ⟨_, rfl⟩
      have hcx := at0_cell HR.out hlt hx
      have hix := rd_idxAt HR.out und_is siz_is (k + 1) hlt ((k : Int) + 1) (by omega)
      have ewk : IntKind.i64.wrap ((k : Int) + 1 + 1) = (k : Int) + 1 + 1 := IntWalk.i64_in _ (by omega)
      obtain ⟨M2, hM2⟩ : ∃ M2, (if x < M then x else M) = M2 := ⟨_, rfl⟩
      have HM2 : Hid (minK xs (k + 1) = M2) := Lib.hid (by rw [← hM2, ← hx, ← HM.out]; rfl)
      have hb : ∀ w', (Builtin.min_ #[2, 2] 2 #[.int .i64 M, .int .i64 x]).run Tryd.prog w' = .ok (.int .i64 M2) w' := by
        intro w'
        rw [run_min_int2, hM2]
      clear HM hx hM2
      go_wp2
      go_round
      case rel => exact ⟨k + 1, M2, by omega, by go_num, rfl, HM2⟩
      case measure => simp [intOf]; omega
    · have z2 : ¬ (k : Int) + 1 < (xs.length : Int) := by omega
      go_wp2
      go_ret
      refine ⟨?_, rfl⟩
      unfold minG
      rw [show xs.length - 1 = k by omega, HM.out]
      rfl
end Go.Proofs.YtncbkbfkdgggkaaDoor
