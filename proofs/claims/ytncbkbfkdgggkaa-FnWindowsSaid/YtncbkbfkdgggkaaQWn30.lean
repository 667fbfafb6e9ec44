/- OftenInWindow's number of one window, in the program's text. A number for the last ones of every index of a list: eachLast in the program's text, for whatever closure. -/
import Derived.Test.YtncbkbfkdgggkaaQWn14
import Derived.Test.YtncbkbfkdgggkaaQWn1
import Derived.Test.YtncbkbfkdgggkaaQWn5
import Derived.IntWalk
import Derived.Laws.Small
import Derived.Test.YtncbkbfkdgggkaaQWn3
namespace Go.Proofs.Ytncbkbfkdgggkaa
open Go.RowKit

theorem oft_go {ys : List Int} {k : Nat} (h : (oft ys k).2 < runK ys (k + 1)) : oft ys (k + 1) = (at0 ys k, runK ys (k + 1)) := by rw [oft, if_pos h]
theorem oft_stay {ys : List Int} {k : Nat} (h : ¬ (oft ys k).2 < runK ys (k + 1)) : oft ys (k + 1) = oft ys k := by rw [oft, if_neg h]

end Go.Proofs.Ytncbkbfkdgggkaa

namespace Go.Proofs.Ytncbkbfkdgggkaa
open Go.RowKit

theorem isStream_any {n : Nat} {w : World} : Calls Try.prog 26 #[.int .i64 n] w fun e w' => e = .returned (.bool (inR n 1 128)) ∧ w = w' := by
  by_cases h1 : 1 ≤ n
  · have hd : decide ((1 : Int) ≤ (n : Int)) = true := by simp; omega
    have hdn : decide (1 ≤ n) = true := by simp; omega
    have hdn2 : decide (0 < n) = true := by simp; omega
    by_cases h2 : n ≤ 128
    · have he : inR n 1 128 = true := by simp [inR]; omega
      rw [he]
      go_enter Try.func26, Try.ntmps26
      go_wp2
      go_ret
      exact ⟨ret_bool (show decide ((n : Int) ≤ 128) = _ by simp; omega), rfl⟩
    · have he : inR n 1 128 = false := by simp [inR]; omega
      rw [he]
      go_enter Try.func26, Try.ntmps26
      go_wp2
      go_ret
      exact ⟨ret_bool (show decide ((n : Int) ≤ 128) = _ by simp; omega), rfl⟩
  · have hd : decide ((1 : Int) ≤ (n : Int)) = false := by simp; omega
    have hdn : decide (1 ≤ n) = false := by simp; omega
    have hdn2 : decide (0 < n) = false := by simp; omega
    have he : inR n 1 128 = false := by simp [inR]; omega
    rw [he]
    go_enter Try.func26, Try.ntmps26
    go_wp2
    go_ret
    exact ⟨rfl, rfl⟩

/-- What is a list with its windows. -/
def lstB (L : Int) (xs : List Int) : Bool := inR xs.length 1 128 && xs.all (fun x => inR x (-1000000) 1000000) && inR L 1 128
def eachR (g : List Int → Int) (L : Int) (xs : List Int) (n : Nat) : List Int := (List.range n).map fun i => g (lastL xs L i)
def eachL (g : List Int → Int) (L : Int) (xs : List Int) : List Int := if lstB L xs then eachR g L xs xs.length else []
theorem eachR_len (g : List Int → Int) (L : Int) (xs : List Int) (n : Nat) : (eachR g L xs n).length = n := by simp [eachR]
theorem eachR_succ (g : List Int → Int) (L : Int) (xs : List Int) (n : Nat) : eachR g L xs (n + 1) = eachR g L xs n ++ [g (lastL xs L n)] := by simp [eachR, List.range_succ]
theorem eachL_len (g : List Int → Int) (L : Int) (xs : List Int) : (eachL g L xs).length ≤ 128 := by
  unfold eachL
  split
  · rename_i h
    simp only [lstB, Bool.and_eq_true, inR, decide_eq_true_eq] at h
    rw [eachR_len]; omega
  · simp
theorem lastL_len {xs : List Int} {L : Int} {i : Nat} (hi : i < xs.length) (hL : 1 ≤ L) : lastL xs L i ≠ [] ∧ (lastL xs L i).length ≤ xs.length := by
  unfold lastL
  constructor
  · intro h
    have := congrArg List.length h
    simp at this
    omega
  · simp; omega

def oftG (zs : List Int) : Int := oftR (srt zs)

end Go.Proofs.Ytncbkbfkdgggkaa
