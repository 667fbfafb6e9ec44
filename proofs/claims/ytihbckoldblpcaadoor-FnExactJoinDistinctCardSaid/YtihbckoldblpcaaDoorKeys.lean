/- Lists of keys, in both texts. -/
import Derived.Test.YtihbckoldblpcaaDoorRow
namespace Go.Proofs.YtihbckoldblpcaaDoor
open Go.RowKit

def keysB (xs : List Int) : Bool := xs.all isKey
def saltsB (xs : List Int) : Bool := decide (1 ≤ xs.length) && decide (xs.length ≤ 32) && keysB xs
theorem saltsB_len {xs : List Int} (h : saltsB xs = true) : xs.length ≤ 32 := by simp [saltsB] at h; exact h.1.2
theorem keysB_get {xs : List Int} (h : keysB xs = true) (k : Nat) (hk : k < xs.length) : 0 ≤ xs[k] ∧ xs[k] < 4294967296 :=
  isKey_bd ((List.all_eq_true.1 h) _ (List.getElem_mem hk))
theorem saltsB_keys {xs : List Int} (h : saltsB xs = true) : keysB xs = true := by simp [saltsB] at h; exact h.2

theorem areAllKeys1_any {x : Int} {w : World} : Calls Tryd.prog 29 #[.int .i64 x] w fun e w' => e = .returned (.bool (!isKey x)) ∧ Below w.heap.size w w' := by
  go_enter Tryd.func29, Tryd.ntmps29
  go_wp2_with fail
  refine implIsKey_any.mono ?_
  rintro e w1 ⟨rfl, rfl⟩
  go_wp2
  go_ret
  exact ⟨rfl, Below.refl _ _⟩

theorem call_areAllKeys1 (vs : Array Value) (w : World) : (callFunc 29 vs).run Tryd.prog w = .ok (.enter 29 vs) w := by kernel_rfl

theorem areAllKeys_any {a : Option Addr} {c : Nat} {xs : List Int} {w : World} (hr : Rd (Value.int .i64) w a c xs) :
    Calls Tryd.prog 17 #[.slice a xs.length c] w fun e w' => e = .returned (.bool (keysB xs)) ∧ Below w.heap.size w w' := by
  have HC := Lib.hid (containsFunci_any a c xs w 29 #[] (fun x => !isKey x) call_areAllKeys1 hr (fun k h wr hb => by simpa using areAllKeys1_any))
  go_enter Tryd.func17, Tryd.ntmps17
  go_wp2_with fail
  refine HC.out.mono ?_
  rintro e w1 ⟨rfl, hb1⟩
  go_wp2
  go_ret
  refine ⟨ret_bool ?_, hb1⟩
  rw [Bool.eq_iff_iff]; simp [keysB, List.all_eq_true, List.any_eq_true]

/-- The reference looks at the keys only of a list that is not too long. -/
theorem l02Keys_any {a : Option Addr} {c : Nat} {xs : List Int} {w : World} (hr : Rd (Value.int .i64) w a c xs) :
    Calls Tryd.prog 13 #[.slice a xs.length c] w fun e w' => e = .returned (.bool (decide (xs.length ≤ 256) && keysB xs)) ∧ Below w.heap.size w w' := by
  have hln := hr.len
  by_cases h256 : xs.length ≤ 256
  · have hd : decide ((xs.length : Int) ≤ 256) = true := by simp; omega
    have hd2 : decide (xs.length ≤ 256) = true := by simp; omega
    rw [hd2]
    clear hd2
    go_enter Tryd.func13, Tryd.ntmps13
    go_wp2
    go_loopw [3] (fun i wr => ∃ k : Nat, k ≤ xs.length ∧ i = .int .i64 k ∧ (∀ x ∈ xs.take k, (!isKey x) = false) ∧ Below w.heap.size w wr) (fun i _ => xs.length - (intOf i).toNat)
    case atStart => exact ⟨0, Nat.zero_le _, rfl, by simp, Below.refl _ _⟩
    case round =>
      obtain ⟨k, hk, rfl, hp, hb⟩ := hrel
      have HP := Lib.hid hp
      clear hp
      by_cases hlt : k < xs.length
      · have hxr := hr.below hb (Nat.le_refl _)
        have hix := hxr.idx und_is siz_is
        have hcx := hxr.cell k hlt
        simp only [List.getElem?_eq_getElem hlt, Option.getD_some] at hcx
        go_wp2_with fail
        refine l02Key_any.mono ?_
        rintro e w1 ⟨rfl, rfl⟩
        by_cases hx : isKey xs[k] = true
        · have HX := Lib.hid hx
          rw [hx]
          clear hx
          go_wp2
          go_roundw
          case rel => exact ⟨k + 1, by omega, by go_num, snoc_none hlt HP.out (by rw [HX.out]; rfl), hb⟩
          case measure => simp [intOf]; omega
        · have hx' : isKey xs[k] = false := by simpa using hx
          have HX := Lib.hid hx'
          rw [hx']
          clear hx hx'
          go_wp2
          go_ret
          refine ⟨ret_bool ?_, hb⟩
          symm
          rw [Bool.true_and]
          unfold keysB
          rw [List.all_eq_false]; exact ⟨_, List.getElem_mem hlt, by rw [HX.out]; simp⟩
      · obtain rfl : k = xs.length := by omega
        go_wp2
        go_ret
        refine ⟨ret_bool ?_, hb⟩
        have := HP.out
        symm
        simpa [keysB] using this
  · have hd : decide ((xs.length : Int) ≤ 256) = false := by simp; omega
    have hd2 : decide (xs.length ≤ 256) = false := by simp; omega
    have hbig : 256 < xs.length := by omega
    rw [hd2]
    clear hd2
    go_enter Tryd.func13, Tryd.ntmps13
    go_wp2
    go_loopw [3] (fun i wr => i = .int .i64 0 ∧ w = wr) (fun i _ => 0)
    case atStart => exact ⟨rfl, rfl⟩
    case round =>
      obtain ⟨rfl, rfl⟩ := hrel
      go_wp2
      go_ret
      exact ⟨ret_bool (by simp), Below.refl _ _⟩

end Go.Proofs.YtihbckoldblpcaaDoor
