/- math.Abs on a float64 that is a number; the sign turned. The spec's sine; the point of the unit circle in both texts: walked. -/
import Derived.Test.YtncbkbfkdgggkaaDoorQPk12
import Derived.Laws.BitsAllLaws
import Derived.Laws.Externs
set_option linter.unusedVariables false
set_option linter.unusedSimpArgs false
namespace Go.Proofs.YtncbkbfkdgggkaaDoor
open Go.RowKit
attribute [local go_sem ↓] Go.wp_at_zero Go.wp_at_succ

theorem read64_low (x : Nat) : Ieee.double.read (x % 9223372036854775808) = (match Ieee.double.read x with | .number _ m e => .number false m e | .infinity _ => .infinity false | .nan _ t => .nan false t) := by
  have e1 : Ieee.double.signWeight = 9223372036854775808 := by decide
  unfold Ieee.Format.read
  rw [e1]
  have h1 : x % 9223372036854775808 / 9223372036854775808 % 2 = 0 := by omega
  have h2 : x % 9223372036854775808 % 9223372036854775808 = x % 9223372036854775808 := Nat.mod_mod _ _
  rw [h1, h2]
  generalize x % 9223372036854775808 = r
  simp only
  split
  · rfl
  · split
    · rfl
    · split <;> rfl
theorem abs_low {x : Nat} (hx : isN .f64 x) : isN .f64 (x % 9223372036854775808) ∧ ((0 ≤ val .f64 x → val .f64 (x % 9223372036854775808) = val .f64 x) ∧ (val .f64 x ≤ 0 → val .f64 (x % 9223372036854775808) = - val .f64 x)) := by
  obtain ⟨s, m, e, hd⟩ := hx
  have hd' : Ieee.double.read x = .number s m e := hd
  have h := read64_low x
  rw [hd'] at h
  have h1 : FloatKind.f64.decode (x % 9223372036854775808) = .number false m e := h
  refine ⟨⟨_, _, _, h1⟩, ?_⟩
  unfold val
  rw [hd, h1]
  show (0 ≤ sg s * ((m : Rat) * tp e) → sg false * ((m : Rat) * tp e) = sg s * ((m : Rat) * tp e)) ∧ (sg s * ((m : Rat) * tp e) ≤ 0 → sg false * ((m : Rat) * tp e) = -(sg s * ((m : Rat) * tp e)))
  have h5 := nn m e
  have e0 : sg false * ((m : Rat) * tp e) = (m : Rat) * tp e := by simp only [sg, Bool.false_eq_true, if_false, Rat.one_mul]
  rw [e0]
  rcases sg_cases s ((m : Rat) * tp e) with ⟨_, e'⟩ | ⟨_, e'⟩ <;> rw [e'] <;> constructor <;> intro h <;> grind
theorem read64_flip {x : Nat} (hx : x < 18446744073709551616) : Ieee.double.read (x ^^^ 9223372036854775808) = (Ieee.double.read x).opposite := by
  have e1 : Ieee.double.signWeight = 9223372036854775808 := by decide
  have hp : (9223372036854775808 : Nat) = 2 ^ 63 := by decide
  have h1 : (x ^^^ 9223372036854775808) % 9223372036854775808 = x % 9223372036854775808 := by
    rw [hp, Nat.xor_mod_two_pow, Nat.mod_self, Nat.xor_zero]
  have h2 : (x ^^^ 9223372036854775808) / 9223372036854775808 = (x / 9223372036854775808) ^^^ 1 := by
    rw [hp, ← Nat.shiftRight_eq_div_pow, Nat.shiftRight_xor_distrib, Nat.shiftRight_eq_div_pow, Nat.shiftRight_eq_div_pow, Nat.div_self (Nat.two_pow_pos _)]
  have h3 : x / 9223372036854775808 = 0 ∨ x / 9223372036854775808 = 1 := by omega
  unfold Ieee.Format.read
  rw [e1, h1, h2]
  generalize x % 9223372036854775808 = r
  have h4 : ((x / 9223372036854775808 ^^^ 1) % 2 == 1) = !(x / 9223372036854775808 % 2 == 1) := by rcases h3 with h | h <;> rw [h] <;> decide
  rw [h4]
  simp only
  split
  · rfl
  · split
    · rfl
    · split <;> rfl
theorem neg_val {x : Nat} (hx : isN .f64 x) (hw : x < 18446744073709551616) : isN .f64 (Op.negFloat .f64 x) ∧ val .f64 (Op.negFloat .f64 x) = - val .f64 x ∧ Op.negFloat .f64 x < 18446744073709551616 := by
  obtain ⟨s, m, e, hd⟩ := hx
  have h0 : Op.negFloat .f64 x = x ^^^ 9223372036854775808 := rfl
  have h := read64_flip hw
  have hd' : Ieee.double.read x = .number s m e := hd
  rw [hd'] at h
  have h1 : FloatKind.f64.decode (Op.negFloat .f64 x) = .number (!s) m e := by rw [h0]; exact h
  refine ⟨⟨_, _, _, h1⟩, ?_, ?_⟩
  · unfold val
    rw [h1, hd]
    exact opp_val (d := .number s m e)
  · rw [h0]
    exact Nat.xor_lt_two_pow (n := 64) hw (by decide)

end Go.Proofs.YtncbkbfkdgggkaaDoor

namespace Go.Proofs.YtncbkbfkdgggkaaDoor
open Go.RowKit
attribute [local go_sem ↓] Go.wp_at_zero Go.wp_at_succ

theorem und_f32k : Tryd.prog.underlying 32 = some (.float .f32) := by kernel_rfl
theorem self0 {x : Nat} (hx : isN .f64 x) : fbin .sub .f64 (some x) (some x) = some (fo .sub x x) ∧ isN .f64 (fo .sub x x) ∧ FloatKind.f64.format.order (fo .sub x x) 0 = some .eq := by
  have a := fo_sub hx hx (by grind) (by grind)
  have e : val .f64 x - val .f64 x = 0 := by grind
  rw [e] at a
  have v := a.2.2.exact (rep_zero _)
  exact ⟨a.1, a.2.1, (ord_is a.2.1 n_0).2.1 (by rw [v, v_0])⟩

theorem geQ_b {f : Nat} (h : geQ f = true) : (FloatKind.f64.format.order f 4598175219545276416 == some .gt || FloatKind.f64.format.order f 4598175219545276416 == some .eq) = true ∧ (FloatKind.f64.format.order f 4598175219545276416 = some .gt ∨ FloatKind.f64.format.order f 4598175219545276416 = some .eq) := by
  have h' : (FloatKind.f64.format.order f 4598175219545276416 == some .gt || FloatKind.f64.format.order f 4598175219545276416 == some .eq) = true := h
  refine ⟨h', ?_⟩
  rw [Bool.or_eq_true, beq_iff_eq, beq_iff_eq] at h'
  exact h'
theorem geQ_nb {f : Nat} (h : geQ f = false) : (FloatKind.f64.format.order f 4598175219545276416 == some .gt || FloatKind.f64.format.order f 4598175219545276416 == some .eq) = false ∧ ¬ FloatKind.f64.format.order f 4598175219545276416 = some .gt ∧ ¬ FloatKind.f64.format.order f 4598175219545276416 = some .eq := by
  have h' : (FloatKind.f64.format.order f 4598175219545276416 == some .gt || FloatKind.f64.format.order f 4598175219545276416 == some .eq) = false := h
  refine ⟨h', ?_⟩
  rw [Bool.or_eq_false_iff, beq_eq_false_iff_ne, beq_eq_false_iff_ne] at h'
  exact h'

end Go.Proofs.YtncbkbfkdgggkaaDoor
