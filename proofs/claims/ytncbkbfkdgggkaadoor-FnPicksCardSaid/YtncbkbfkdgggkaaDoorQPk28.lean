/- The distance of two doubles: the helper r8Gap of the laws. -/
import Derived.Test.YtncbkbfkdgggkaaDoorQPk6
import Derived.Test.YtncbkbfkdgggkaaDoorQPk21
set_option linter.unusedVariables false
set_option linter.unusedSimpArgs false
namespace Go.Proofs.YtncbkbfkdgggkaaDoor
open Go.RowKit

def gapF (a b : Nat) : Nat := match FloatKind.f64.format.order (fo .sub a b) (fo .sub b a) with
  | some .lt => fo .sub b a
  | some .gt => fo .sub a b
  | _ => if (FloatKind.f64.decode (fo .sub a b)).neg then fo .sub b a else fo .sub a b
theorem gapF_cases (a b : Nat) : gapF a b = fo .sub b a ∨ gapF a b = fo .sub a b := by
  unfold gapF
  split
  · exact .inl rfl
  · exact .inr rfl
  · split
    · exact .inl rfl
    · exact .inr rfl
def c001 : Nat := 4562254508917369340
theorem n_c001 : isN .f64 c001 := isN_of (by decide +kernel)
theorem v_c001 : 9 / 10000 < val .f64 c001 := by decide +kernel
structure GapOk (a b : Nat) : Prop where
  d : fbin .sub .f64 (some a) (some b) = some (fo .sub a b)
  e : fbin .sub .f64 (some b) (some a) = some (fo .sub b a)
  dN : isN .f64 (fo .sub a b)
  eN : isN .f64 (fo .sub b a)
theorem gap_ok {a b : Nat} (ha : isN .f64 a) (hb : isN .f64 b) (h1 : -1024 ≤ val .f64 a - val .f64 b) (h2 : val .f64 a - val .f64 b ≤ 1024) : GapOk a b := by
  have d := fo_sub ha hb h1 h2
  have e := fo_sub hb ha (by grind) (by grind)
  exact ⟨d.1, e.1, d.2.1, e.2.1⟩
theorem gap_small {a b : Nat} (ha : isN .f64 a) (hb : isN .f64 b) (h1 : -(8 / 10000) ≤ val .f64 a - val .f64 b) (h2 : val .f64 a - val .f64 b ≤ 8 / 10000) : (FloatKind.f64.format.order (gapF a b) c001 == some .gt) = false := by
  have d := fo_sub ha hb (by grind) (by grind)
  have e := fo_sub hb ha (by grind) (by grind)
  have nd := d.2.2.near64 (by grind) (by grind)
  have ne := e.2.2.near64 (by grind) (by grind)
  have hc := v_c001
  rcases gapF_cases a b with h | h
  · rw [h, (ord_is e.2.1 n_c001).1 (by grind)]; rfl
  · rw [h, (ord_is d.2.1 n_c001).1 (by grind)]; rfl
theorem run_max_gap {a b : Nat} (h : GapOk a b) (ts : Array TypeId) (t : TypeId) (w : World) : (Builtin.max_ ts t #[.float .f64 (fo .sub a b), .float .f64 (fo .sub b a)]).run Tryd.prog w = .ok (.float .f64 (gapF a b)) w := by
  obtain ⟨o, ho⟩ : ∃ o, FloatKind.f64.format.order (fo .sub a b) (fo .sub b a) = some o := ⟨_, order_val h.dN h.eN⟩
  unfold gapF
  simp only [Builtin.max_, List.foldlM_cons, List.foldlM_nil, Builtin.max2, ho]
  cases o <;> simp
theorem r8Gap_any {a b : Nat} {w : World} (h : GapOk a b) : Calls Tryd.prog 11 #[.float .f64 a, .float .f64 b] w fun e w' => e = .returned (.float .f64 (gapF a b)) ∧ w = w' := by
  have a1 := ar h.d 31
  have a2 := ar h.e 31
  have a3 := run_max_gap h
  generalize gapF a b = g at *
  generalize fo .sub a b = d at *
  generalize fo .sub b a = e at *
  go_enter Tryd.func11, Tryd.ntmps11
  go_wp2
  go_ret
  exact ⟨rfl, rfl⟩

end Go.Proofs.YtncbkbfkdgggkaaDoor
