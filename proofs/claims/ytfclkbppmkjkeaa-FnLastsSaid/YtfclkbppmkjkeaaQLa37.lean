/- What is told of one index of a list with its last ones: plain. -/
import Derived.Test.YtfclkbppmkjkeaaQLa27
import Derived.Test.YtfclkbppmkjkeaaQLa33
import Derived.Test.YtfclkbppmkjkeaaQLa24
import Derived.Test.YtfclkbppmkjkeaaQLa32
import Derived.Test.YtfclkbppmkjkeaaQLa19
namespace Go.Proofs.Ytfclkbppmkjkeaa
open Go.RowKit

theorem minG_fold {ys : List Int} {a : Int} (h : a ∈ ys) : ys.foldl min a = minG ys := by
  have hne : ys ≠ [] := by rintro rfl; cases h
  obtain ⟨m1, m2⟩ := minG_best hne
  obtain ⟨l1, l2⟩ := foldl_min_le ys a
  have h3 := l2 _ m1
  rcases foldl_min_mem ys a with e | e
  · have h4 := m2 a h; omega
  · have h4 := m2 _ e; omega
theorem maxG_fold {ys : List Int} {a : Int} (h : a ∈ ys) : ys.foldl max a = maxG ys := by
  have hne : ys ≠ [] := by rintro rfl; cases h
  obtain ⟨m1, m2⟩ := maxG_best hne
  obtain ⟨l1, l2⟩ := foldl_max_le ys a
  have h3 := l2 _ m1
  rcases foldl_max_mem ys a with e | e
  · have h4 := m2 a h; omega
  · have h4 := m2 _ e; omega
section
variable {W : List Int} {j : Nat} {y : Int}
theorem take_next (h : W[j]? = some y) : W.take (j + 1) = W.take j ++ [y] := by rw [List.take_add_one, h]; rfl
theorem low_next (h : W[j]? = some y) (a : Int) : (W.take (j + 1)).foldl min a = if y < (W.take j).foldl min a then y else (W.take j).foldl min a := by
  rw [take_next h, List.foldl_append]
  show min _ y = _
  split <;> omega
theorem high_next (h : W[j]? = some y) (a : Int) : (W.take (j + 1)).foldl max a = if y > (W.take j).foldl max a then y else (W.take j).foldl max a := by
  rw [take_next h, List.foldl_append]
  show max _ y = _
  split <;> omega
theorem sum_next (h : W[j]? = some y) : (W.take (j + 1)).sum = (W.take j).sum + y := by
  rw [take_next h, List.sum_append]; simp
theorem cnt_next (h : W[j]? = some y) (p : Int → Bool) : (W.take (j + 1)).countP p = (W.take j).countP p + if p y then 1 else 0 := by
  rw [take_next h, List.countP_append, List.countP_singleton]
end

/-- The mean in double precision. -/
def meanQ (W : List Int) : Nat := fo .quo (floatOfInt .f64 W.sum) (floatOfInt .f64 (W.length : Int))
structure MeanOk (W : List Int) : Prop where
  N : isN .f32 (meanF W)
  q : fbin .quo .f64 (some (floatOfInt .f64 W.sum)) (some (floatOfInt .f64 (W.length : Int))) = some (meanQ W)
  gap : GapOk (wid (meanF W)) (meanQ W)
  small : (FloatKind.f64.format.order (gapF (wid (meanF W)) (meanQ W)) c001 == some .gt) = false
theorem meanOk_of {W : List Int} (h : ∀ z ∈ W, z.natAbs ≤ 6) (hl : W.length ≤ 60) (h0 : W ≠ []) : MeanOk W := by
  obtain ⟨_, m1, x, hx, x1, x2, rn⟩ := mean_ok h hl h0
  have hs := sum_natAbs W h
  have hb : (2 : Nat) ^ (fB .f64 + 1) = 9007199254740992 := by decide
  obtain ⟨i1, i2⟩ := ofInt_val (k := .f64) (n := W.sum) (by rw [hb]; omega)
  obtain ⟨j1, j2⟩ := ofInt_val (k := .f64) (n := (W.length : Int)) (by rw [hb]; omega)
  rw [Rat.intCast_natCast] at j2
  have hcp : (0 : Rat) < (W.length : Rat) := Rat.natCast_pos.2 (List.length_pos_iff.2 h0)
  have q := fo_quo i1 j1 (by rw [j2]; grind) (by rw [i2, j2]; exact hx) (by grind) (by grind)
  have n1 := rn.near32 (by grind) (by grind)
  have n2 := q.2.2.near64 (by grind) (by grind)
  obtain ⟨w1, w2, _⟩ := wid_val m1
  exact ⟨m1, q.1, gap_ok w1 q.2.1 (by rw [w2]; show _ ≤ _ - val .f64 (fo .quo _ _); grind) (by rw [w2]; show _ - val .f64 (fo .quo _ _) ≤ _; grind),
    gap_small w1 q.2.1 (by rw [w2]; show _ ≤ _ - val .f64 (fo .quo _ _); grind) (by rw [w2]; show _ - val .f64 (fo .quo _ _) ≤ _; grind)⟩

def cHalf64 : Nat := 4602678819172646912
theorem n_half64 : isN .f64 cHalf64 := isN_of (by decide +kernel)
theorem v_half64 : val .f64 cHalf64 = 1 / 2 := by decide +kernel
def smD (zs : List Int) (i : Nat) : Nat := fo .sub (wid (fY (at0 zs (i + 1)))) (wid (smF cHalf zs i))
def smM (zs : List Int) (i : Nat) : Nat := fo .mul cHalf64 (smD zs i)
def smA (zs : List Int) (i : Nat) : Nat := fo .add (wid (smF cHalf zs i)) (smM zs i)
structure StepOk (zs : List Int) (i : Nat) : Prop where
  N0 : isN .f32 (smF cHalf zs i)
  N1 : isN .f32 (smF cHalf zs (i + 1))
  Ny : isN .f32 (fY (at0 zs (i + 1)))
  d : fbin .sub .f64 (some (wid (fY (at0 zs (i + 1))))) (some (wid (smF cHalf zs i))) = some (smD zs i)
  m : fbin .mul .f64 (some cHalf64) (some (smD zs i)) = some (smM zs i)
  a : fbin .add .f64 (some (wid (smF cHalf zs i))) (some (smM zs i)) = some (smA zs i)
  gap : GapOk (wid (smF cHalf zs (i + 1))) (smA zs i)
  small : (FloatKind.f64.format.order (gapF (wid (smF cHalf zs (i + 1))) (smA zs i)) c001 == some .gt) = false
theorem stepOk_of {zs : List Int} (h : ∀ z ∈ zs, z.natAbs ≤ 6) {i : Nat} (hi : i + 1 < zs.length) : StepOk zs i := by
  obtain ⟨i1, i2, i3⟩ := sm_half h i (by omega)
  obtain ⟨k1, k2, k3⟩ := sm_half h (i + 1) hi
  have h6 := at0_mem6 h hi
  obtain ⟨s, u, l⟩ := half_step i1 i2 i3 h6
  obtain ⟨y1, y2⟩ := fY_ok (z := at0 zs (i + 1)) (by omega)
  have b1 : (-6 : Rat) ≤ (at0 zs (i + 1) : Rat) := rat_le_of (a := -6) (by omega)
  have b2 : (at0 zs (i + 1) : Rat) ≤ 6 := rat_le_of (b := 6) (by omega)
  obtain ⟨w1, w2, _⟩ := wid_val i1
  obtain ⟨x1, x2, _⟩ := wid_val k1
  obtain ⟨v1, v2, _⟩ := wid_val y1
  rw [y2] at v2
  have e : smF cHalf zs (i + 1) = fo3 .add (smF cHalf zs i) (fo3 .mul cHalf (fo3 .sub (fY (at0 zs (i + 1))) (smF cHalf zs i))) := rfl
  rw [← e] at u l
  generalize (at0 zs (i + 1) : Rat) = Y at *
  have a1 := fo_sub v1 w1 (by rw [v2, w2]; grind) (by rw [v2, w2]; grind)
  rw [v2, w2] at a1
  have n1 := a1.2.2.near64 (by grind) (by grind)
  have a2 := fo_mul n_half64 a1.2.1 (by rw [v_half64]; grind) (by rw [v_half64]; grind)
  rw [v_half64] at a2
  have n2 := a2.2.2.near64 (by grind) (by grind)
  have a3 := fo_add w1 a2.2.1 (by rw [w2]; grind) (by rw [w2]; grind)
  rw [w2] at a3
  have n3 := a3.2.2.near64 (by grind) (by grind)
  have g1 : -(8 / 10000) ≤ val .f64 (wid (smF cHalf zs (i + 1))) - val .f64 (smA zs i) := by rw [x2]; show _ ≤ _ - val .f64 (fo .add _ _); unfold smM smD; grind
  have g2 : val .f64 (wid (smF cHalf zs (i + 1))) - val .f64 (smA zs i) ≤ 8 / 10000 := by rw [x2]; show _ - val .f64 (fo .add _ _) ≤ _; unfold smM smD; grind
  exact ⟨i1, k1, y1, a1.1, a2.1, a3.1, gap_ok x1 a3.2.1 (by grind) (by grind), gap_small x1 a3.2.1 g1 g2⟩

theorem ord32_eq {a b : Nat} (ha : isN .f32 a) (hb : isN .f32 b) (h : val .f32 a = val .f32 b) : FloatKind.f32.format.order a b = some .eq := by
  have h1 : FloatKind.f32.format.order a b = _ := order_val ha hb
  rw [h1, if_neg (by rw [h]; exact Rat.lt_irrefl), if_pos h]
theorem still_ok {zs : List Int} (h : ∀ z ∈ zs, z.natAbs ≤ 6) {i : Nat} (hi : i < zs.length) : FloatKind.f32.format.order (smF cOne zs i) (fY (at0 zs i)) = some .eq := by
  obtain ⟨s1, s2⟩ := sm_one h i hi
  obtain ⟨y1, y2⟩ := fY_ok (z := at0 zs i) (by have := at0_mem6 h hi; omega)
  exact ord32_eq s1 y1 (by rw [s2, y2])
theorem first_ok {zs : List Int} (h : ∀ z ∈ zs, z.natAbs ≤ 6) (hi : 0 < zs.length) : FloatKind.f32.format.order (smF cHalf zs 0) (fY (at0 zs 0)) = some .eq := by
  obtain ⟨y1, y2⟩ := fY_ok (z := at0 zs 0) (by have := at0_mem6 h hi; omega)
  exact ord32_eq y1 y1 rfl

end Go.Proofs.Ytfclkbppmkjkeaa
