/- CountWindow and BoundsOfWindow, both texts. -/
import Derived.Test.YtockifchghllhaaDoorWinC
namespace Go.Proofs.YtockifchghllhaaDoor
open Go.RowKit

theorem times_mono {ts : List Int} (h : ∀ k, k < ts.length → timeOk ts k = true) : ∀ d i, i + d < ts.length → at0 ts i ≤ at0 ts (i + d) := by
  intro d
  induction d with
  | zero => intro i _; exact Int.le_refl _
  | succ d ih =>
    intro i hi
    have h1 := ih i (by omega)
    have h2 := h (i + (d + 1)) hi
    simp only [timeOk, Bool.and_eq_true, Bool.or_eq_true, beq_iff_eq, decide_eq_true_eq] at h2
    rcases h2.2 with h3 | h3
    · omega
    · rw [show i + (d + 1) - 1 = i + d by omega] at h3
      omega
theorem kept_iff {ts : List Int} (h : ∀ k, k < ts.length → timeOk ts k = true) (c : Int) : ∀ j, j < ts.length → (c < at0 ts j ↔ keptI ts c ≤ j) := by
  intro j hj
  constructor
  · intro hc
    rcases Nat.lt_or_ge j (keptI ts c) with hlt | hge
    · have h1 := List.not_of_lt_findIdx (p := fun x => decide (c < x)) (xs := ts) (i := j) hlt
      have h2 : at0 ts j = ts[j] := by simp [at0, hj]
      rw [h2] at hc
      simp at h1
      omega
    · exact hge
  · intro hge
    have hF : keptI ts c < ts.length := by omega
    have h1 := List.findIdx_getElem (p := fun x => decide (c < x)) (xs := ts) (w := hF)
    have h2 : at0 ts (keptI ts c) = ts[keptI ts c] := by simp [at0, hF]
    have h3 := times_mono h (j - keptI ts c) (keptI ts c) (by omega)
    rw [show keptI ts c + (j - keptI ts c) = j by omega, h2] at h3
    simp only [decide_eq_true_eq] at h1
    exact Int.lt_of_lt_of_le h1 h3
theorem keep_drop {ts xs : List Int} {c : Int} {F : Nat} (hF : ∀ j, j < ts.length → (c < at0 ts j ↔ F ≤ j)) (hx : xs.length = ts.length) : ∀ k, k ≤ ts.length → keepK ts xs c k = (xs.take k).drop F := by
  intro k
  induction k with
  | zero => intro _; simp [keepK]
  | succ k ih =>
    intro hk
    have h1 := ih (by omega)
    have hkx : k < xs.length := by omega
    by_cases hc : c < at0 ts k
    · rw [keepK_yes hc, h1, List.take_add_one, List.getElem?_eq_getElem hkx]
      have hle := (hF k (by omega)).1 hc
      have e : at0 xs k = xs[k] := by simp [at0, hkx]
      rw [List.drop_append_of_le_length (by simp; omega), e]
      rfl
    · rw [keepK_no hc, h1]
      have hlt : k < F := by
        rcases Nat.lt_or_ge k F with h | h
        · exact h
        · exact absurd ((hF k (by omega)).2 h) hc
      rw [List.drop_eq_nil_of_le (by simp; omega), List.drop_eq_nil_of_le (by simp; omega)]
theorem keep_all {L P : Int} {ts ss : List Int} (h : winB L P ts ss = true) (c : Int) : keepK ts ts c ts.length = ts.drop (keptI ts c) ∧ keepK ts ss c ts.length = ss.drop (keptI ts c) := by
  obtain ⟨_, _, _, _, _, hl, ht, _⟩ := winB_parts h
  have hF := kept_iff ht c
  constructor
  · rw [keep_drop hF rfl _ (Nat.le_refl _), List.take_length]
  · rw [keep_drop hF hl _ (Nat.le_refl _), ← hl, List.take_length]

def countV (S : List Int) : Int := if S.length = 0 then 0 else wrap64 (sumW S - at0 S 0 / 2)
def lowV (S : List Int) : Int := if S.length = 0 then 0 else wrap64 (wrap64 (sumW S - at0 S 0) + 1)
def highV (S : List Int) : Int := if S.length = 0 then 0 else sumW S
def keptS (ts ss : List Int) (c : Int) : List Int := ss.drop (keptI ts c)
def winR (V : List Int → Int) (L P : Int) (ts ss : List Int) (t : Int) : Int := if lateB L P ts ss t then V (keptS ts ss (t - L)) else 0

/-- What a call that answers of a window needs of it. -/
theorem late_parts {L P : Int} {ts ss : List Int} {t : Int} (h : lateB L P ts ss t = true) : winB L P ts ss = true ∧ 0 ≤ t ∧ t ≤ 1000000 := by
  simp only [lateB, Bool.and_eq_true] at h
  have := (inR_eq _ _ _).1 h.1.2
  exact ⟨h.1.1, this⟩
theorem size_first {L P : Int} {ts ss : List Int} (h : winB L P ts ss = true) (c : Int) (h0 : 0 < (keptS ts ss c).length) : 1 ≤ at0 (keptS ts ss c) 0 ∧ at0 (keptS ts ss c) 0 ≤ 1048576 := by
  obtain ⟨_, _, _, _, _, hl, _, hs⟩ := winB_parts h
  have h1 : keptI ts c < ss.length := by simp [keptS] at h0; omega
  have h2 := hs (keptI ts c) (by omega)
  simp only [sizeOk, Bool.and_eq_true] at h2
  have h3 := isPow_bd h2.1.1
  have h4 : at0 (keptS ts ss c) 0 = at0 ss (keptI ts c) := by simp [at0, keptS]
  rw [h4]; exact h3

end Go.Proofs.YtockifchghllhaaDoor
