/- Lists in ascending order: what a sort makes of a list, in plain words. -/
import Derived.Test.YtdpolaedfjljmaaWinL
namespace Go.Proofs.Ytdpolaedfjljmaa
open Go.RowKit

theorem eq_of_perm_sorted : ∀ (xs ys : List Int), xs.Perm ys → xs.Pairwise (· ≤ ·) → ys.Pairwise (· ≤ ·) → xs = ys := by
  intro xs
  induction xs with
  | nil => intro ys h _ _; exact (List.Perm.nil_eq h)
  | cons x xs ih =>
    intro ys h h1 h2
    cases ys with
    | nil => exact absurd h.symm (by simp)
    | cons y ys =>
      rw [List.pairwise_cons] at h1 h2
      have hxy : x = y := by
        have hx : x ∈ y :: ys := h.subset (List.mem_cons_self ..)
        have hy : y ∈ x :: xs := h.symm.subset (List.mem_cons_self ..)
        rcases List.mem_cons.1 hx with e | hx
        · exact e
        · rcases List.mem_cons.1 hy with e | hy
          · exact e.symm
          · have a := h1.1 y hy
            have b := h2.1 x hx
            omega
      subst hxy
      rw [ih ys h.cons_inv h1.2 h2.2]

/-- The list in ascending order. -/
def srt (xs : List Int) : List Int := xs.mergeSort fun x y => decide (x ≤ y)
theorem srt_perm (xs : List Int) : (srt xs).Perm xs := List.mergeSort_perm _ _
theorem srt_len (xs : List Int) : (srt xs).length = xs.length := (srt_perm xs).length_eq
theorem srt_pw (xs : List Int) : (srt xs).Pairwise (· ≤ ·) := by
  have := List.pairwise_mergeSort (le := fun x y : Int => decide (x ≤ y)) (by intro a b c h1 h2; simp at *; omega) (by intro a b; simp; omega) xs
  exact this.imp (by intro a b h; simpa using h)
theorem srt_of {xs ys : List Int} (hp : ys.Perm xs) (hs : ys.Pairwise (· ≤ ·)) : ys = srt xs := eq_of_perm_sorted _ _ (hp.trans (srt_perm xs).symm) hs (srt_pw xs)

theorem pw_of_at0 {ys : List Int} (h : ∀ a b, a < b → b < ys.length → at0 ys a ≤ at0 ys b) : ys.Pairwise (· ≤ ·) := by
  rw [List.pairwise_iff_getElem]
  intro i j hi hj hij
  have := h i j hij hj
  simpa [at0, hi, hj] using this

/-- Two neighbours change places. -/
def swp (ys : List Int) (k : Nat) : List Int := (ys.set k (at0 ys (k - 1))).set (k - 1) (at0 ys k)
theorem swp_len (ys : List Int) (k : Nat) : (swp ys k).length = ys.length := by simp [swp]
theorem at0_set (ys : List Int) (k : Nat) (x : Int) (hk : k < ys.length) (j : Nat) : at0 (ys.set k x) j = if j = k then x else at0 ys j := by
  unfold at0
  rw [List.getElem?_set]
  by_cases h : j = k
  · subst h; simp [hk]
  · rw [if_neg (fun e => h e.symm), if_neg h]
theorem at0_swp {ys : List Int} {k : Nat} (h0 : 0 < k) (hk : k < ys.length) (j : Nat) : at0 (swp ys k) j = if j = k - 1 then at0 ys k else if j = k then at0 ys (k - 1) else at0 ys j := by
  unfold swp
  rw [at0_set _ _ _ (by simp; omega), at0_set _ _ _ hk]
theorem swp_perm {ys : List Int} {k : Nat} (h0 : 0 < k) (hk : k < ys.length) : (swp ys k).Perm ys := by
  obtain ⟨A, a, b, B, hA, he⟩ : ∃ A a b B, A.length = k - 1 ∧ ys = A ++ a :: b :: B := by
    refine ⟨ys.take (k - 1), ys[k - 1], ys[k - 1 + 1], ys.drop (k - 1 + 1 + 1), by simp; omega, ?_⟩
    rw [List.getElem_cons_drop, List.getElem_cons_drop, List.take_append_drop]
  have e1 : at0 ys (k - 1) = a := by
    subst he; simp [at0, ← hA]
  have e2 : at0 ys k = b := by
    subst he
    have : k = A.length + 1 := by omega
    subst this
    simp [at0]
  have e3 : swp ys k = A ++ b :: a :: B := by
    unfold swp
    rw [e1, e2, he]
    have : k = A.length + 1 := by omega
    subst this
    simp [List.set_append_right]
  rw [e3, he]
  exact List.Perm.append_left A (List.Perm.swap a b B)

/-- Ascending up to i, but for what stands at k. -/
structure Ins (ys : List Int) (k i : Nat) : Prop where
  a : ∀ p q, p < q → q ≤ i → p ≠ k → q ≠ k → at0 ys p ≤ at0 ys q
  b : ∀ q, k < q → q ≤ i → at0 ys k ≤ at0 ys q
def asc (ys : List Int) (n : Nat) : Prop := ∀ p q, p < q → q < n → at0 ys p ≤ at0 ys q
theorem ins_start {ys : List Int} {i : Nat} (h : asc ys i) : Ins ys i i := ⟨fun p q h1 h2 _ h4 => h p q h1 (by omega), fun q h1 h2 => by omega⟩
theorem ins_step {ys : List Int} {k i : Nat} (h0 : 0 < k) (hk : k ≤ i) (hi : i < ys.length) (h : Ins ys k i) (hl : at0 ys k < at0 ys (k - 1)) : Ins (swp ys k) (k - 1) i := by
  refine ⟨fun p q h1 h2 h3 h4 => ?_, fun q h1 h2 => ?_⟩
  · rw [at0_swp h0 (by omega), at0_swp h0 (by omega), if_neg h3, if_neg h4]
    by_cases hp : p = k
    · rw [if_pos hp, if_neg (by omega)]
      exact h.a (k - 1) q (by omega) h2 (by omega) (by omega)
    · rw [if_neg hp]
      by_cases hq : q = k
      · rw [if_pos hq]
        exact h.a p (k - 1) (by omega) (by omega) hp (by omega)
      · rw [if_neg hq]
        exact h.a p q h1 h2 hp hq
  · rw [at0_swp h0 (by omega), at0_swp h0 (by omega), if_pos rfl, if_neg (by omega)]
    by_cases hq : q = k
    · rw [if_pos hq]; omega
    · rw [if_neg hq]
      exact h.b q (by omega) h2
theorem ins_end {ys : List Int} {k i : Nat} (hk : k ≤ i) (h : Ins ys k i) (he : k = 0 ∨ at0 ys (k - 1) ≤ at0 ys k) : asc ys (i + 1) := by
  intro p q h1 h2
  by_cases hp : p = k
  · rw [hp]; exact h.b q (by omega) (by omega)
  · by_cases hq : q = k
    · have h3 : at0 ys (k - 1) ≤ at0 ys k := by rcases he with e | e <;> omega
      by_cases hpk : p = k - 1
      · rw [hq, hpk]; exact h3
      · have := h.a p (k - 1) (by omega) (by omega) hp (by omega)
        rw [hq]; omega
    · exact h.a p q h1 (by omega) hp hq
theorem asc_one (ys : List Int) : asc ys 1 := fun p q h1 h2 => by omega
theorem asc_zero (ys : List Int) : asc ys 0 := fun p q h1 h2 => by omega

/-- The number that is most often in an ascending list, the first of them: the best one and how often, after k numbers. -/
def oft (ys : List Int) : Nat → Int × Int
  | 0 => (at0 ys 0, 0)
  | k + 1 => if (oft ys k).2 < runK ys (k + 1) then (at0 ys k, runK ys (k + 1)) else oft ys k
def oftR (ys : List Int) : Int := (oft ys ys.length).1
/-- The last ones of an index. -/
def lastL (xs : List Int) (long : Int) (i : Nat) : List Int := (xs.take (i + 1)).drop ((i : Int) - long + 1).toNat
theorem oft_bd (ys : List Int) (k : Nat) : 0 ≤ (oft ys k).2 ∧ (oft ys k).2 ≤ k := by
  induction k with
  | zero => simp [oft]
  | succ k ih =>
    have := runK_bd ys (k + 1)
    unfold oft
    split
    · simp; omega
    · omega

end Go.Proofs.Ytdpolaedfjljmaa
