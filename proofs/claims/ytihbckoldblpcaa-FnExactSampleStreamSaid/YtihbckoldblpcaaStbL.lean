/- A stable sort in place, in plain words: tags in ascending order, equal keys never turned. -/
import Derived.Test.YtihbckoldblpcaaSortL
namespace Go.Proofs.Ytihbckoldblpcaa
open Go.RowKit

/-- Ascending from a to b. -/
def ascR (ys : List Int) (a b : Nat) : Prop := ∀ p q, a ≤ p → p < q → q < b → at0 ys p ≤ at0 ys q
/-- Two tags that stand the wrong way round have different keys, in the right way. -/
def Stab (K : Int → Int) (ys : List Int) : Prop := ∀ p q, p < q → q < ys.length → at0 ys q < at0 ys p → K (at0 ys q) < K (at0 ys p)
/-- Turned between a and b alone. -/
structure RP (a b : Nat) (xs ys : List Int) : Prop where
  len : ys.length = xs.length
  perm : ys.Perm xs
  out : ∀ k, k < a ∨ b ≤ k → at0 ys k = at0 xs k
  inn : ∀ k, a ≤ k → k < b → ∃ j, a ≤ j ∧ j < b ∧ at0 ys k = at0 xs j

theorem RP.refl (a b : Nat) (xs : List Int) : RP a b xs xs := ⟨rfl, List.Perm.refl _, fun _ _ => rfl, fun k h1 h2 => ⟨k, h1, h2, rfl⟩⟩
theorem RP.trans {a b : Nat} {xs ys zs : List Int} (h : RP a b xs ys) (g : RP a b ys zs) : RP a b xs zs :=
  ⟨g.len.trans h.len, g.perm.trans h.perm, fun k hk => (g.out k hk).trans (h.out k hk), fun k h1 h2 => by
    obtain ⟨j, j1, j2, e⟩ := g.inn k h1 h2
    obtain ⟨i, i1, i2, e2⟩ := h.inn j j1 j2
    exact ⟨i, i1, i2, e.trans e2⟩⟩
theorem RP.wide {a b c d : Nat} {xs ys : List Int} (h : RP a b xs ys) (ha : c ≤ a) (hb : b ≤ d) : RP c d xs ys :=
  ⟨h.len, h.perm, fun k hk => h.out k (by omega), fun k h1 h2 => by
    by_cases hk : a ≤ k ∧ k < b
    · obtain ⟨j, j1, j2, e⟩ := h.inn k hk.1 hk.2
      exact ⟨j, by omega, by omega, e⟩
    · exact ⟨k, h1, h2, h.out k (by omega)⟩⟩

theorem RP.swp {a b k : Nat} (ys : List Int) (h0 : a < k) (hk : k < b) (hb : b ≤ ys.length) : RP a b ys (swp ys k) :=
  ⟨swp_len _ _, swp_perm (by omega) (by omega), fun j hj => by rw [at0_swp (by omega) (by omega), if_neg (by omega), if_neg (by omega)],
   fun j h1 h2 => by
    rw [at0_swp (by omega) (by omega)]
    split
    · exact ⟨k, by omega, by omega, rfl⟩
    · split
      · exact ⟨k - 1, by omega, by omega, rfl⟩
      · exact ⟨j, h1, h2, rfl⟩⟩

/-- What is ascending where it was turned keeps the tags' way. -/
theorem Stab.asc {K : Int → Int} {a b : Nat} {xs ys : List Int} (h : Stab K xs) (hr : RP a b xs ys) (hs : ascR ys a b) (hb : b ≤ xs.length) : Stab K ys := by
  intro p q hpq hq hlt
  rw [hr.len] at hq
  by_cases hp : a ≤ p ∧ p < b
  · by_cases hq2 : a ≤ q ∧ q < b
    · have := hs p q hp.1 hpq hq2.2
      omega
    · obtain ⟨j, j1, j2, e⟩ := hr.inn p hp.1 hp.2
      have e2 := hr.out q (by omega)
      rw [e, e2] at hlt ⊢
      exact h j q (by omega) (by omega) hlt
  · have e := hr.out p (by omega)
    by_cases hq2 : a ≤ q ∧ q < b
    · obtain ⟨j, j1, j2, e2⟩ := hr.inn q hq2.1 hq2.2
      rw [e, e2] at hlt ⊢
      exact h p j (by omega) (by omega) hlt
    · have e2 := hr.out q (by omega)
      rw [e, e2] at hlt ⊢
      exact h p q hpq (by omega) hlt

/-- Keys follow the tags. -/
def Mono (K : Int → Int) : Prop := ∀ x y, x ≤ y → K x ≤ K y
theorem Stab.cmp {K : Int → Int} (hK : Mono K) {ys : List Int} (h : Stab K ys) {p q : Nat} (hpq : p < q) (hq : q < ys.length) : decide (K (at0 ys q) < K (at0 ys p)) = decide (at0 ys q < at0 ys p) := by
  by_cases hl : at0 ys q < at0 ys p
  · rw [decide_eq_true hl, decide_eq_true (h p q hpq hq hl)]
  · have := hK (at0 ys p) (at0 ys q) (by omega)
    rw [decide_eq_false hl, decide_eq_false (by omega)]

/-! Insertion -/
/-- Ascending from a up to i, but for what stands at k. -/
structure InsR (ys : List Int) (a k i : Nat) : Prop where
  a : ∀ p q, a ≤ p → p < q → q ≤ i → p ≠ k → q ≠ k → at0 ys p ≤ at0 ys q
  b : ∀ q, k < q → q ≤ i → at0 ys k < at0 ys q
theorem insR_start {ys : List Int} {a i : Nat} (h : ascR ys a i) : InsR ys a i i := ⟨fun p q h0 h1 h2 _ h4 => h p q h0 h1 (by omega), fun q h1 h2 => by omega⟩
theorem insR_step {ys : List Int} {a k i : Nat} (h0 : a < k) (hk : k ≤ i) (hi : i < ys.length) (h : InsR ys a k i) (hl : at0 ys k < at0 ys (k - 1)) : InsR (swp ys k) a (k - 1) i := by
  refine ⟨fun p q h5 h1 h2 h3 h4 => ?_, fun q h1 h2 => ?_⟩
  · rw [at0_swp (by omega) (by omega), at0_swp (by omega) (by omega), if_neg h3, if_neg h4]
    by_cases hp : p = k
    · rw [if_pos hp, if_neg (by omega)]
      exact h.a (k - 1) q (by omega) (by omega) h2 (by omega) (by omega)
    · rw [if_neg hp]
      by_cases hq : q = k
      · rw [if_pos hq]
        exact h.a p (k - 1) h5 (by omega) (by omega) hp (by omega)
      · rw [if_neg hq]
        exact h.a p q h5 h1 h2 hp hq
  · rw [at0_swp (by omega) (by omega), at0_swp (by omega) (by omega), if_pos rfl, if_neg (by omega)]
    by_cases hq : q = k
    · rw [if_pos hq]; omega
    · rw [if_neg hq]
      exact h.b q (by omega) h2
theorem insR_end {ys : List Int} {a k i : Nat} (hk : k ≤ i) (h : InsR ys a k i) (he : k = a ∨ at0 ys (k - 1) ≤ at0 ys k) : ascR ys a (i + 1) := by
  intro p q h0 h1 h2
  by_cases hp : p = k
  · rw [hp]; have := h.b q (by omega) (by omega); omega
  · by_cases hq : q = k
    · have h3 : at0 ys (k - 1) ≤ at0 ys k := by rcases he with e | e <;> omega
      by_cases hpk : p = k - 1
      · rw [hq, hpk]; exact h3
      · have := h.a p (k - 1) h0 (by omega) (by omega) hp (by omega)
        rw [hq]; omega
    · exact h.a p q h0 h1 (by omega) hp hq
/-- A step of an insertion keeps the tags' way. -/
theorem Stab.swp {K : Int → Int} {ys : List Int} {k : Nat} (h : Stab K ys) (h0 : 0 < k) (hk : k < ys.length) (hl : at0 ys k < at0 ys (k - 1)) : Stab K (swp ys k) := by
  intro p q hpq hq hlt
  rw [swp_len] at hq
  rw [at0_swp h0 hk, at0_swp h0 hk] at hlt ⊢
  by_cases hp1 : p = k - 1
  · rw [if_pos hp1] at hlt ⊢
    rw [if_neg (by omega)] at hlt ⊢
    by_cases hq1 : q = k
    · rw [if_pos hq1] at hlt ⊢; omega
    · rw [if_neg hq1] at hlt ⊢; exact h k q (by omega) hq hlt
  · rw [if_neg hp1] at hlt ⊢
    by_cases hp2 : p = k
    · rw [if_pos hp2] at hlt ⊢
      rw [if_neg (by omega), if_neg (by omega)] at hlt ⊢
      exact h (k - 1) q (by omega) hq hlt
    · rw [if_neg hp2] at hlt ⊢
      by_cases hq1 : q = k - 1
      · rw [if_pos hq1] at hlt ⊢; exact h p k (by omega) hk hlt
      · rw [if_neg hq1] at hlt ⊢
        by_cases hq2 : q = k
        · rw [if_pos hq2] at hlt ⊢; exact h p (k - 1) (by omega) (by omega) hlt
        · rw [if_neg hq2] at hlt ⊢; exact h p q hpq hq hlt

/-! One that stands ahead, or behind. -/
/-- The first one moved behind k - a others. -/
structure Fwd (ys zs : List Int) (a k : Nat) : Prop where
  lo : ∀ p, p < a ∨ k < p → at0 zs p = at0 ys p
  mid : ∀ p, a ≤ p → p < k → at0 zs p = at0 ys (p + 1)
  here : at0 zs k = at0 ys a
theorem fwd_start (ys : List Int) (a : Nat) : Fwd ys ys a a := ⟨fun _ _ => rfl, fun p h1 h2 => by omega, rfl⟩
theorem fwd_step {ys zs : List Int} {a k : Nat} (h : Fwd ys zs a k) (ha : a ≤ k) (hk : k + 1 < zs.length) : Fwd ys (swp zs (k + 1)) a (k + 1) := by
  refine ⟨fun p hp => ?_, fun p h1 h2 => ?_, ?_⟩
  · rw [at0_swp (by omega) hk, if_neg (by omega), if_neg (by omega)]; exact h.lo p (by omega)
  · rw [at0_swp (by omega) hk]
    by_cases hp : p = k
    · rw [if_pos (by omega), h.lo (k + 1) (by omega), hp]
    · rw [if_neg (by omega), if_neg (by omega)]; exact h.mid p h1 (by omega)
  · rw [at0_swp (by omega) hk, if_neg (by omega), if_pos rfl, Nat.add_sub_cancel]; exact h.here
theorem fwd_asc {ys zs : List Int} {a i b : Nat} (h : Fwd ys zs a (i - 1)) (hai : a < i) (hib : i ≤ b) (hs : ascR ys (a + 1) b)
    (h1 : ∀ k, a + 1 ≤ k → k < i → at0 ys k < at0 ys a) (h2 : ∀ k, i ≤ k → k < b → at0 ys a ≤ at0 ys k) : ascR zs a b := by
  intro p q hp hpq hq
  by_cases e1 : p < i - 1
  · rw [h.mid p hp e1]
    by_cases e2 : q < i - 1
    · rw [h.mid q (by omega) e2]; exact hs (p + 1) (q + 1) (by omega) (by omega) (by omega)
    · by_cases e3 : q = i - 1
      · rw [e3, h.here]; have := h1 (p + 1) (by omega) (by omega); omega
      · rw [h.lo q (by omega)]; exact hs (p + 1) q (by omega) (by omega) hq
  · by_cases e2 : p = i - 1
    · rw [e2, h.here, h.lo q (by omega)]; exact h2 q (by omega) hq
    · rw [h.lo p (by omega), h.lo q (by omega)]; exact hs p q (by omega) hpq hq
/-- The last one moved ahead of m - k others. -/
structure Bwd (ys zs : List Int) (k m : Nat) : Prop where
  lo : ∀ p, p < k ∨ m < p → at0 zs p = at0 ys p
  mid : ∀ p, k < p → p ≤ m → at0 zs p = at0 ys (p - 1)
  here : at0 zs k = at0 ys m
theorem bwd_start (ys : List Int) (m : Nat) : Bwd ys ys m m := ⟨fun _ _ => rfl, fun p h1 h2 => by omega, rfl⟩
theorem bwd_step {ys zs : List Int} {k m : Nat} (h : Bwd ys zs k m) (h0 : 0 < k) (hk : k ≤ m) (hm : m < zs.length) : Bwd ys (swp zs k) (k - 1) m := by
  refine ⟨fun p hp => ?_, fun p h1 h2 => ?_, ?_⟩
  · rw [at0_swp h0 (by omega), if_neg (by omega), if_neg (by omega)]; exact h.lo p (by omega)
  · rw [at0_swp h0 (by omega), if_neg (by omega)]
    by_cases hp : p = k
    · rw [if_pos hp, h.lo (k - 1) (by omega), hp]
    · rw [if_neg hp]; exact h.mid p (by omega) h2
  · rw [at0_swp h0 (by omega), if_pos rfl]; exact h.here
theorem bwd_asc {ys zs : List Int} {a i m : Nat} (h : Bwd ys zs i m) (hai : a ≤ i) (him : i ≤ m) (hs : ascR ys a m)
    (h1 : ∀ k, a ≤ k → k < i → at0 ys k ≤ at0 ys m) (h2 : ∀ k, i ≤ k → k < m → at0 ys m < at0 ys k) : ascR zs a (m + 1) := by
  intro p q hp hpq hq
  by_cases e1 : p < i
  · rw [h.lo p (by omega)]
    by_cases e2 : q < i
    · rw [h.lo q (by omega)]; exact hs p q hp hpq (by omega)
    · by_cases e3 : q = i
      · rw [e3, h.here]; exact h1 p hp e1
      · rw [h.mid q (by omega) (by omega)]; exact hs p (q - 1) hp (by omega) (by omega)
  · by_cases e2 : p = i
    · rw [e2, h.here, h.mid q (by omega) (by omega)]; have := h2 (q - 1) (by omega) (by omega); omega
    · rw [h.mid p (by omega) (by omega), h.mid q (by omega) (by omega)]; exact hs (p - 1) (q - 1) (by omega) (by omega) (by omega)

/-! Turning a middle part -/
theorem at0_app_l {A B : List Int} {k : Nat} (h : k < A.length) : at0 (A ++ B) k = at0 A k := by simp [at0, List.getElem?_append_left h]
theorem at0_app_r {A B : List Int} {k : Nat} (h : A.length ≤ k) : at0 (A ++ B) k = at0 B (k - A.length) := by simp [at0, List.getElem?_append_right h]
/-- Where what stands at k behind a turn came from. -/
structure Rot (xs ys : List Int) (s m e : Nat) : Prop where
  len : ys.length = xs.length
  perm : ys.Perm xs
  out : ∀ k, k < s ∨ e ≤ k → at0 ys k = at0 xs k
  fst : ∀ k, s ≤ k → k < s + (e - m) → at0 ys k = at0 xs (k - s + m)
  snd : ∀ k, s + (e - m) ≤ k → k < e → at0 ys k = at0 xs (k - (e - m))
theorem rot_of {A X Y B : List Int} : Rot (A ++ X ++ Y ++ B) (A ++ Y ++ X ++ B) A.length (A.length + X.length) (A.length + X.length + Y.length) := by
  refine ⟨by simp; omega, ?_, fun k hk => ?_, fun k h1 h2 => ?_, fun k h1 h2 => ?_⟩
  · refine List.Perm.append_right B ?_
    rw [List.append_assoc, List.append_assoc]
    exact List.Perm.append_left A List.perm_append_comm
  · by_cases h : k < A.length
    · simp only [List.append_assoc]
      rw [at0_app_l h, at0_app_l h]
    · rw [at0_app_r (by simp; omega), at0_app_r (by simp; omega)]
      congr 1
      simp; omega
  · have e1 : at0 (A ++ Y ++ X ++ B) k = at0 Y (k - A.length) := by
      rw [at0_app_l (by simp; omega), at0_app_l (by simp; omega), at0_app_r h1]
    have e2 : at0 (A ++ X ++ Y ++ B) (k - A.length + (A.length + X.length)) = at0 Y (k - A.length) := by
      rw [at0_app_l (by simp; omega), at0_app_r (by simp)]
      congr 1
      simp
    rw [e1, e2]
  · have e1 : at0 (A ++ Y ++ X ++ B) k = at0 X (k - A.length - Y.length) := by
      rw [at0_app_l (by simp; omega), at0_app_r (by simp; omega)]
      congr 1
      simp; omega
    have e2 : at0 (A ++ X ++ Y ++ B) (k - (A.length + X.length + Y.length - (A.length + X.length))) = at0 X (k - A.length - Y.length) := by
      rw [at0_app_l (by simp; omega), at0_app_l (by simp; omega), at0_app_r (by omega)]
      congr 1
      omega
    rw [e1, e2]
theorem Rot.rp {xs ys : List Int} {s m e : Nat} (h : Rot xs ys s m e) (h1 : s ≤ m) (h2 : m ≤ e) : RP s e xs ys := by
  refine ⟨h.len, h.perm, h.out, fun k k1 k2 => ?_⟩
  by_cases hk : k < s + (e - m)
  · exact ⟨_, by omega, by omega, h.fst k k1 hk⟩
  · exact ⟨_, by omega, by omega, h.snd k (by omega) k2⟩
/-- A turn of what is less ahead of what is greater keeps the tags' way. -/
theorem Rot.stab {K : Int → Int} {xs ys : List Int} {s m e : Nat} (h : Rot xs ys s m e) (h1 : s ≤ m) (h2 : m ≤ e) (he : e ≤ xs.length) (hS : Stab K xs)
    (hlt : ∀ p q, s ≤ p → p < m → m ≤ q → q < e → at0 xs q < at0 xs p) : Stab K ys := by
  intro p q hpq hq hl
  rw [h.len] at hq
  have way : ∀ k, k < xs.length → ∃ j, j < xs.length ∧ at0 ys k = at0 xs j ∧ ((k < s ∨ e ≤ k) ∧ j = k ∨ (s ≤ k ∧ k < s + (e - m)) ∧ j = k - s + m ∨ (s + (e - m) ≤ k ∧ k < e) ∧ j = k - (e - m)) := by
    intro k hk
    by_cases c1 : k < s ∨ e ≤ k
    · exact ⟨k, hk, h.out k c1, .inl ⟨c1, rfl⟩⟩
    · by_cases c2 : k < s + (e - m)
      · exact ⟨_, by omega, h.fst k (by omega) c2, .inr (.inl ⟨by omega, rfl⟩)⟩
      · exact ⟨_, by omega, h.snd k (by omega) (by omega), .inr (.inr ⟨by omega, rfl⟩)⟩
  obtain ⟨i, i1, i2, i3⟩ := way p (by omega)
  obtain ⟨j, j1, j2, j3⟩ := way q hq
  rw [i2, j2] at hl ⊢
  by_cases hij : i < j
  · exact hS i j hij j1 hl
  · exfalso
    have := hlt j i
    omega

/-- What a merge by turning makes: both halves are in order, and all of the left one are at most those of the right one. -/
theorem asc_join {ys : List Int} {a m b : Nat} (h1 : ascR ys a m) (h2 : ascR ys m b) (h : ∀ p q, a ≤ p → p < m → m ≤ q → q < b → at0 ys p ≤ at0 ys q) : ascR ys a b := by
  intro p q hp hpq hq
  by_cases e1 : q < m
  · exact h1 p q hp hpq e1
  · by_cases e2 : p < m
    · exact h p q hp e2 (by omega) hq
    · exact h2 p q (by omega) hpq hq
theorem ascR.sub {ys : List Int} {a b c d : Nat} (h : ascR ys a b) (h1 : a ≤ c) (h2 : d ≤ b) : ascR ys c d := fun p q hp hpq hq => h p q (by omega) hpq (by omega)
theorem ascR.keep {xs ys : List Int} {a b c d : Nat} (h : ascR xs c d) (hr : RP a b xs ys) (hd : d ≤ a ∨ b ≤ c) : ascR ys c d := by
  intro p q hp hpq hq
  rw [hr.out p (by omega), hr.out q (by omega)]
  exact h p q hp hpq hq
theorem ascR_one (ys : List Int) (a : Nat) : ascR ys a (a + 1) := fun p q h1 h2 h3 => by omega
theorem ascR_nil (ys : List Int) {a b : Nat} (h : b ≤ a + 1) : ascR ys a b := fun p q h1 h2 h3 => by omega

/-- The whole of the turning merge: what stands behind the turn. -/
structure Turned (xs ys : List Int) (a s mid e b : Nat) : Prop where
  rp : RP a b xs ys
  l1 : ascR ys a s
  l2 : ascR ys s mid
  r1 : ascR ys mid e
  r2 : ascR ys e b
  le : ∀ p q, a ≤ p → p < mid → mid ≤ q → q < b → at0 ys p ≤ at0 ys q

theorem Rot.turned {xs ys : List Int} {a s m mid e b : Nat} (h : Rot xs ys s m e) (ha : a ≤ s) (hsm : s ≤ m) (hme : m ≤ e) (heb : e ≤ b) (hmid : s + (e - m) = mid)
    (hl : ascR xs a m) (hr : ascR xs m b) (hlt : ∀ p q, s ≤ p → p < m → m ≤ q → q < e → at0 xs q ≤ at0 xs p) (hle : ∀ p q, a ≤ p → p < s → e ≤ q → q < b → at0 xs p ≤ at0 xs q) :
    Turned xs ys a s mid e b := by
  have way : ∀ k, ∃ j, at0 ys k = at0 xs j ∧ ((k < s ∨ e ≤ k) ∧ j = k ∨ (s ≤ k ∧ k < mid) ∧ j = k - s + m ∨ (mid ≤ k ∧ k < e) ∧ j = k - (e - m)) := by
    intro k
    by_cases c1 : k < s ∨ e ≤ k
    · exact ⟨k, h.out k c1, .inl ⟨c1, rfl⟩⟩
    · by_cases c2 : k < mid
      · exact ⟨_, h.fst k (by omega) (by omega), .inr (.inl ⟨by omega, rfl⟩)⟩
      · exact ⟨_, h.snd k (by omega) (by omega), .inr (.inr ⟨by omega, rfl⟩)⟩
  refine ⟨(h.rp hsm hme).wide ha heb, ?_, ?_, ?_, ?_, ?_⟩ <;> intro p q
  · intro h1 h2 h3
    rw [h.out p (by omega), h.out q (by omega)]; exact hl p q h1 h2 (by omega)
  · intro h1 h2 h3
    rw [h.fst p (by omega) (by omega), h.fst q (by omega) (by omega)]; exact hr _ _ (by omega) (by omega) (by omega)
  · intro h1 h2 h3
    rw [h.snd p (by omega) (by omega), h.snd q (by omega) (by omega)]; exact hl _ _ (by omega) (by omega) (by omega)
  · intro h1 h2 h3
    rw [h.out p (by omega), h.out q (by omega)]; exact hr p q (by omega) h2 h3
  · intro h1 h2 h3 h4
    obtain ⟨i, i2, i3⟩ := way p
    obtain ⟨j, j2, j3⟩ := way q
    rw [i2, j2]
    by_cases c1 : p < s
    · have ei : i = p := by omega
      by_cases c2 : q < e
      · exact hl i j (by omega) (by omega) (by omega)
      · exact hle i j (by omega) (by omega) (by omega) (by omega)
    · by_cases c2 : q < e
      · exact hlt j i (by omega) (by omega) (by omega) (by omega)
      · exact hr i j (by omega) (by omega) (by omega)

/-- What the search of a turning merge has found. -/
structure Found (ts : List Int) (lo m hi mid s : Nat) : Prop where
  ls : lo ≤ s
  sm : s ≤ m
  sd : s ≤ mid
  me : m ≤ mid + m - s
  eh : mid + m - s ≤ hi
  lt : ∀ p q, s ≤ p → p < m → m ≤ q → q < mid + m - s → at0 ts q < at0 ts p
  le : ∀ p q, lo ≤ p → p < s → mid + m - s ≤ q → q < hi → at0 ts p ≤ at0 ts q

theorem ascR.le {ys : List Int} {a b p q : Nat} (h : ascR ys a b) (h1 : a ≤ p) (h2 : p ≤ q) (h3 : q < b) : at0 ys p ≤ at0 ys q := by
  by_cases e : p = q
  · subst e; omega
  · exact h p q h1 (by omega) h3

theorem found_of {ts : List Int} {lo m hi mid s s0 r0 : Nat} (hlm : lo < m) (hmh : m < hi) (hmid : mid = (lo + hi) / 2) (h0 : (mid < m ∧ s0 = mid + m - hi ∧ r0 = mid) ∨ (m ≤ mid ∧ s0 = lo ∧ r0 = m))
    (h1 : s0 ≤ s) (h2 : s ≤ r0) (hA : ascR ts lo m) (hB : ascR ts m hi)
    (hl : ∀ k, s0 ≤ k → k < s → ¬ at0 ts (mid + m - 1 - k) < at0 ts k) (hr : ∀ k, s ≤ k → k < r0 → at0 ts (mid + m - 1 - k) < at0 ts k) : Found ts lo m hi mid s := by
  refine ⟨by omega, by omega, by omega, by omega, by omega, fun p q p1 p2 q1 q2 => ?_, fun p q p1 p2 q1 q2 => ?_⟩
  · have hs : s < r0 := by omega
    have := hr s (Nat.le_refl _) hs
    have e1 := hA.le (p := s) (q := p) (by omega) p1 p2
    have e2 := hB.le (p := q) (q := mid + m - 1 - s) q1 (by omega) (by omega)
    omega
  · have hs : s0 < s := by omega
    have := hl (s - 1) (by omega) (by omega)
    have e0 : mid + m - 1 - (s - 1) = mid + m - s := by omega
    rw [e0] at this
    have e1 := hA.le (p := p) (q := s - 1) p1 (by omega) (by omega)
    have e2 := hB.le (p := mid + m - s) (q := q) (by omega) q1 q2
    omega

/-- A step of the search. -/
theorem srch_up {ts : List Int} {lo m hi mid s0 r0 s h : Nat} (hlm : lo < m) (hmh : m < hi) (hmid : mid = (lo + hi) / 2) (h0 : (mid < m ∧ s0 = mid + m - hi ∧ r0 = mid) ∨ (m ≤ mid ∧ s0 = lo ∧ r0 = m)) (hA : ascR ts lo m) (hB : ascR ts m hi)
    (hs0 : s0 ≤ s) (hh : h < r0) (ht : ¬ at0 ts (mid + m - 1 - h) < at0 ts h) :
    ∀ k, s0 ≤ k → k < h + 1 → ¬ at0 ts (mid + m - 1 - k) < at0 ts k := by
  intro k k1 k2
  have e1 := hA.le (p := k) (q := h) (by omega) (by omega) (by omega)
  have e2 := hB.le (p := mid + m - 1 - h) (q := mid + m - 1 - k) (by omega) (by omega) (by omega)
  omega
theorem srch_down {ts : List Int} {lo m hi mid s0 r0 h : Nat} (hlm : lo < m) (hmh : m < hi) (hmid : mid = (lo + hi) / 2) (h0 : (mid < m ∧ s0 = mid + m - hi ∧ r0 = mid) ∨ (m ≤ mid ∧ s0 = lo ∧ r0 = m)) (hA : ascR ts lo m) (hB : ascR ts m hi)
    (hs0 : s0 ≤ h) (ht : at0 ts (mid + m - 1 - h) < at0 ts h) :
    ∀ k, h ≤ k → k < r0 → at0 ts (mid + m - 1 - k) < at0 ts k := by
  intro k k1 k2
  have e1 := hA.le (p := h) (q := k) (by omega) (by omega) (by omega)
  have e2 := hB.le (p := mid + m - 1 - k) (q := mid + m - 1 - h) (by omega) (by omega) (by omega)
  omega

/-- A turn within a list. -/
theorem rot_split {ts : List Int} {s m e : Nat} (h1 : s ≤ m) (h2 : m ≤ e) (h3 : e ≤ ts.length) :
    ∃ A X Y B, ts = A ++ X ++ Y ++ B ∧ A.length = s ∧ s + X.length = m ∧ m + Y.length = e ∧ Rot ts (A ++ Y ++ X ++ B) s m e := by
  have e0 : ts = ts.take s ++ (ts.take m).drop s ++ (ts.take e).drop m ++ ts.drop e := by
    have a1 : ts.take s ++ (ts.take m).drop s = ts.take m := by
      have := List.take_append_drop s (ts.take m)
      rwa [List.take_take, Nat.min_eq_left h1] at this
    have a2 : ts.take m ++ (ts.take e).drop m = ts.take e := by
      have := List.take_append_drop m (ts.take e)
      rwa [List.take_take, Nat.min_eq_left h2] at this
    rw [a1, a2, List.take_append_drop]
  have l1 : (ts.take s).length = s := by simp; omega
  have l2 : ((ts.take m).drop s).length = m - s := by simp; omega
  have l3 : ((ts.take e).drop m).length = e - m := by simp; omega
  refine ⟨_, _, _, _, e0, l1, by omega, by omega, ?_⟩
  have := rot_of (A := ts.take s) (X := (ts.take m).drop s) (Y := (ts.take e).drop m) (B := ts.drop e)
  rw [← e0, l1, l2, l3] at this
  rw [show s + (m - s) = m by omega, show m + (e - m) = e by omega] at this
  exact this

/-- What stands behind both merges. -/
theorem merged {ts us vs zs : List Int} {lo s mid e hi : Nat} (hT : Turned ts us lo s mid e hi) (h1 : lo ≤ mid) (h2 : mid ≤ hi) (hv : RP lo mid us vs) (hva : ascR vs lo mid) (hz : RP mid hi vs zs) (hza : ascR zs mid hi) :
    RP lo hi ts zs ∧ ascR zs lo hi := by
  refine ⟨(hT.rp.trans (hv.wide (Nat.le_refl _) h2)).trans (hz.wide h1 (Nat.le_refl _)), asc_join (hva.keep hz (.inl (Nat.le_refl _))) hza ?_⟩
  intro p q p1 p2 q1 q2
  rw [hz.out p (by omega)]
  obtain ⟨i, i1, i2, ei⟩ := hv.inn p p1 p2
  obtain ⟨j, j1, j2, ej⟩ := hz.inn q q1 q2
  rw [ei, ej, hv.out j (by omega)]
  exact hT.le i j i1 i2 j1 j2

/-! Blocks -/
/-- Ascending in each block of n, up to the end. -/
def blkAsc (ys : List Int) (n lo hi : Nat) : Prop := ∀ k, lo ≤ k * n → k * n < hi → ascR ys (k * n) (min ((k + 1) * n) hi)
theorem blkAsc.all {ys : List Int} {n hi : Nat} (h : blkAsc ys n 0 hi) (hn : hi ≤ n) : ascR ys 0 hi := by
  by_cases h0 : hi = 0
  · exact ascR_nil _ (by omega)
  · have := h 0 (by omega) (by omega)
    simp only [Nat.zero_mul, Nat.zero_add, Nat.one_mul] at this
    rwa [Nat.min_eq_right hn] at this
theorem blkAsc_nil (ys : List Int) {n lo hi : Nat} (h : hi ≤ lo) : blkAsc ys n lo hi := fun k h1 h2 => by omega
theorem blkAsc.keep {xs ys : List Int} {n lo hi a b : Nat} (h : blkAsc xs n lo hi) (hr : RP a b xs ys) (hd : hi ≤ a ∨ b ≤ lo) : blkAsc ys n lo hi := fun k h1 h2 => (h k h1 h2).keep hr (by omega)
/-- One block more, at the end. -/
theorem blkAsc.snoc {ys : List Int} {n k : Nat} (h : blkAsc ys n 0 (k * n)) {hi : Nat} (h1 : k * n ≤ hi) (h2 : hi ≤ (k + 1) * n) (ha : ascR ys (k * n) hi) : blkAsc ys n 0 hi := by
  intro j j1 j2
  by_cases hj : j < k
  · have e1 : (j + 1) * n ≤ k * n := Nat.mul_le_mul_right n hj
    have e2 : j * n + n = (j + 1) * n := by rw [Nat.add_mul, Nat.one_mul]
    by_cases hn : n = 0
    · subst hn; exact ascR_nil _ (by omega)
    · have := h j (by omega) (by omega)
      rw [Nat.min_eq_left e1] at this
      rwa [Nat.min_eq_left (by omega)]
  · have hj2 : j = k := by
      have : ¬ k + 1 ≤ j := fun e => by
        have := Nat.mul_le_mul_right n e
        omega
      omega
    subst hj2
    rwa [Nat.min_eq_right h2]
/-- The first block of what is left. -/
theorem blkAsc.head {ys : List Int} {n lo hi k : Nat} (h : blkAsc ys n lo hi) (h1 : lo ≤ k * n) (h2 : (k + 1) * n ≤ hi) (hn : 0 < n) : ascR ys (k * n) ((k + 1) * n) := by
  have e2 : k * n + n = (k + 1) * n := by rw [Nat.add_mul, Nat.one_mul]
  have := h k h1 (by omega)
  rwa [Nat.min_eq_left h2] at this
theorem blkAsc.last {ys : List Int} {n lo hi k : Nat} (h : blkAsc ys n lo hi) (h1 : lo ≤ k * n) (h2 : k * n < hi) (h3 : hi ≤ (k + 1) * n) : ascR ys (k * n) hi := by
  have := h k h1 h2
  rwa [Nat.min_eq_right h3] at this
theorem blkAsc.sub {ys : List Int} {n lo lo' hi : Nat} (h : blkAsc ys n lo hi) (hl : lo ≤ lo') : blkAsc ys n lo' hi := fun k h1 h2 => h k (by omega) h2

/-! Tags -/
def tagK (M : Int) (t : Int) : Int := t / M
theorem tagK_mono {M : Int} (hM : 0 < M) : Mono (tagK M) := fun x y h => Int.ediv_le_ediv hM h

end Go.Proofs.Ytihbckoldblpcaa
