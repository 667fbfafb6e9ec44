/- Different numbers of a list in ascending order; the least level with few enough of them: plain words. -/
import Derived.Test.YtncbkbfkdgggkaaDoorQPk6
import Derived.Lib.TrailingZeros
set_option linter.unusedVariables false
set_option linter.unusedSimpArgs false
namespace Go.Proofs.YtncbkbfkdgggkaaDoor
open Go.RowKit

/-- Strictly ascending. -/
def Up (ys : List Int) : Prop := ys.Pairwise (· < ·)

theorem up_ext : ∀ (xs ys : List Int), Up xs → Up ys → (∀ z, z ∈ xs ↔ z ∈ ys) → xs = ys := by
  intro xs
  induction xs with
  | nil =>
    intro ys _ _ h
    cases ys with
    | nil => rfl
    | cons y ys => exact absurd ((h y).2 (List.mem_cons_self ..)) (by simp)
  | cons x xs ih =>
    intro ys h1 h2 h
    cases ys with
    | nil => exact absurd ((h x).1 (List.mem_cons_self ..)) (by simp)
    | cons y ys =>
      unfold Up at h1 h2
      rw [List.pairwise_cons] at h1 h2
      have hxy : x = y := by
        rcases List.mem_cons.1 ((h x).1 (List.mem_cons_self ..)) with e | hx
        · exact e
        · rcases List.mem_cons.1 ((h y).2 (List.mem_cons_self ..)) with e | hy
          · exact e.symm
          · have a := h1.1 y hy
            have b := h2.1 x hx
            omega
      subst hxy
      have hz : ∀ z, z ∈ xs ↔ z ∈ ys := by
        intro z
        constructor
        · intro hz
          rcases List.mem_cons.1 ((h z).1 (List.mem_cons_of_mem _ hz)) with e | hy
          · have := h1.1 z hz; omega
          · exact hy
        · intro hz
          rcases List.mem_cons.1 ((h z).2 (List.mem_cons_of_mem _ hz)) with e | hy
          · have := h2.1 z hz; omega
          · exact hy
      rw [ih ys h1.2 h2.2 hz]

/-- A number put to its place, once. -/
def insU (ys : List Int) (x : Int) : List Int := ys.filter (fun y => decide (y < x)) ++ x :: ys.filter (fun y => decide (x < y))
/-- The different numbers, in ascending order. -/
def uniq (xs : List Int) : List Int := xs.foldl insU []

theorem insU_mem {ys : List Int} {x z : Int} : z ∈ insU ys x ↔ z = x ∨ z ∈ ys := by
  unfold insU
  simp only [List.mem_append, List.mem_filter, List.mem_cons, decide_eq_true_eq]
  constructor
  · rintro (h | h | h)
    · exact .inr h.1
    · exact .inl h
    · exact .inr h.1
  · rintro (h | h)
    · exact .inr (.inl h)
    · by_cases h1 : z < x
      · exact .inl ⟨h, h1⟩
      · by_cases h2 : x < z
        · exact .inr (.inr ⟨h, h2⟩)
        · exact .inr (.inl (by omega))
theorem insU_up {ys : List Int} (x : Int) (h : Up ys) : Up (insU ys x) := by
  unfold Up insU at *
  rw [List.pairwise_append]
  refine ⟨h.filter _, ?_, ?_⟩
  · rw [List.pairwise_cons]
    refine ⟨fun z hz => ?_, h.filter _⟩
    simpa using (List.mem_filter.1 hz).2
  · intro a ha b hb
    have h1 : a < x := by simpa using (List.mem_filter.1 ha).2
    rcases List.mem_cons.1 hb with e | hb
    · omega
    · have h2 : x < b := by simpa using (List.mem_filter.1 hb).2
      omega
theorem insU_len (ys : List Int) (x : Int) : (insU ys x).length ≤ ys.length + 1 := by
  induction ys with
  | nil => simp [insU]
  | cons y ys ih =>
    unfold insU at *
    simp only [List.length_append, List.length_cons, List.filter_cons] at *
    split
    · split
      · rename_i h1 h2; simp at h1 h2; omega
      · simp only [List.length_cons]; omega
    · split
      · simp only [List.length_cons]; omega
      · omega
theorem foldl_insU : ∀ (xs ys : List Int), Up ys → Up (xs.foldl insU ys) ∧ (∀ z, z ∈ xs.foldl insU ys ↔ z ∈ ys ∨ z ∈ xs) ∧ (xs.foldl insU ys).length ≤ ys.length + xs.length := by
  intro xs
  induction xs with
  | nil => intro ys h; exact ⟨h, by simp, by simp⟩
  | cons x xs ih =>
    intro ys h
    obtain ⟨h1, h2, h3⟩ := ih (insU ys x) (insU_up x h)
    rw [List.foldl_cons]
    refine ⟨h1, fun z => ?_, ?_⟩
    · rw [h2, insU_mem, List.mem_cons]
      constructor
      · rintro ((h | h) | h)
        · exact .inr (.inl h)
        · exact .inl h
        · exact .inr (.inr h)
      · rintro (h | h | h)
        · exact .inl (.inr h)
        · exact .inl (.inl h)
        · exact .inr h
    · have := insU_len ys x
      simp only [List.length_cons]; omega
theorem up_nil : Up [] := List.Pairwise.nil
theorem uniq_up (xs : List Int) : Up (uniq xs) := (foldl_insU xs [] up_nil).1
theorem uniq_mem {xs : List Int} {z : Int} : z ∈ uniq xs ↔ z ∈ xs := by
  have := (foldl_insU xs [] up_nil).2.1 z
  simpa [uniq] using this
theorem uniq_len (xs : List Int) : (uniq xs).length ≤ xs.length := by
  have := (foldl_insU xs [] up_nil).2.2
  simpa [uniq] using this
theorem uniq_of {xs ys : List Int} (h : Up ys) (hm : ∀ z, z ∈ ys ↔ z ∈ xs) : ys = uniq xs := up_ext _ _ h (uniq_up _) (fun z => by rw [hm, uniq_mem])
theorem uniq_snoc (xs : List Int) (x : Int) : uniq (xs ++ [x]) = insU (uniq xs) x := by simp [uniq, List.foldl_append]
theorem uniq_filter (p : Int → Bool) (xs : List Int) : (uniq xs).filter p = uniq (xs.filter p) :=
  uniq_of (List.Pairwise.filter p (uniq_up xs)) (fun z => by rw [List.mem_filter, List.mem_filter, uniq_mem])
theorem uniq_perm {xs ys : List Int} (h : xs.Perm ys) : uniq xs = uniq ys := uniq_of (uniq_up xs) (fun z => by rw [uniq_mem]; exact h.mem_iff)
theorem insU_skip {ys : List Int} {x : Int} (h : Up ys) (hx : x ∈ ys) : insU ys x = ys := up_ext _ _ (insU_up x h) h (fun z => by
  rw [insU_mem]
  constructor
  · rintro (rfl | h)
    · exact hx
    · exact h
  · exact .inr)
theorem insU_last {ys : List Int} {x : Int} (h : ∀ y ∈ ys, y < x) : insU ys x = ys ++ [x] := by
  unfold insU
  rw [List.filter_eq_self.2 (fun a ha => by simpa using h a ha), List.filter_eq_nil_iff.2 (fun a ha => by have := h a ha; simp; omega)]

/-- A list in ascending order: the next number is that before it, or greater than all. -/
theorem uniq_take_skip {xs : List Int} {m : Nat} (h0 : 0 < m) (hm : m < xs.length) (he : at0 xs m = at0 xs (m - 1)) : uniq (xs.take (m + 1)) = uniq (xs.take m) := by
  rw [List.take_add_one, List.getElem?_eq_getElem hm]
  show uniq (xs.take m ++ [xs[m]]) = _
  rw [uniq_snoc]
  refine insU_skip (uniq_up _) ?_
  rw [uniq_mem]
  have e : xs[m] = xs[m - 1] := by simpa [at0, hm, show m - 1 < xs.length by omega] using he
  rw [e]
  exact List.mem_take_iff_getElem.2 ⟨m - 1, by omega, rfl⟩
theorem uniq_take_keep {xs : List Int} {m : Nat} (h0 : 0 < m) (hm : m < xs.length) (hs : xs.Pairwise (· ≤ ·)) (he : ¬ at0 xs m = at0 xs (m - 1)) : uniq (xs.take (m + 1)) = uniq (xs.take m) ++ [at0 xs m] := by
  rw [List.take_add_one, List.getElem?_eq_getElem hm]
  show uniq (xs.take m ++ [xs[m]]) = _
  rw [uniq_snoc]
  have e2 : at0 xs m = xs[m] := by simp [at0, hm]
  rw [e2]
  refine insU_last ?_
  intro y hy
  rw [uniq_mem] at hy
  obtain ⟨j, hj, rfl⟩ := List.mem_take_iff_getElem.1 hy
  have hs2 := List.pairwise_iff_getElem.1 hs
  have e3 : at0 xs (m - 1) = xs[m - 1] := by simp [at0, show m - 1 < xs.length by omega]
  rw [e2, e3] at he
  have h1 := hs2 (m - 1) m (by omega) hm (by omega)
  by_cases hj2 : j = m - 1
  · subst hj2; omega
  · have h2 := hs2 j (m - 1) (by omega) (by omega) (by omega)
    omega
theorem uniq_one {xs : List Int} (h : 0 < xs.length) : uniq (xs.take 1) = xs.take 1 := by
  cases xs with
  | nil => simp at h
  | cons x xs => simp [uniq, insU]
theorem uniq_self {xs : List Int} {n : Nat} (hs : xs.Pairwise (· ≤ ·)) (hn : n ≤ xs.length) (h : ∀ j, 0 < j → j < n → ¬ at0 xs j = at0 xs (j - 1)) : uniq (xs.take n) = xs.take n := by
  induction n with
  | zero => simp [uniq]
  | succ n ih =>
    by_cases h0 : n = 0
    · subst h0; exact uniq_one (by omega)
    · rw [uniq_take_keep (by omega) (by omega) hs (h n (by omega) (by omega)), ih (by omega) (fun j h1 h2 => h j h1 (by omega))]
      rw [List.take_add_one, List.getElem?_eq_getElem (by omega)]
      simp [at0, show n < xs.length by omega]

/-- What a list is while neighbours that are equal are struck: the different ones of the first m, then what stood behind. -/
def cmpU (xs : List Int) (m : Nat) : List Int := uniq (xs.take m) ++ xs.drop (uniq (xs.take m)).length
theorem cmpU_len {xs : List Int} {m : Nat} : (cmpU xs m).length = xs.length := by
  have h1 := uniq_len (xs.take m)
  have h2 : (xs.take m).length ≤ xs.length := by simp; omega
  unfold cmpU
  simp; omega
theorem cmpU_at {xs : List Int} {m p : Nat} (hp : (uniq (xs.take m)).length ≤ p) (hl : p < xs.length) : at0 (cmpU xs m) p = at0 xs p := by
  unfold cmpU at0
  rw [List.getElem?_append_right hp, List.getElem?_drop]
  congr 2
  omega
theorem cmpU_keep {xs : List Int} {m : Nat} (h0 : 0 < m) (hm : m < xs.length) (hs : xs.Pairwise (· ≤ ·)) (he : ¬ at0 xs m = at0 xs (m - 1)) :
    (cmpU xs m).set (uniq (xs.take m)).length (at0 xs m) = cmpU xs (m + 1) := by
  have h1 := uniq_len (xs.take m)
  have h2 : (xs.take m).length = m := by simp; omega
  unfold cmpU
  rw [uniq_take_keep h0 hm hs he]
  rw [List.set_append_right _ _ (Nat.le_refl _), Nat.sub_self]
  rw [List.drop_eq_getElem_cons (by omega), List.set_cons_zero]
  simp
theorem cmpU_skip {xs : List Int} {m : Nat} (h0 : 0 < m) (hm : m < xs.length) (he : at0 xs m = at0 xs (m - 1)) : cmpU xs (m + 1) = cmpU xs m := by
  unfold cmpU
  rw [uniq_take_skip h0 hm he]
theorem cmpU_take {xs : List Int} {m : Nat} : (cmpU xs m).take (uniq (xs.take m)).length = uniq (xs.take m) := by simp [cmpU]

/-- The same for elements that a predicate strikes. -/
def delU (p : Int → Bool) (xs : List Int) (m : Nat) : List Int := (xs.take m).filter p ++ xs.drop ((xs.take m).filter p).length
theorem filter_take_len (p : Int → Bool) (xs : List Int) (m : Nat) : ((xs.take m).filter p).length ≤ m ∧ ((xs.take m).filter p).length ≤ xs.length := by
  have h := List.length_filter_le p (xs.take m)
  simp at h
  omega
theorem delU_len {p : Int → Bool} {xs : List Int} {m : Nat} : (delU p xs m).length = xs.length := by
  have h1 := filter_take_len p xs m
  unfold delU
  simp; omega
theorem delU_at {p : Int → Bool} {xs : List Int} {m q : Nat} (hq : ((xs.take m).filter p).length ≤ q) : at0 (delU p xs m) q = at0 xs q := by
  unfold delU at0
  rw [List.getElem?_append_right hq, List.getElem?_drop]
  congr 2
  omega
theorem filter_take_succ {p : Int → Bool} {xs : List Int} {m : Nat} (hm : m < xs.length) : (xs.take (m + 1)).filter p = (xs.take m).filter p ++ (if p (at0 xs m) then [at0 xs m] else []) := by
  rw [List.take_add_one, List.getElem?_eq_getElem hm, List.filter_append]
  have e : at0 xs m = xs[m] := by simp [at0, hm]
  rw [e]
  congr 1
  by_cases h : p xs[m] = true <;> simp [h]
theorem delU_keep {p : Int → Bool} {xs : List Int} {m : Nat} (hm : m < xs.length) (hp : p (at0 xs m) = true) : (delU p xs m).set ((xs.take m).filter p).length (at0 xs m) = delU p xs (m + 1) := by
  have h1 := filter_take_len p xs m
  unfold delU
  rw [filter_take_succ hm, if_pos hp]
  rw [List.set_append_right _ _ (Nat.le_refl _), Nat.sub_self]
  rw [List.drop_eq_getElem_cons (by omega), List.set_cons_zero]
  simp
theorem delU_skip {p : Int → Bool} {xs : List Int} {m : Nat} (hm : m < xs.length) (hp : p (at0 xs m) = false) : delU p xs (m + 1) = delU p xs m := by
  unfold delU
  rw [filter_take_succ hm, hp]
  simp
theorem delU_take {p : Int → Bool} {xs : List Int} {m : Nat} : (delU p xs m).take ((xs.take m).filter p).length = (xs.take m).filter p := by simp [delU]
theorem filter_take_all {p : Int → Bool} {xs : List Int} {m : Nat} (h : ∀ x ∈ xs.take m, p x = true) : (xs.take m).filter p = xs.take m := List.filter_eq_self.2 h

/-- How many binary digits are 0 from the least one on. -/
def lowZ (x : Int) : Int := (Lib.ctz 32 x.toNat : Int)
theorem lowZ_bd {x : Int} (h0 : 0 ≤ x) (h1 : x < 4294967296) : 0 ≤ lowZ x ∧ lowZ x ≤ 32 := by
  unfold lowZ
  by_cases h : x.toNat = 0
  · rw [h]; simp [Lib.ctz]
  · have := (Lib.lowest_bit 32 x.toNat h (by omega)).2
    omega
theorem ctz_at {x : Nat} (h0 : 0 < x) (h1 : x < 4294967296) : ∃ m, x = 2 ^ Lib.ctz 32 x * (2 * m + 1) := by
  obtain ⟨m, h, _⟩ := Lib.ctzFrom_spec 32 x h0 h1
  refine ⟨m, ?_⟩
  have e : Lib.ctz 32 x = Lib.ctzFrom 32 x := by unfold Lib.ctz; rw [if_neg (by omega)]
  rw [e]
  exact h
/-- The digits below the first 1 are 0. -/
theorem lowZ_zero {x : Int} {n : Nat} (h0 : 0 ≤ x) (h1 : x < 4294967296) (hn : (n : Int) < lowZ x) : x / 2 ^ n % 2 = 0 := by
  obtain ⟨y, rfl⟩ := Int.eq_ofNat_of_zero_le h0
  unfold lowZ at hn
  rw [Int.toNat_natCast] at hn
  by_cases hy : y = 0
  · subst hy; simp
  · obtain ⟨m, hm⟩ := ctz_at (x := y) (by omega) (by omega)
    generalize Lib.ctz 32 y = k at hn hm
    obtain ⟨d, rfl⟩ : ∃ d, k = n + 1 + d := ⟨k - n - 1, by omega⟩
    have e : y / 2 ^ n % 2 = 0 := by
      rw [hm, Nat.pow_add, Nat.pow_add, Nat.pow_one]
      have : 2 ^ n * 2 * 2 ^ d * (2 * m + 1) = 2 ^ n * (2 * (2 ^ d * (2 * m + 1))) := by
        rw [Nat.mul_assoc, Nat.mul_assoc]
      rw [this, Nat.mul_div_cancel_left _ (Nat.two_pow_pos n)]
      omega
    have e2 : ((y / 2 ^ n % 2 : Nat) : Int) = 0 := by rw [e]; rfl
    simpa using e2
theorem lowZ_one {x : Int} {n : Nat} (h0 : 0 ≤ x) (h1 : x < 4294967296) (hn : (n : Int) = lowZ x) (h32 : n < 32) : x / 2 ^ n % 2 = 1 := by
  obtain ⟨y, rfl⟩ := Int.eq_ofNat_of_zero_le h0
  unfold lowZ at hn
  rw [Int.toNat_natCast] at hn
  by_cases hy : y = 0
  · subst hy; simp [Lib.ctz] at hn; omega
  · obtain ⟨m, hm⟩ := ctz_at (x := y) (by omega) (by omega)
    generalize Lib.ctz 32 y = k at hn hm
    obtain rfl : n = k := by omega
    have e : y / 2 ^ n % 2 = 1 := by
      rw [hm, Nat.mul_div_cancel_left _ (Nat.two_pow_pos n)]
      omega
    have e2 : ((y / 2 ^ n % 2 : Nat) : Int) = 1 := by rw [e]; rfl
    simpa using e2

/-- The least level from one on at which p holds. -/
def lvl (p : Nat → Bool) (fr : Nat) : Option Nat := (List.range 33).find? fun l => decide (fr ≤ l) && p l
theorem lvl_some {p : Nat → Bool} {fr k : Nat} (h1 : fr ≤ k) (h2 : k < 33) (h3 : p k = true) (h4 : ∀ j, fr ≤ j → j < k → p j = false) : lvl p fr = some k := by
  unfold lvl
  rw [List.find?_range_eq_some]
  refine ⟨by simp [h1, h3], by simpa using h2, fun j hj => ?_⟩
  by_cases hf : fr ≤ j
  · simp [h4 j hf hj]
  · simp [hf]
theorem lvl_none {p : Nat → Bool} {fr : Nat} (h4 : ∀ j, fr ≤ j → j < 33 → p j = false) : lvl p fr = none := by
  unfold lvl
  rw [List.find?_range_eq_none]
  intro j hj
  by_cases hf : fr ≤ j
  · simp [h4 j hf hj]
  · simp [hf]

end Go.Proofs.YtncbkbfkdgggkaaDoor
