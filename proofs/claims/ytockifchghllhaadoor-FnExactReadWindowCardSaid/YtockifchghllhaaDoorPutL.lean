/- A bit is brought into a window: what both texts make of the times and sizes, in plain words. -/
import Derived.Test.YtockifchghllhaaDoorWinL
namespace Go.Proofs.YtockifchghllhaaDoor
open Go.RowKit

/-- The first index at which s stands. -/
def fstI (s : Int) (ss : List Int) : Nat := ss.findIdx (· == s)
def mgT (ts : List Int) (i : Nat) : List Int := ts.take i ++ ts.drop (i + 1)
def mgS (ss : List Int) (s : Int) (i : Nat) : List Int := ss.take i ++ 2 * s :: ss.drop (i + 2)
abbrev Pr := List Int × List Int
def merge (s : Int) (q : Pr) : Pr := (mgT q.1 (fstI s q.2), mgS q.2 s (fstI s q.2))
/-- One size: two that are one too many become one. -/
def stepP (P s : Int) (q : Pr) : Pr := if (q.2.count s : Int) ≤ P + 1 then q else merge s q
def implK (P : Int) : Nat → Int → Pr → Pr
  | 0, _, q => q
  | n + 1, s, q => implK P n (2 * s) (stepP P s q)
def putK (P : Int) : Nat → Int → Pr → Pr
  | 0, _, q => q
  | n + 1, s, q => if (q.2.count s : Int) ≤ P + 1 then q else putK P n (2 * s) (merge s q)

theorem fstI_lt {s : Int} {ss : List Int} (h : 1 ≤ ss.count s) : fstI s ss < ss.length ∧ ss[fstI s ss]? = some s := by
  have hm : s ∈ ss := List.count_pos_iff.1 (by omega)
  have hl : fstI s ss < ss.length := List.findIdx_lt_length_of_exists ⟨s, hm, by simp⟩
  refine ⟨hl, ?_⟩
  have := List.findIdx_getElem (p := (· == s)) (xs := ss) (w := hl)
  have e : ss[fstI s ss]'hl = s := eq_of_beq this
  rw [List.getElem?_eq_getElem hl, e]
theorem fst_take {s : Int} {ss : List Int} : (ss.take (fstI s ss)).count s = 0 := by
  rw [List.count_eq_zero]
  intro hm
  rw [List.mem_take_iff_getElem] at hm
  obtain ⟨j, hj, he⟩ := hm
  have hj1 : j < ss.findIdx (· == s) := by unfold fstI at hj; omega
  have := List.not_of_lt_findIdx hj1
  simp at this
  exact this he
theorem fstI_two {s : Int} {ss : List Int} (h : 2 ≤ ss.count s) : fstI s ss + 1 < ss.length := by
  have h1 : ss.count s = (ss.take (fstI s ss)).count s + (ss.drop (fstI s ss)).count s := by rw [← List.count_append, List.take_append_drop]
  rw [fst_take] at h1
  have h2 := List.count_le_length (a := s) (l := ss.drop (fstI s ss))
  rw [List.length_drop] at h2
  omega
theorem split2 {ss : List Int} {i : Nat} (h : i + 1 < ss.length) : ∃ y, ss = ss.take i ++ ss[i]'(by omega) :: y :: ss.drop (i + 2) := by
  refine ⟨ss[i + 1], ?_⟩
  rw [List.getElem_cons_drop, List.getElem_cons_drop, List.take_append_drop]

theorem mg_count {s z : Int} {ss : List Int} (h : 2 ≤ ss.count s) : (mgS ss s (fstI s ss)).count z ≤ ss.count z + (if z = 2 * s then 1 else 0) := by
  have hl := fstI_two h
  obtain ⟨y, hy⟩ := split2 hl
  unfold mgS
  have hc : ss.count z = (ss.take (fstI s ss)).count z + ((ss[fstI s ss]'(by omega)) :: y :: ss.drop (fstI s ss + 2)).count z := by
    rw [← List.count_append, ← hy]
  rw [List.count_append, hc]
  simp only [List.count_cons]
  by_cases hz : z = 2 * s
  · subst hz; simp; omega
  · have : (2 * s == z) = false := by simpa using fun e => hz e.symm
    simp only [this, if_neg hz]
    simp
    omega
theorem mg_count_s {s : Int} {ss : List Int} (hs : 1 ≤ s) (h : 2 ≤ ss.count s) : (mgS ss s (fstI s ss)).count s + 1 ≤ ss.count s := by
  have hl := fstI_two h
  have hf := (fstI_lt (by omega : 1 ≤ ss.count s))
  obtain ⟨y, hy⟩ := split2 hl
  have he : ss[fstI s ss]'(by omega) = s := by
    have := hf.2
    rw [List.getElem?_eq_getElem (by omega)] at this
    simpa using this
  rw [he] at hy
  unfold mgS
  have hc : ss.count s = (ss.take (fstI s ss)).count s + (s :: y :: ss.drop (fstI s ss + 2)).count s := by
    rw [← List.count_append, ← hy]
  rw [List.count_append, hc]
  simp only [List.count_cons]
  have : (2 * s == s) = false := by simp; omega
  simp only [this]
  simp
  omega
theorem mg_len {s : Int} {q : Pr} (hl : q.1.length = q.2.length) (h : 2 ≤ q.2.count s) : (merge s q).1.length + 1 = q.1.length ∧ (merge s q).2.length + 1 = q.2.length ∧ (merge s q).1.length = (merge s q).2.length := by
  have := fstI_two h
  unfold merge mgT mgS
  simp
  omega

/-- How often sizes stand, ahead of size s = 2^j. -/
structure PInv (P : Int) (j : Nat) (q : Pr) : Prop where
  len : q.1.length = q.2.length
  oth : ∀ z, z ≠ 2 ^ j → (q.2.count z : Int) ≤ P + 1
  own : (q.2.count (2 ^ j) : Int) ≤ P + 2
  big : j ≤ 20 → ∀ z, 1048576 < z → q.2.count z = 0
  end_ : j = 21 → q.2.count (2 ^ j) ≤ 1

theorem pinv_step {P : Int} (hP : 1 ≤ P) {j : Nat} (hj : j ≤ 20) {q : Pr} (h : PInv P j q) (hc : ¬ (q.2.count ((2 : Int) ^ j) : Int) ≤ P + 1) : PInv P (j + 1) (merge (2 ^ j) q) ∧ ((merge (2 ^ j) q).2.count ((2 : Int) ^ j) : Int) ≤ P + 1 := by
  have hp : (1 : Int) ≤ 2 ^ j := by have : (0 : Int) < 2 ^ j := Int.pow_pos (by omega); omega
  have h2 : 2 ≤ q.2.count ((2 : Int) ^ j) := by omega
  have hs := mg_count_s hp h2
  have h0 := h.own
  have hml := mg_len h.len h2
  have hown : ((merge (2 ^ j) q).2.count ((2 : Int) ^ j) : Int) ≤ P + 1 := by unfold merge; simp only; omega
  have e2 : (2 : Int) * 2 ^ j = 2 ^ (j + 1) := by rw [Int.pow_succ]; omega
  refine ⟨⟨hml.2.2, ?_, ?_, ?_, ?_⟩, hown⟩
  · intro z hz
    by_cases hzj : z = 2 ^ j
    · subst hzj; exact hown
    · have := mg_count (z := z) h2
      rw [if_neg (by rw [e2]; exact hz)] at this
      have := h.oth z hzj
      unfold merge; simp only; omega
  · have := mg_count (z := (2 : Int) ^ (j + 1)) h2
    rw [if_pos e2.symm] at this
    have := h.oth ((2 : Int) ^ (j + 1)) (by rw [← e2]; omega)
    unfold merge; simp only; omega
  · intro hj1 z hz
    have := mg_count (z := z) h2
    have hb := h.big hj z hz
    have : (2 : Int) ^ (j + 1) ≤ 1048576 := by
      have h1 : (2 : Nat) ^ (j + 1) ≤ 2 ^ 20 := Nat.pow_le_pow_right (by omega) hj1
      have h3 : ((2 : Int) ^ (j + 1)) = (((2 : Nat) ^ (j + 1) : Nat) : Int) := by simp
      rw [h3]; omega
    rw [if_neg (by rw [e2]; omega)] at *
    unfold merge; simp only; omega
  · intro hj1
    have hz : (1048576 : Int) < 2 ^ (j + 1) := by
      have : j = 20 := by omega
      subst this; decide
    have := mg_count (z := (2 : Int) ^ (j + 1)) h2
    rw [if_pos e2.symm] at this
    have hb := h.big hj _ hz
    unfold merge; simp only; omega
theorem pinv_skip {P : Int} (hP : 1 ≤ P) {j : Nat} (hj : j ≤ 20) {q : Pr} (h : PInv P j q) (hc : (q.2.count ((2 : Int) ^ j) : Int) ≤ P + 1) : PInv P (j + 1) q ∧ ∀ z, (q.2.count z : Int) ≤ P + 1 := by
  have hall : ∀ z, (q.2.count z : Int) ≤ P + 1 := by
    intro z
    by_cases hz : z = 2 ^ j
    · subst hz; exact hc
    · exact h.oth z hz
  refine ⟨⟨h.len, fun z _ => hall z, by have := hall (2 ^ (j + 1)); omega, fun hj1 => h.big hj, fun hj1 => ?_⟩, hall⟩
  have : j = 20 := by omega
  subst this
  rw [h.big (by omega) _ (by decide)]; omega

theorem implK_id {P : Int} : ∀ (n : Nat) (s : Int) (q : Pr), (∀ z, (q.2.count z : Int) ≤ P + 1) → implK P n s q = q := by
  intro n
  induction n with
  | zero => intro s q _; rfl
  | succ n ih =>
    intro s q h
    unfold implK stepP
    rw [if_pos (h s)]
    exact ih _ _ h
theorem putK_id {P : Int} : ∀ (n : Nat) (s : Int) (q : Pr), (∀ z, (q.2.count z : Int) ≤ P + 1) → putK P n s q = q := by
  intro n s q h
  cases n with
  | zero => rfl
  | succ n => unfold putK; rw [if_pos (h s)]
theorem put_impl {P : Int} (hP : 1 ≤ P) : ∀ (n j : Nat) (q : Pr), n + j ≤ 21 → PInv P j q → putK P n (2 ^ j) q = implK P n (2 ^ j) q := by
  intro n
  induction n with
  | zero => intro j q _ _; rfl
  | succ n ih =>
    intro j q hj h
    unfold putK implK stepP
    have e2 : (2 : Int) * 2 ^ j = 2 ^ (j + 1) := by rw [Int.pow_succ]; omega
    by_cases hc : (q.2.count ((2 : Int) ^ j) : Int) ≤ P + 1
    · rw [if_pos hc, if_pos hc]
      exact (implK_id _ _ _ (pinv_skip hP (by omega) h hc).2).symm
    · rw [if_neg hc, if_neg hc, e2]
      exact ih (j + 1) _ (by omega) (pinv_step hP (by omega) h hc).1

/-- In a valid window each size stands P + 1 times at most. -/
theorem run_count {P : Int} {ss : List Int} (h : ∀ k, k < ss.length → sizeOk P ss k = true) : ∀ k, k ≤ ss.length → (∀ z, ((ss.take k).count z : Int) ≤ P + 1 ∨ k = 0) ∧ (∀ z, 0 < k → z = at0 ss (k - 1) → ((ss.take k).count z : Int) = runK ss k) ∧ (∀ z, 0 < k → z < at0 ss (k - 1) → (ss.take k).count z = 0) := by
  intro k
  induction k with
  | zero => intro _; exact ⟨fun z => .inr rfl, fun z h => by omega, fun z h => by omega⟩
  | succ k ih =>
    intro hk
    obtain ⟨i1, i2, i3⟩ := ih (by omega)
    have hs := h k (by omega)
    simp only [sizeOk, Bool.and_eq_true, Bool.or_eq_true, decide_eq_true_eq, beq_iff_eq] at hs
    obtain ⟨⟨hp, hd⟩, hr⟩ := hs
    have ht : ss.take (k + 1) = ss.take k ++ [at0 ss k] := by
      rw [List.take_add_one, List.getElem?_eq_getElem (by omega)]
      simp [at0, List.getElem?_eq_getElem (show k < ss.length by omega)]
    have hc : ∀ z, (ss.take (k + 1)).count z = (ss.take k).count z + (if z = at0 ss k then 1 else 0) := by
      intro z
      rw [ht, List.count_append, List.count_singleton]
      by_cases hz : z = at0 ss k
      · subst hz; simp
      · have : (at0 ss k == z) = false := by simpa using fun e => hz e.symm
        simp [this, hz]
    have own : ((ss.take (k + 1)).count (at0 ss k) : Int) = runK ss (k + 1) := by
      rw [hc, if_pos rfl]
      by_cases hk0 : k = 0
      · subst hk0; simp [runK]
      · by_cases he : at0 ss k = at0 ss (k - 1)
        · rw [runK_same (by omega) he]
          have := i2 (at0 ss k) (by omega) he
          omega
        · rw [runK_new he]
          have : at0 ss k < at0 ss (k - 1) := by rcases hd with h1 | h1 <;> omega
          rw [i3 _ (by omega) this]; rfl
    refine ⟨fun z => .inl ?_, fun z _ hz => ?_, fun z _ hz => ?_⟩
    · by_cases hz : z = at0 ss k
      · subst hz; omega
      · rw [hc, if_neg hz]
        rcases i1 z with h1 | h1
        · simpa using h1
        · subst h1
          have h2 := runK_bd ss (0 + 1)
          simp
          have : 1 ≤ runK ss (0 + 1) := by simp [runK]
          omega
    · simp only [Nat.add_sub_cancel] at hz
      subst hz; exact own
    · simp only [Nat.add_sub_cancel] at hz
      rw [hc, if_neg (by omega)]
      by_cases hk0 : k = 0
      · subst hk0; simp
      · have : z < at0 ss (k - 1) := by rcases hd with h1 | h1 <;> omega
        rw [i3 z (by omega) this]

theorem win_count {L P : Int} {ts ss : List Int} (h : winB L P ts ss = true) (z : Int) : (ss.count z : Int) ≤ P + 1 := by
  obtain ⟨_, _, h3, _, _, h6, _, h8⟩ := winB_parts h
  have := (run_count (P := P) (ss := ss) (by rw [h6]; exact h8) ss.length (Nat.le_refl _)).1 z
  rw [List.take_length] at this
  rcases this with h1 | h1
  · exact h1
  · have : ss = [] := List.eq_nil_of_length_eq_zero h1
    subst this; simp; omega
theorem win_big {L P : Int} {ts ss : List Int} (h : winB L P ts ss = true) (z : Int) (hz : 1048576 < z) : ss.count z = 0 := by
  obtain ⟨_, _, h3, _, _, h6, _, h8⟩ := winB_parts h
  rw [List.count_eq_zero]
  intro hm
  obtain ⟨k, hk, he⟩ := List.getElem_of_mem hm
  have hs := h8 k (by omega)
  simp only [sizeOk, Bool.and_eq_true] at hs
  have := (isPow_bd hs.1.1).2
  simp [at0, List.getElem?_eq_getElem hk] at this
  omega

/-- The window ahead of the merges: what is kept, and the new bit. -/
def put0 (ks xs : List Int) (t : Int) (b : Bool) : Pr := if b then (ks ++ [t], xs ++ [1]) else (ks, xs)
theorem put0_inv {L P : Int} {ts ss : List Int} (h : winB L P ts ss = true) (n : Nat) (t : Int) (b : Bool) : PInv P 0 (put0 (ts.drop n) (ss.drop n) t b) := by
  obtain ⟨_, _, h3, _, _, h6, _, _⟩ := winB_parts h
  have hc : ∀ z, ((ss.drop n).count z : Int) ≤ P + 1 := by
    intro z
    have h1 := win_count h z
    have h2 : ss.count z = (ss.take n).count z + (ss.drop n).count z := by rw [← List.count_append, List.take_append_drop]
    omega
  have hb : ∀ z, 1048576 < z → (ss.drop n).count z = 0 := by
    intro z hz
    have h1 := win_big h z hz
    have h2 : ss.count z = (ss.take n).count z + (ss.drop n).count z := by rw [← List.count_append, List.take_append_drop]
    omega
  cases b with
  | false => exact ⟨by simp [put0, h6], fun z _ => hc z, by have := hc (2 ^ 0); show ((ss.drop n).count _ : Int) ≤ _; omega, fun _ => hb, fun h => by omega⟩
  | true =>
    have hq : ∀ z, (put0 (ts.drop n) (ss.drop n) t true).2.count z = (ss.drop n).count z + (if z = 1 then 1 else 0) := by
      intro z
      show (ss.drop n ++ [1]).count z = _
      rw [List.count_append, List.count_singleton]
      by_cases hz : z = 1
      · subst hz; simp
      · have : ((1 : Int) == z) = false := by simpa using fun e => hz e.symm
        simp [this, hz]
    refine ⟨by simp [put0, h6], fun z hz => ?_, ?_, fun _ z hz => ?_, fun h => by omega⟩
    · rw [hq, if_neg (by simpa using hz)]; simpa using hc z
    · rw [hq]
      have := hc (2 ^ 0)
      have e : ((2 : Int) ^ 0) = 1 := rfl
      rw [e] at this ⊢
      simp; omega
    · rw [hq, if_neg (by omega)]; simpa using hb z hz

/-- What becomes of a window. -/
def putR (P : Int) (q : Pr) : Pr := putK P 21 1 q
theorem putR_impl {L P : Int} {ts ss : List Int} (h : winB L P ts ss = true) (n : Nat) (t : Int) (b : Bool) : putR P (put0 (ts.drop n) (ss.drop n) t b) = implK P 21 1 (put0 (ts.drop n) (ss.drop n) t b) := by
  have h3 := (winB_parts h).2.2.1
  have := put_impl h3 21 0 _ (by omega) (put0_inv h n t b)
  simpa [putR] using this

end Go.Proofs.YtockifchghllhaaDoor
