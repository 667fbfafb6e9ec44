/- The pairs of indices for which a test holds; bands of lists of bits. No program here. -/
import Derived.Test.YtofbnddmahjanaaLib
namespace Go.Proofs.Ytofbnddmahjanaa

/-- The pairs (i, j), i < j < k, for which t i j holds. -/
def prow (t : Nat → Nat → Bool) (i k : Nat) : List Int := ((List.range' (i + 1) (k - (i + 1))).filter (t i)).flatMap fun (j : Nat) => [(i : Int), (j : Int)]
/-- The pairs of the first i rows. -/
def prows (t : Nat → Nat → Bool) (n i : Nat) : List Int := (List.range i).flatMap fun j => prow t j n
def pairsR (t : Nat → Nat → Bool) (n : Nat) : List Int := prows t n n

theorem prow_zero (t : Nat → Nat → Bool) (i : Nat) : prow t i (i + 1) = [] := by simp [prow]
theorem prow_succ (t : Nat → Nat → Bool) {i k : Nat} (h : i < k) : prow t i (k + 1) = prow t i k ++ if t i k then [(i : Int), (k : Int)] else [] := by
  unfold prow
  have : k + 1 - (i + 1) = (k - (i + 1)) + 1 := by omega
  rw [this, List.range'_concat, List.filter_append, List.flatMap_append]
  have e : i + 1 + 1 * (k - (i + 1)) = k := by omega
  rw [e]
  by_cases ht : t i k = true <;> simp [ht]
theorem prows_zero (t : Nat → Nat → Bool) (n : Nat) : prows t n 0 = [] := rfl
theorem prows_succ (t : Nat → Nat → Bool) (n i : Nat) : prows t n (i + 1) = prows t n i ++ prow t i n := by
  unfold prows
  rw [List.range_succ, List.flatMap_append]; simp
theorem prow_len (t : Nat → Nat → Bool) (i k : Nat) : (prow t i k).length ≤ 2 * (k - (i + 1)) := by
  unfold prow
  have h : ∀ l : List Nat, (l.flatMap fun (j : Nat) => [(i : Int), (j : Int)]).length = 2 * l.length := by
    intro l; induction l with
    | nil => rfl
    | cons x l ih => simp only [List.flatMap_cons, List.length_append, ih, List.length_cons, List.length_nil]; omega
  rw [h]
  have := List.length_filter_le (t i) (List.range' (i + 1) (k - (i + 1)))
  rw [List.length_range'] at this
  omega
theorem prows_len (t : Nat → Nat → Bool) (n i : Nat) : (prows t n i).length ≤ 2 * n * i := by
  induction i with
  | zero => simp [prows]
  | succ i ih =>
    rw [prows_succ, List.length_append, Nat.mul_succ]
    have := prow_len t i n
    omega

/-- Row i of a list of lists. -/
def rowAt {α : Type} (xss : List (List α)) (i : Nat) : List α := xss[i]?.getD []
theorem rowAt_get {α : Type} {xss : List (List α)} {i : Nat} (h : i < xss.length) : rowAt xss i = xss[i] := by simp [rowAt, h]

/-- Band j of a list. -/
def bandOf {α : Type} (xs : List α) (w j : Nat) : List α := (xs.drop (j * w)).take w
/-- Is a band of two lists equal, from band 0 to band m? -/
def bandTo (xs ys : List Bool) (w m : Nat) : Bool := (List.range m).any fun j => decide (bandOf xs w j = bandOf ys w j)
theorem bandTo_succ_no {xs ys : List Bool} {w m : Nat} (h : bandTo xs ys w m = false) (h2 : decide (bandOf xs w m = bandOf ys w m) = false) : bandTo xs ys w (m + 1) = false := by
  unfold bandTo at *
  rw [List.range_succ, List.any_append, h]; simp [h2]
theorem bandTo_yes {xs ys : List Bool} {w m n : Nat} (h2 : decide (bandOf xs w m = bandOf ys w m) = true) (hm : m < n) : bandTo xs ys w n = true := by
  unfold bandTo
  rw [List.any_eq_true]
  exact ⟨m, by simpa using hm, h2⟩

theorem slice_take_drop {α : Type} (xs : List α) (a b : Nat) (h : a ≤ b) : (xs.take b).drop a = (xs.drop a).take (b - a) := by
  rw [List.drop_take]

end Go.Proofs.Ytofbnddmahjanaa
