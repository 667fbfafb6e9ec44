/- EdgeSketch, both texts. FnForests, the plain law: a sketch's cells are sums over the edges. FnForests' plain law: a few edges; what a node with one edge is told. Plain. -/
import Derived.Test.YtfecdmenliohhaaQFo27
import Derived.Test.YtfecdmenliohhaaQFo28
import Derived.Test.YtfecdmenliohhaaQFo11
import Derived.Test.YtfecdmenliohhaaQFo10
set_option linter.unusedVariables false
set_option linter.unusedSimpArgs false
namespace Go.Proofs.Ytfecdmenliohhaa
open Go.RowKit

def eskB (n : Int) (xs : List Int) (v s : Int) : Bool := edgesB n xs && inR v 0 (n - 1) && isKey s
def eskR (n : Int) (xs : List Int) (v s : Int) : List Int := if eskB n xs v s then esk n v s xs (xs.length / 2) else []
theorem eskR_len (n : Int) (xs : List Int) (v s : Int) : (eskR n xs v s).length ≤ 48 := by
  unfold eskR
  split
  · rw [esk_length]; omega
  · simp

set_option maxHeartbeats 400000 in
theorem implSketch_any {a1 : Option Addr} {c1 : Nat} {xs : List Int} {n v s : Int} {w : World} (hr : Rd (Value.int .i64) w a1 c1 xs) :
    Calls Try.prog 13 #[.int .i64 n, .slice a1 xs.length c1, .int .i64 v, .int .i64 s] w (RetSB (Value.int .i64) 2 w (eskR n xs v s) (eskB n xs v s)) := by
  cases he : edgesB n xs with
  | false =>
    have e1 : eskR n xs v s = [] := by simp [eskR, eskB, he]
    have e2 : eskB n xs v s = false := by simp [eskB, he]
    rw [e1, e2]
    clear e1 e2
    go_enter Try.func13, Try.ntmps13
    go_wp2_with fail
    refine (areEdges_any hr).mono ?_
    rintro e w1 ⟨rfl, hb1⟩
    go_wp2
    go_ret2
    exact retSB_no hb1
  | true =>
    cases hv : inR v 0 (n - 1) with
    | false =>
      have e1 : eskR n xs v s = [] := by simp [eskR, eskB, hv]
      have e2 : eskB n xs v s = false := by simp [eskB, hv]
      rw [e1, e2]
      obtain ⟨hn1, hn2, _⟩ := edges_bd he
      clear e1 e2
      go_enter Try.func13, Try.ntmps13
      go_wp2_with fail
      refine (areEdges_any hr).mono ?_
      rintro e w1 ⟨rfl, hb1⟩
      go_wp2_with fail
      refine (within_any _ _ _ _).mono ?_
      rintro e w2 ⟨rfl, rfl⟩
      go_wp2
      go_ret2
      exact retSB_no hb1
    | true =>
      cases hs : isKey s with
      | false =>
        have e1 : eskR n xs v s = [] := by simp [eskR, eskB, hs]
        have e2 : eskB n xs v s = false := by simp [eskB, hs]
        rw [e1, e2]
        obtain ⟨hn1, hn2, _⟩ := edges_bd he
        clear e1 e2
        go_enter Try.func13, Try.ntmps13
        go_wp2_with fail
        refine (areEdges_any hr).mono ?_
        rintro e w1 ⟨rfl, hb1⟩
        go_wp2_with fail
        refine (within_any _ _ _ _).mono ?_
        rintro e w2 ⟨rfl, rfl⟩
        go_wp2_with fail
        refine implIsKey_any.mono ?_
        rintro e w2 ⟨rfl, rfl⟩
        go_wp2
        go_ret2
        exact retSB_no hb1
      | true =>
        have := implSketch_yes hr he hv hs
        simpa [eskR, eskB, he, hv, hs] using this

end Go.Proofs.Ytfecdmenliohhaa

set_option linter.unusedSimpArgs false
set_option linter.unusedVariables false
namespace Go.Proofs.Ytfecdmenliohhaa
open Go.RowKit

/-- The r-th power, r below 3. -/
def pow3 (m : Int) (r : Nat) : Int := if r = 0 then 1 else if r = 1 then m else m * m
/-- What an edge adds to cell i. -/
def ctr (s m : Int) (L i : Nat) : Int := if i / 3 < L then s * pow3 m (i % 3) else 0
theorem bump_get (O : List Int) (i j : Nat) (v : Int) (hi : i < O.length) : (bump O i v)[j]?.getD 0 = if j = i then wrap64 (O[i]?.getD 0 + v) else O[j]?.getD 0 := by
  unfold bump
  by_cases h : j = i
  · subst h; simp [hi]
  · rw [if_neg h, List.getElem?_set_ne (Ne.symm h)]
theorem wrap64_small {x : Int} (h1 : -4611686018427387904 ≤ x) (h2 : x ≤ 4611686018427387904) : wrap64 x = x := by
  simp [wrap64, IntKind.wrap, IntKind.min, IntKind.max, IntKind.signed, IntKind.bits]
  omega
theorem sm_bd {s m : Int} (hs : s = 0 ∨ s = 1 ∨ s = -1) (hm0 : 0 ≤ m) (hm : m ≤ 1024) : -1048576 ≤ s * m * m ∧ s * m * m ≤ 1048576 ∧ -1048576 ≤ s * m ∧ s * m ≤ 1048576 := by
  have h1 : 0 ≤ m * m := Int.mul_nonneg hm0 hm0
  have h2 : m * m ≤ 1024 * 1024 := Int.mul_le_mul hm hm hm0 (by omega)
  rcases hs with rfl | rfl | rfl <;> simp only [Int.zero_mul, Int.one_mul, Int.neg_mul] <;> omega
theorem lev3_get {s m : Int} {O : List Int} {l i : Nat} (hO : O.length = 48) (hl : l < 16) (hs : s = 0 ∨ s = 1 ∨ s = -1) (hm0 : 0 ≤ m) (hm : m ≤ 1024) (hb : ∀ j : Nat, -1000000000 ≤ O[j]?.getD 0 ∧ O[j]?.getD 0 ≤ 1000000000) :
    (lev3 s m O l)[i]?.getD 0 = O[i]?.getD 0 + if i / 3 = l then s * pow3 m (i % 3) else 0 := by
  obtain ⟨b1, b2, b3, b4⟩ := sm_bd hs hm0 hm
  have c0 := hb (3 * l)
  have c1 := hb (3 * l + 1)
  have c2 := hb (3 * l + 2)
  have w0 := wrap64_small (x := O[3 * l]?.getD 0 + s) (by omega) (by omega)
  have w1 := wrap64_small (x := O[3 * l + 1]?.getD 0 + s * m) (by omega) (by omega)
  have w2 := wrap64_small (x := O[3 * l + 2]?.getD 0 + s * m * m) (by omega) (by omega)
  have gA := fun j : Nat => bump_get O (3 * l) j s (by omega)
  have gB := fun j : Nat => bump_get (bump O (3 * l) s) (3 * l + 1) j (s * m) (by rw [bump_length]; omega)
  have gC := bump_get (bump (bump O (3 * l) s) (3 * l + 1) (s * m)) (3 * l + 2) i (s * m * m) (by rw [bump_length, bump_length]; omega)
  unfold lev3
  rw [gC, gB, gB, gA, gA, gA]
  rw [if_neg (show ¬ 3 * l + 2 = 3 * l + 1 by omega), if_neg (show ¬ 3 * l + 2 = 3 * l by omega), if_neg (show ¬ 3 * l + 1 = 3 * l by omega), w0, w1, w2]
  by_cases h0 : i = 3 * l
  · subst h0
    have e1 : 3 * l / 3 = l := by omega
    have e2 : 3 * l % 3 = 0 := by omega
    simp [e1, e2, pow3]
  · by_cases h1 : i = 3 * l + 1
    · subst h1
      have e1 : (3 * l + 1) / 3 = l := by omega
      have e2 : (3 * l + 1) % 3 = 1 := by omega
      simp [e1, e2, pow3]
    · by_cases h2 : i = 3 * l + 2
      · subst h2
        have e1 : (3 * l + 2) / 3 = l := by omega
        have e2 : (3 * l + 2) % 3 = 2 := by omega
        simp [e1, e2, pow3, Int.mul_assoc]
      · have e1 : ¬ i / 3 = l := by omega
        simp [h0, h1, h2, e1]
theorem ctr_bd {s m : Int} {L i : Nat} (hs : s = 0 ∨ s = 1 ∨ s = -1) (hm0 : 0 ≤ m) (hm : m ≤ 1024) : -1048576 ≤ ctr s m L i ∧ ctr s m L i ≤ 1048576 := by
  obtain ⟨b1, b2, b3, b4⟩ := sm_bd hs hm0 hm
  rw [Int.mul_assoc] at b1 b2
  unfold ctr pow3
  split
  · split
    · rcases hs with rfl | rfl | rfl <;> simp
    · split <;> omega
  · omega
theorem levs_get {s m : Int} {O : List Int} (hO : O.length = 48) (hs : s = 0 ∨ s = 1 ∨ s = -1) (hm0 : 0 ≤ m) (hm : m ≤ 1024) (hb : ∀ j : Nat, -100000000 ≤ O[j]?.getD 0 ∧ O[j]?.getD 0 ≤ 100000000) :
    ∀ (L : Nat), L ≤ 16 → ∀ i : Nat, (levs s m O L)[i]?.getD 0 = O[i]?.getD 0 + ctr s m L i := by
  intro L
  induction L with
  | zero => intro _ i; simp [levs, ctr]
  | succ L ih =>
    intro hL i
    have ih := ih (by omega)
    rw [levs_succ, lev3_get (by rw [levs_length]; exact hO) (by omega) hs hm0 hm (fun j => by
      have h1 := ih j
      have h2 := hb j
      have h3 := ctr_bd (L := L) (i := j) hs hm0 hm
      rw [h1]; omega), ih i]
    unfold ctr
    by_cases h : i / 3 = L
    · rw [if_pos h, if_neg (by omega), if_pos (by omega)]; omega
    · rw [if_neg h]
      by_cases h2 : i / 3 < L
      · rw [if_pos h2, if_pos (by omega)]; omega
      · rw [if_neg h2, if_neg (by omega)]; omega
/-- A sum. -/
def sumF (f : Nat → Int) : Nat → Int
  | 0 => 0
  | k + 1 => sumF f k + f k
theorem sumF_bd {f : Nat → Int} {B : Int} (hB : 0 ≤ B) (k : Nat) (h : ∀ j, j < k → -B ≤ f j ∧ f j ≤ B) : -(B * k) ≤ sumF f k ∧ sumF f k ≤ B * k := by
  induction k with
  | zero => simp [sumF]
  | succ k ih =>
    have h1 := ih fun j hj => h j (by omega)
    have h2 := h k (by omega)
    have e : B * ((k + 1 : Nat) : Int) = B * (k : Int) + B := by rw [Int.natCast_add, Int.mul_add]; simp
    rw [e]
    unfold sumF
    omega
theorem sumF_add (f g : Nat → Int) (k : Nat) : sumF (fun j => f j + g j) k = sumF f k + sumF g k := by
  induction k with
  | zero => rfl
  | succ k ih => simp only [sumF, ih]; omega
theorem sumF_congr {f g : Nat → Int} {k : Nat} (h : ∀ j, j < k → f j = g j) : sumF f k = sumF g k := by
  induction k with
  | zero => rfl
  | succ k ih => rw [sumF, sumF, ih fun j hj => h j (by omega), h k (by omega)]
theorem sumF_zero (k : Nat) : sumF (fun _ => 0) k = 0 := by
  induction k with
  | zero => rfl
  | succ k ih => simp [sumF, ih]
theorem sumF_swap (f : Nat → Nat → Int) (k l : Nat) : sumF (fun i => sumF (f i) l) k = sumF (fun j => sumF (fun i => f i j) k) l := by
  induction k with
  | zero => simp [sumF, sumF_zero]
  | succ k ih => simp only [sumF, ih, sumF_add]
/-- Edge j's smaller end, its greater end, its number. -/
def eA (xs : List Int) (j : Nat) : Int := min (xs[2 * j]?.getD 0) (xs[2 * j + 1]?.getD 0)
def eB (xs : List Int) (j : Nat) : Int := max (xs[2 * j]?.getD 0) (xs[2 * j + 1]?.getD 0)
def eM (n : Int) (xs : List Int) (j : Nat) : Int := eA xs j * n + eB xs j
/-- What edge j adds to cell i of node v's sketch. -/
def eC (n v salt : Int) (xs : List Int) (i j : Nat) : Int := ctr (sgnE (eA xs j) (eB xs j) v) (eM n xs j) (levN (eM n xs j) salt) i
theorem sgnE_cases (a b v : Int) : sgnE a b v = 0 ∨ sgnE a b v = 1 ∨ sgnE a b v = -1 := by
  unfold sgnE
  split
  · exact .inr (.inl rfl)
  · split
    · exact .inr (.inr rfl)
    · exact .inl rfl
theorem esk_get {n v salt : Int} {xs : List Int} (hM : ∀ j : Nat, 0 ≤ eM n xs j ∧ eM n xs j ≤ 1024) : ∀ (k : Nat), k ≤ 32 → ∀ i : Nat, (esk n v salt xs k)[i]?.getD 0 = sumF (eC n v salt xs i) k := by
  intro k
  induction k with
  | zero =>
    intro _ i
    simp only [esk, List.range_zero, List.foldl_nil, sumF]
    rw [List.getElem?_replicate]
    split <;> rfl
  | succ k ih =>
    intro hk i
    have ih := ih (by omega)
    have hL : levN (eM n xs k) salt ≤ 16 := Nat.min_le_left _ _
    rw [esk_succ]
    show (levs (sgnE (eA xs k) (eB xs k) v) (eM n xs k) (esk n v salt xs k) (levN (eM n xs k) salt))[i]?.getD 0 = _
    rw [levs_get (esk_length _ _ _ _ _) (sgnE_cases _ _ _) (hM k).1 (hM k).2 (fun j => by
      rw [ih j]
      have := sumF_bd (f := eC n v salt xs j) (B := 1048576) (by omega) k fun j' _ => ctr_bd (sgnE_cases _ _ _) (hM j').1 (hM j').2
      omega) _ hL, ih i]
    rfl
/-- Nodes' signs of an edge add up to nothing. -/
theorem sumF_one (a : Nat) (N : Nat) : sumF (fun v => if (a : Int) = (v : Int) then 1 else 0) N = if a < N then 1 else 0 := by
  induction N with
  | zero => simp [sumF]
  | succ N ih =>
    rw [sumF, ih]
    by_cases h : a = N
    · subst h; simp
    · rw [if_neg (show ¬ (a : Int) = (N : Int) by omega)]
      by_cases h2 : a < N
      · rw [if_pos h2, if_pos (by omega)]; rfl
      · rw [if_neg h2, if_neg (by omega)]; rfl
theorem sgn_sum {a b N : Nat} (ha : a < N) (hb : b < N) (hab : a ≠ b) : sumF (fun v => sgnE a b v) N = 0 := by
  have e : ∀ v : Nat, sgnE (a : Int) (b : Int) (v : Int) = (if (a : Int) = (v : Int) then 1 else 0) + (-1) * (if (b : Int) = (v : Int) then 1 else 0) := by
    intro v
    unfold sgnE
    by_cases h1 : (a : Int) = (v : Int)
    · have h2 : ¬ (b : Int) = (v : Int) := by omega
      simp [h1, h2]
    · by_cases h2 : (b : Int) = (v : Int)
      · simp [h1, h2]
      · simp [h1, h2]
  have m1 : ∀ (f : Nat → Int) (k : Nat), sumF (fun v => (-1) * f v) k = (-1) * sumF f k := by
    intro f k
    induction k with
    | zero => rfl
    | succ k ih => rw [sumF, sumF, ih]; omega
  rw [sumF_congr (g := fun v : Nat => (if (a : Int) = (v : Int) then 1 else 0) + (-1) * (if (b : Int) = (v : Int) then 1 else 0)) fun j _ => e j, sumF_add, m1, sumF_one, sumF_one, if_pos ha, if_pos hb]
  rfl
theorem sumF_mulr (f : Nat → Int) (c : Int) (k : Nat) : sumF (fun j => f j * c) k = sumF f k * c := by
  induction k with
  | zero => simp [sumF]
  | succ k ih => rw [sumF, sumF, ih, Int.add_mul]
/-- All nodes' sketches add up to nothing. -/
theorem eC_sum {N : Nat} {salt : Int} {xs : List Int} {i j : Nat} (h : ∃ a b : Nat, eA xs j = a ∧ eB xs j = b ∧ a < N ∧ b < N ∧ a ≠ b) : sumF (fun v => eC N v salt xs i j) N = 0 := by
  obtain ⟨a, b, ha, hb, h1, h2, h3⟩ := h
  unfold eC ctr
  by_cases hl : i / 3 < levN (eM N xs j) salt
  · simp only [if_pos hl, ha, hb]
    rw [sumF_mulr, sgn_sum h1 h2 h3]
    simp
  · simp only [if_neg hl]
    exact sumF_zero _
theorem sumF_single {f : Nat → Int} {k j0 : Nat} (hj : j0 < k) (h : ∀ j, j < k → j ≠ j0 → f j = 0) : sumF f k = f j0 := by
  induction k with
  | zero => omega
  | succ k ih =>
    rw [sumF]
    by_cases e : j0 = k
    · subst e
      rw [sumF_congr (g := fun _ => 0) fun j hj' => h j (by omega) (by omega), sumF_zero]; omega
    · rw [ih (by omega) fun j hj' hne => h j (by omega) hne, h k (by omega) (by omega)]; omega
theorem levN_pos (m salt : Int) : 0 < levN m salt := by
  have h : ∀ a b : Nat, Nat.min a b = if a ≤ b then a else b := fun a b => Nat.min_def
  unfold levN
  rw [h]
  split <;> omega
/-- A node with one edge: its sketch tells it. -/
theorem edge_one {N k j0 a b : Nat} {v salt : Int} {xs : List Int} (hM : ∀ j : Nat, 0 ≤ eM N xs j ∧ eM N xs j ≤ 1024) (hk : k ≤ 32) (hj : j0 < k) (ha : eA xs j0 = a) (hb : eB xs j0 = b) (hab : a < b) (hbN : b < N) (hv : v = a ∨ v = b)
    (h0 : ∀ j, j < k → j ≠ j0 → sgnE (eA xs j) (eB xs j) v = 0) : edgeOf (esk N v salt xs k) N = some ((a : Int), (b : Int)) := by
  have hs : sgnE (a : Int) (b : Int) v = 1 ∨ sgnE (a : Int) (b : Int) v = -1 := by
    unfold sgnE
    rcases hv with rfl | rfl
    · simp
    · rw [if_neg (by omega)]; simp
  have get : ∀ i : Nat, i < 3 → (esk N v salt xs k)[i]?.getD 0 = sgnE a b v * pow3 (eM N xs j0) i := by
    intro i hi
    rw [esk_get hM k hk i, sumF_single hj fun j hj' hne => by unfold eC ctr; rw [h0 j hj' hne]; simp]
    unfold eC ctr
    have := levN_pos (eM N xs j0) salt
    rw [if_pos (by omega), ha, hb, Nat.mod_eq_of_lt hi]
  have g0 := get 0 (by omega)
  have g1 := get 1 (by omega)
  have g2 := get 2 (by omega)
  have eM0 : eM N xs j0 = ((a * N + b : Nat) : Int) := by unfold eM; rw [ha, hb]; simp
  generalize eM N xs j0 = m at g0 g1 g2 eM0
  simp only [pow3, if_true, if_neg (show ¬ (1 : Nat) = 0 by omega), if_neg (show ¬ (2 : Nat) = 0 by omega), if_neg (show ¬ (2 : Nat) = 1 by omega), Int.mul_one] at g0 g1 g2
  refine edgeOf_some (l := 0) (by omega) (fun j hj => by omega) ?_
  unfold edgeAt
  simp only [Nat.mul_zero, Nat.zero_add, g0, g1, g2]
  generalize sgnE (a : Int) (b : Int) v = s at hs
  have hss : s * s = 1 := by rcases hs with rfl | rfl <;> rfl
  have e1 : s * m * s = m := by rw [Int.mul_comm s m, Int.mul_assoc, hss, Int.mul_one]
  have e2 : s * (m * m) * s = m * m := by rw [Int.mul_comm s (m * m), Int.mul_assoc, hss, Int.mul_one]
  have e3 : s * m * (s * m) = m * m := by
    rw [Int.mul_comm s m, Int.mul_assoc, ← Int.mul_assoc s m s, Int.mul_comm s m, Int.mul_assoc m s s, hss, Int.mul_one]
  have hlt : a * N + b < N * N := by
    have : (a + 1) * N ≤ N * N := Nat.mul_le_mul_right N (by omega)
    rw [Nat.add_mul] at this
    omega
  have hd : (a * N + b) / N = a := by
    rw [Nat.mul_comm, Nat.mul_add_div (by omega), Nat.div_eq_of_lt hbN]; omega
  have hmo : (a * N + b) % N = b := by
    rw [Nat.mul_comm, Nat.mul_add_mod, Nat.mod_eq_of_lt hbN]
  have e4 : m / (N : Int) = a := by rw [eM0, ← Int.natCast_ediv, hd]
  have e5 : m % (N : Int) = b := by rw [eM0, ← Int.natCast_emod, hmo]
  rw [e1, e4, e5, e2, e3]
  rw [if_pos ⟨hs, by rw [eM0]; omega, by rw [eM0]; exact_mod_cast hlt, by omega, rfl⟩]
/-- The sketches of the nodes below v, joined. -/
def allS (n salt : Int) (xs : List Int) (k : Nat) : Nat → List Int
  | 0 => List.replicate 48 0
  | v + 1 => joinS (allS n salt xs k v) (esk n v salt xs k)
theorem allS_len (n salt : Int) (xs : List Int) (k v : Nat) : (allS n salt xs k v).length = 48 := by
  induction v with
  | zero => simp [allS]
  | succ v ih => simp [allS, joinS, ih, esk_length]
theorem zip_get (x y : List Int) (h : x.length = y.length) (i : Nat) : (List.zipWith (· + ·) x y)[i]?.getD 0 = x[i]?.getD 0 + y[i]?.getD 0 := by
  rw [List.getElem?_zipWith]
  by_cases hi : i < x.length
  · rw [List.getElem?_eq_getElem hi, List.getElem?_eq_getElem (by omega : i < y.length)]; rfl
  · rw [List.getElem?_eq_none (by omega : x.length ≤ i), List.getElem?_eq_none (by omega : y.length ≤ i)]; rfl
theorem allS_get {n salt : Int} {xs : List Int} (hM : ∀ j : Nat, 0 ≤ eM n xs j ∧ eM n xs j ≤ 1024) {k : Nat} (hk : k ≤ 32) (v i : Nat) : (allS n salt xs k v)[i]?.getD 0 = sumF (fun u => sumF (eC n u salt xs i) k) v := by
  induction v with
  | zero =>
    simp only [allS, sumF]
    rw [List.getElem?_replicate]
    split <;> rfl
  | succ v ih =>
    simp only [allS, joinS, sumF]
    rw [zip_get _ _ (by rw [allS_len, esk_length]), ih, esk_get hM k hk i]
theorem sums_of {xs : List Int} (hl : xs.length = 48) (h : ∀ i : Nat, -1000000000000 ≤ xs[i]?.getD 0 ∧ xs[i]?.getD 0 ≤ 1000000000000) : sums xs = true := by
  unfold sums
  rw [Bool.and_eq_true]
  refine ⟨by simp [hl], ?_⟩
  rw [List.all_eq_true]
  intro x hx
  obtain ⟨i, hi, rfl⟩ := List.mem_iff_getElem.1 hx
  have := h i
  rw [List.getElem?_eq_getElem hi, Option.getD_some] at this
  rw [inR_eq]
  exact this
theorem esk_bd {n v salt : Int} {xs : List Int} (hM : ∀ j : Nat, 0 ≤ eM n xs j ∧ eM n xs j ≤ 1024) {k : Nat} (hk : k ≤ 32) (i : Nat) : -(1048576 * 32) ≤ sumF (eC n v salt xs i) k ∧ sumF (eC n v salt xs i) k ≤ 1048576 * 32 := by
  have := sumF_bd (f := eC n v salt xs i) (B := 1048576) (by omega) k fun j' _ => ctr_bd (sgnE_cases _ _ _) (hM j').1 (hM j').2
  omega
theorem sums_esk {n v salt : Int} {xs : List Int} (hM : ∀ j : Nat, 0 ≤ eM n xs j ∧ eM n xs j ≤ 1024) {k : Nat} (hk : k ≤ 32) : sums (esk n v salt xs k) = true :=
  sums_of (esk_length _ _ _ _ _) fun i => by
    rw [esk_get hM k hk i]
    have := esk_bd (n := n) (v := v) (salt := salt) (xs := xs) hM hk i
    omega
theorem sums_allS {n salt : Int} {xs : List Int} (hM : ∀ j : Nat, 0 ≤ eM n xs j ∧ eM n xs j ≤ 1024) {k : Nat} (hk : k ≤ 32) {v : Nat} (hv : v ≤ 32) : sums (allS n salt xs k v) = true :=
  sums_of (allS_len _ _ _ _ _) fun i => by
    rw [allS_get hM hk]
    have := sumF_bd (f := fun u : Nat => sumF (eC n u salt xs i) k) (B := 1048576 * 32) (by omega) v fun u _ => esk_bd (n := n) (v := u) (salt := salt) (xs := xs) hM hk i
    omega
/-- All of them: nothing. -/
theorem allS_zero {N : Nat} {salt : Int} {xs : List Int} (hM : ∀ j : Nat, 0 ≤ eM N xs j ∧ eM N xs j ≤ 1024) {k : Nat} (hk : k ≤ 32) (h : ∀ j, j < k → ∃ a b : Nat, eA xs j = a ∧ eB xs j = b ∧ a < N ∧ b < N ∧ a ≠ b) (i : Nat) : (allS N salt xs k N)[i]?.getD 0 = 0 := by
  rw [allS_get hM hk, sumF_swap, sumF_congr (g := fun _ => 0) fun j hj => eC_sum (h j hj), sumF_zero]
/-- No edge in nothing. -/
theorem edgeIn_zero {xs : List Int} {n : Int} (h : ∀ i : Nat, xs[i]?.getD 0 = 0) : edgeIn xs n = none := by
  unfold edgeIn
  split
  · refine edgeOf_none fun j _ => ?_
    unfold edgeAt
    simp [h]
  · rfl
end Go.Proofs.Ytfecdmenliohhaa

set_option linter.unusedSimpArgs false
set_option linter.unusedVariables false
namespace Go.Proofs.Ytfecdmenliohhaa
open Go.RowKit
/-- Edges: both ends below N, apart; j of them. -/
def EdgesOk (N : Nat) (ys : List Int) (j : Nat) : Prop := ys.length = 2 * j ∧ (∀ x ∈ ys, 0 ≤ x ∧ x < N) ∧ ∀ i, i < j → ys[2 * i]?.getD 0 ≠ ys[2 * i + 1]?.getD 0
theorem EdgesOk.snoc {N j : Nat} {ys : List Int} {x y : Int} (h : EdgesOk N ys j) (hx : 0 ≤ x ∧ x < N) (hy : 0 ≤ y ∧ y < N) (hne : x ≠ y) : EdgesOk N ((ys ++ [x]) ++ [y]) (j + 1) := by
  obtain ⟨h1, h2, h3⟩ := h
  refine ⟨by simp [h1]; omega, fun z hz => ?_, fun i hi => ?_⟩
  · simp only [List.append_assoc, List.mem_append, List.mem_cons, List.not_mem_nil, or_false, List.cons_append, List.nil_append] at hz
    rcases hz with hz | rfl | rfl
    · exact h2 z hz
    · exact hx
    · exact hy
  · by_cases e : i = j
    · subst e
      have e1 : ((ys ++ [x]) ++ [y])[2 * i]? = some x := by rw [List.append_assoc, List.getElem?_append_right (by omega), h1]; simp
      have e2 : ((ys ++ [x]) ++ [y])[2 * i + 1]? = some y := by rw [List.append_assoc, List.getElem?_append_right (by omega), h1]; simp
      rw [e1, e2]; exact hne
    · have e1 : ((ys ++ [x]) ++ [y])[2 * i]? = ys[2 * i]? := by rw [List.append_assoc, List.getElem?_append_left (by omega)]
      have e2 : ((ys ++ [x]) ++ [y])[2 * i + 1]? = ys[2 * i + 1]? := by rw [List.append_assoc, List.getElem?_append_left (by omega)]
      rw [e1, e2]; exact h3 i (by omega)
theorem EdgesOk.edge {N k i : Nat} {ys : List Int} (h : EdgesOk N ys k) (hi : i < k) : ∃ a b : Nat, eA ys i = a ∧ eB ys i = b ∧ a < b ∧ b < N ∧ ∀ v : Int, (ys[2 * i]?.getD 0 = v ∨ ys[2 * i + 1]?.getD 0 = v) ↔ (v = a ∨ v = b) := by
  obtain ⟨h1, h2, h3⟩ := h
  have e0 : ys[2 * i]? = some ys[2 * i] := List.getElem?_eq_getElem (by omega)
  have e1 : ys[2 * i + 1]? = some (ys[2 * i + 1]'(by omega)) := List.getElem?_eq_getElem (by omega)
  have b0 := h2 _ (List.mem_of_getElem? e0)
  have b1 := h2 _ (List.mem_of_getElem? e1)
  have hne := h3 i hi
  unfold eA eB
  rw [e0, e1] at hne ⊢
  simp only [Option.getD_some] at hne ⊢
  generalize ys[2 * i] = x at *
  generalize ys[2 * i + 1]'(by omega) = y at *
  refine ⟨(min x y).toNat, (max x y).toNat, by omega, by omega, by omega, by omega, fun v => by omega⟩
theorem EdgesOk.eM {N k : Nat} {ys : List Int} (h : EdgesOk N ys k) (hN : N ≤ 8) (j : Nat) : 0 ≤ eM N ys j ∧ eM N ys j ≤ 1024 := by
  have one : ∀ i : Nat, 0 ≤ ys[i]?.getD 0 ∧ ys[i]?.getD 0 ≤ 8 := fun i => by
    by_cases hi : i < ys.length
    · rw [List.getElem?_eq_getElem hi, Option.getD_some]
      have := h.2.1 _ (List.getElem_mem hi)
      omega
    · rw [List.getElem?_eq_none (by omega)]; simp
  have h0 := one (2 * j)
  have h1 := one (2 * j + 1)
  unfold Go.Proofs.Ytfecdmenliohhaa.eM eA eB
  generalize ys[2 * j]?.getD 0 = x at *
  generalize ys[2 * j + 1]?.getD 0 = y at *
  have hA : 0 ≤ min x y ∧ min x y ≤ 8 := by omega
  have hB : 0 ≤ max x y ∧ max x y ≤ 8 := by omega
  generalize min x y = a at hA ⊢
  generalize max x y = b at hB ⊢
  have h2 : 0 ≤ a * (N : Int) := Int.mul_nonneg hA.1 (by omega)
  have h3 : a * (N : Int) ≤ 8 * 8 := Int.mul_le_mul hA.2 (by omega) (by omega) (by omega)
  omega
theorem EdgesOk.edgesB {N k : Nat} {ys : List Int} (h : EdgesOk N ys k) (hN : 2 ≤ N) (hN2 : N ≤ 8) (hk : k ≤ 9) : edgesB N ys = true := by
  unfold Go.Proofs.Ytfecdmenliohhaa.edgesB
  have e1 := h.1
  have hall : ys.all (fun x => inR x 0 ((N : Int) - 1)) = true := by
    rw [List.all_eq_true]
    intro x hx
    have := h.2.1 x hx
    rw [inR_eq]; omega
  have hap : (List.range (ys.length / 2)).all (apartB ys) = true := apart_all fun j hj => by
    have := h.2.2 j (by omega)
    unfold apartB
    simpa using this
  rw [hall, hap, Bool.and_true, Bool.and_true]
  simp only [Bool.and_eq_true, decide_eq_true_eq]
  exact ⟨⟨by rw [inR_eq]; omega, by omega⟩, by omega⟩
/-- How many of the first edges touch a node. -/
def degC (ys : List Int) (v : Int) : Nat → Nat
  | 0 => 0
  | i + 1 => degC ys v i + (if ys[2 * i]?.getD 0 = v ∨ ys[2 * i + 1]?.getD 0 = v then 1 else 0)
/-- One of the first edges is this one. -/
def fnd (ys : List Int) (a b : Int) : Nat → Bool
  | 0 => false
  | i + 1 => fnd ys a b i || (eA ys i == a && eB ys i == b)
theorem degC_le (ys : List Int) (v : Int) (k : Nat) : degC ys v k ≤ k := by
  induction k with
  | zero => simp [degC]
  | succ k ih => simp only [degC]; split <;> omega
theorem fnd_of {ys : List Int} {a b : Int} {k j : Nat} (hj : j < k) (ha : eA ys j = a) (hb : eB ys j = b) : fnd ys a b k = true := by
  induction k with
  | zero => omega
  | succ k ih =>
    simp only [fnd]
    by_cases e : j = k
    · subst e; simp [ha, hb]
    · rw [ih (by omega)]; rfl
theorem degC_zero {ys : List Int} {v : Int} {k : Nat} (h : degC ys v k = 0) : ∀ j, j < k → ¬ (ys[2 * j]?.getD 0 = v ∨ ys[2 * j + 1]?.getD 0 = v) := by
  induction k with
  | zero => intro j hj; omega
  | succ k ih =>
    intro j hj
    simp only [degC] at h
    by_cases e : j = k
    · subst e
      intro hc
      rw [if_pos hc] at h; omega
    · exact ih (by omega) j (by omega)
theorem degC_one {ys : List Int} {v : Int} {k : Nat} (h : degC ys v k = 1) : ∃ j0, j0 < k ∧ (ys[2 * j0]?.getD 0 = v ∨ ys[2 * j0 + 1]?.getD 0 = v) ∧ ∀ j, j < k → j ≠ j0 → ¬ (ys[2 * j]?.getD 0 = v ∨ ys[2 * j + 1]?.getD 0 = v) := by
  induction k with
  | zero => simp [degC] at h
  | succ k ih =>
    simp only [degC] at h
    by_cases hc : ys[2 * k]?.getD 0 = v ∨ ys[2 * k + 1]?.getD 0 = v
    · rw [if_pos hc] at h
      exact ⟨k, by omega, hc, fun j hj hne => degC_zero (k := k) (by omega) j (by omega)⟩
    · rw [if_neg hc] at h
      obtain ⟨j0, h1, h2, h3⟩ := ih (by omega)
      refine ⟨j0, by omega, h2, fun j hj hne => ?_⟩
      by_cases e : j = k
      · subst e; exact hc
      · exact h3 j (by omega) hne
/-- A node with one edge is told it. -/
theorem deg_one {N k v : Nat} {salt : Int} {ys : List Int} (h : EdgesOk N ys k) (hN : 2 ≤ N) (hN2 : N ≤ 8) (hk : k ≤ 9) (hd : degC ys v k = 1) :
    ∃ a b : Int, edgeIn (esk N v salt ys k) N = some (a, b) ∧ fnd ys a b k = true ∧ (a = v ∨ b = v) := by
  obtain ⟨j0, h1, h2, h3⟩ := degC_one hd
  obtain ⟨a, b, e1, e2, e3, e4, e5⟩ := h.edge h1
  have hv := (e5 v).1 h2
  refine ⟨a, b, ?_, fnd_of h1 e1 e2, by omega⟩
  unfold edgeIn
  rw [sums_esk (h.eM hN2) (by omega), show inR (N : Int) 2 32 = true by rw [inR_eq]; omega]
  simp only [Bool.and_true, if_true]
  refine edge_one (h.eM hN2) (by omega) h1 e1 e2 e3 e4 hv fun j hj hne => ?_
  obtain ⟨a', b', g1, g2, g3, g4, g5⟩ := h.edge hj
  have := h3 j hj hne
  rw [g5 v] at this
  unfold sgnE
  rw [g1, g2, if_neg (by omega), if_neg (by omega)]
/-- All sketches joined say nothing. -/
theorem all_zero {N k : Nat} {salt : Int} {ys : List Int} (h : EdgesOk N ys k) (hN2 : N ≤ 8) (hk : k ≤ 9) (i : Nat) : (allS N salt ys k N)[i]?.getD 0 = 0 :=
  allS_zero (h.eM hN2) (by omega) (fun j hj => by obtain ⟨a, b, e1, e2, e3, e4, _⟩ := h.edge hj; exact ⟨a, b, e1, e2, by omega, e4, by omega⟩) i
/-- The answers of ForestsShared. -/
theorem fs_two {N k : Nat} {ys : List Int} {W : Nat} (h : EdgesOk N ys k) (hN : 2 ≤ N) (hN2 : N ≤ 8) (hk : k ≤ 9) : forestN N [] = N := by
  have e : Go.Proofs.Ytfecdmenliohhaa.edgesB N [] = true := by
    unfold Go.Proofs.Ytfecdmenliohhaa.edgesB
    rw [show inR (N : Int) 2 32 = true by rw [inR_eq]; omega]
    rfl
  unfold forestN forestR
  rw [e]
  simp [forestK]
end Go.Proofs.Ytfecdmenliohhaa
