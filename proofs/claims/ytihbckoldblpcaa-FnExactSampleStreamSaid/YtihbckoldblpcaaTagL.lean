/- Tags: a list's numbers with their places, so that equal ones are told apart. -/
import Derived.Test.YtihbckoldblpcaaStbW
namespace Go.Proofs.Ytihbckoldblpcaa
open Go.RowKit

/-- The tags' base: more than any list has places. -/
def tagM : Int := 4194304
/-- The tag of a number (its key k) at place i. -/
def tag (k : Int) (i : Nat) : Int := k * tagM + i
theorem tag_div (k : Int) {i : Nat} (h : i ≤ 1048576) : tag k i / tagM = k := by unfold tag tagM; omega
theorem tag_mod (k : Int) {i : Nat} (h : i ≤ 1048576) : tag k i % tagM = i := by unfold tag tagM; omega
/-- The tags of a list by keys. -/
def tags (κ : Int → Int) (xs : List Int) : List Int := (List.range xs.length).map fun i => tag (κ (at0 xs i)) i
theorem tags_len (κ : Int → Int) (xs : List Int) : (tags κ xs).length = xs.length := by simp [tags]
theorem tags_at {κ : Int → Int} {xs : List Int} {i : Nat} (h : i < xs.length) : at0 (tags κ xs) i = tag (κ (at0 xs i)) i := by simp [at0, tags, h]
theorem tags_stab {κ : Int → Int} {xs : List Int} (hn : xs.length ≤ 1048576) : Stab (tagK tagM) (tags κ xs) := by
  intro p q hpq hq h
  rw [tags_len] at hq
  rw [tags_at hq, tags_at (show p < xs.length by omega)] at h ⊢
  unfold tagK
  rw [tag_div _ (by omega), tag_div _ (by omega)]
  unfold tag tagM at h
  omega
theorem tagM_pos : 0 < tagM := by unfold tagM; omega

theorem own_as {f g : Int → Value} {e : TypeId} {w : World} {base : Nat} {a : Option Addr} {c : Nat} {xs ys : List Int} (h : Own f e w base a c xs) (hl : ys.length = xs.length) (hm : ys.map g = xs.map f) : Own g e w base a c ys := by
  unfold Own at *
  rw [hl, hm]
  exact h

theorem map_tags {κ : Int → Int} {val : Int → Int} {xs : List Int} (h : ∀ i, i < xs.length → val (tag (κ (at0 xs i)) i) = at0 xs i) : (tags κ xs).map (vI val) = xs.map (Value.int .i64) := by
  apply List.ext_getElem?
  intro i
  by_cases hi : i < xs.length
  · simp only [tags, List.getElem?_map, List.getElem?_range hi, Option.map_some]
    rw [List.getElem?_eq_getElem hi]
    show some (Value.int .i64 (val (tag (κ (at0 xs i)) i))) = some (Value.int .i64 xs[i])
    rw [h i hi]
    simp [at0, hi]
  · rw [List.getElem?_eq_none (by simp [tags]; omega), List.getElem?_eq_none (by simp; omega)]

/-- By the numbers themselves. -/
theorem tags_srt {xs : List Int} (hn : xs.length ≤ 1048576) : (srt (tags id xs)).map (· / tagM) = srt xs := by
  refine srt_of ?_ ?_
  · have h1 := (srt_perm (tags id xs)).map (· / tagM)
    have h2 : (tags id xs).map (· / tagM) = xs := by
      apply List.ext_getElem?
      intro i
      by_cases hi : i < xs.length
      · simp only [tags, List.getElem?_map, List.getElem?_range hi, Option.map_some]
        rw [List.getElem?_eq_getElem hi]
        show some (tag (at0 xs i) i / tagM) = some xs[i]
        rw [tag_div _ (by omega)]
        simp [at0, hi]
      · rw [List.getElem?_eq_none (by simp [tags]; omega), List.getElem?_eq_none (by omega)]
    rw [h2] at h1
    exact h1
  · have := srt_pw (tags id xs)
    rw [List.pairwise_map]
    exact this.imp (fun h => Int.ediv_le_ediv tagM_pos h)

/-- How the median's closure compares. -/
def cmp3 (x y : Int) : Int := if x < y then -1 else if y < x then 1 else 0
theorem cmp3_neg (x y : Int) : decide (cmp3 x y < 0) = decide (x < y) := by
  unfold cmp3
  split
  · rename_i h; rw [decide_eq_true h]; rfl
  · rename_i h
    rw [decide_eq_false h]
    split <;> rfl

/-! Places in the order of keys -/
def idxN (n : Nat) : List Int := (List.range n).map Int.ofNat
theorem idxN_len (n : Nat) : (idxN n).length = n := by simp [idxN]
theorem idxN_at {n i : Nat} (h : i < n) : at0 (idxN n) i = i := by simp [at0, idxN, h]
theorem idxN_succ (n : Nat) : idxN (n + 1) = idxN n ++ [(n : Int)] := by simp [idxN, List.range_succ]
/-- The tags of the places by keys h. -/
def ordT (h : Int → Int) (n : Nat) : List Int := tags h (idxN n)
theorem ordT_len (h : Int → Int) (n : Nat) : (ordT h n).length = n := by rw [ordT, tags_len, idxN_len]
theorem ordT_mem {h : Int → Int} {n : Nat} {t : Int} (ht : t ∈ ordT h n) : ∃ i : Nat, i < n ∧ t = tag (h i) i := by
  unfold ordT tags at ht
  rw [List.mem_map] at ht
  obtain ⟨i, hi, rfl⟩ := ht
  rw [List.mem_range, idxN_len] at hi
  exact ⟨i, hi, by rw [idxN_at hi]⟩
theorem ordT_val {h : Int → Int} {n : Nat} (hn : n ≤ 1048576) : (ordT h n).map (vI (· % tagM)) = (idxN n).map (Value.int .i64) :=
  map_tags (fun i hi => by rw [idxN_len] at hi; rw [idxN_at hi, tag_mod _ (by omega)])
theorem ordT_stab {h : Int → Int} {n : Nat} (hn : n ≤ 1048576) : Stab (tagK tagM) (ordT h n) := tags_stab (by rw [idxN_len]; exact hn)
theorem ordT_succ (h : Int → Int) (n : Nat) : ordT h (n + 1) = ordT h n ++ [tag (h n) n] := by
  unfold ordT tags
  rw [idxN_len, idxN_len, List.range_succ, List.map_append]
  have e1 : (List.range n).map (fun i => tag (h (at0 (idxN (n + 1)) i)) i) = (List.range n).map (fun i => tag (h (at0 (idxN n) i)) i) := by
    apply List.map_congr_left
    intro i hi
    rw [List.mem_range] at hi
    rw [idxN_at hi, idxN_at (by omega)]
  rw [e1]
  simp [idxN_at (Nat.lt_succ_self n)]
/-- The places in the order of their keys, equal ones as they stand. -/
def ordL (h : Int → Int) (n : Nat) : List Int := (srt (ordT h n)).map (· % tagM)
theorem ordL_len (h : Int → Int) (n : Nat) : (ordL h n).length = n := by rw [ordL, List.length_map, srt_len, ordT_len]
/-- The first places, in ascending order. -/
def pickL (h : Int → Int) (n : Nat) (room : Int) : List Int := srt ((ordL h n).take (min n room.toNat))

end Go.Proofs.Ytihbckoldblpcaa
