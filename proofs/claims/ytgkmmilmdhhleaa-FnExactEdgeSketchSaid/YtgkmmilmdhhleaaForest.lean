/- Forests: both texts join the parts of each edge's ends. -/
import Derived.Test.YtgkmmilmdhhleaaEdges
namespace Go.Proofs.Ytgkmmilmdhhleaa
open Go.RowKit

/-- One edge: the parts, and the indices of edges that have joined. -/
def fstep (xs : List Int) (st : List Int × List Int) (j : Nat) : List Int × List Int :=
  if st.1[(xs[2 * j]?.getD 0).toNat]?.getD 0 = st.1[(xs[2 * j + 1]?.getD 0).toNat]?.getD 0 then st
  else (st.1.map (fun p => if p = st.1[(xs[2 * j + 1]?.getD 0).toNat]?.getD 0 then st.1[(xs[2 * j]?.getD 0).toNat]?.getD 0 else p), st.2 ++ [(j : Int)])
def iota (N : Nat) : List Int := (List.range N).map fun (i : Nat) => (i : Int)
def forestK (xs : List Int) (N k : Nat) : List Int × List Int := (List.range k).foldl (fstep xs) (iota N, [])
theorem forestK_succ (xs : List Int) (N k : Nat) : forestK xs N (k + 1) = fstep xs (forestK xs N k) k := by
  unfold forestK; rw [List.range_succ, List.foldl_append]; rfl
theorem iota_snoc (k : Nat) : iota (k + 1) = iota k ++ [(k : Int)] := by simp [iota, List.range_succ]
theorem iota_length (k : Nat) : (iota k).length = k := by simp [iota]
theorem fstep_eq {xs : List Int} {gs os : List Int} {j : Nat} {p q : Int} (hq : gs[(xs[2 * j]?.getD 0).toNat]?.getD 0 = q) (hp : gs[(xs[2 * j + 1]?.getD 0).toNat]?.getD 0 = p) :
    fstep xs (gs, os) j = if q = p then (gs, os) else (gs.map (fun r => if r = p then q else r), os ++ [(j : Int)]) := by
  unfold fstep; simp only [hq, hp]
theorem forestK_len (xs : List Int) (N k : Nat) : (forestK xs N k).1.length = N ∧ (forestK xs N k).2.length ≤ k := by
  induction k with
  | zero => simp [forestK, iota]
  | succ k ih =>
    rw [forestK_succ]
    unfold fstep
    split
    · exact ⟨ih.1, by omega⟩
    · simp; omega

/-- What the law's edges say: bounds of the two ends. -/
theorem edges_bd {n : Int} {xs : List Int} (h : edgesB n xs = true) : 2 ≤ n ∧ n ≤ 32 ∧ xs.length % 2 = 0 ∧ xs.length ≤ 128 ∧ ∀ k, k < xs.length → 0 ≤ xs[k]?.getD 0 ∧ xs[k]?.getD 0 ≤ n - 1 := by
  simp only [edgesB, Bool.and_eq_true, decide_eq_true_eq] at h
  obtain ⟨⟨⟨⟨h1, h2⟩, h3⟩, h4⟩, _⟩ := h
  have hn := (inR_eq _ _ _).1 h1
  refine ⟨hn.1, hn.2, h2, h3, fun k hk => ?_⟩
  rw [List.all_eq_true] at h4
  have := (inR_eq _ _ _).1 (h4 xs[k] (List.getElem_mem hk))
  simpa [hk] using this

theorem map_set {gs : List Int} {m : Nat} {p q : Int} (hm : m < gs.length) (h : gs[m] = p) :
    ((gs.take m).map (fun r => if r = p then q else r) ++ gs.drop m).set m q = (gs.take (m + 1)).map (fun r => if r = p then q else r) ++ gs.drop (m + 1) := by
  have hl : ((gs.take m).map (fun r => if r = p then q else r)).length = m := by simp; omega
  rw [List.set_append_right _ _ (by omega), hl, Nat.sub_self]
  have hd := List.drop_eq_getElem_cons hm
  rw [hd, List.set_cons_zero, List.take_add_one, List.getElem?_eq_getElem hm]
  simp [h]
theorem map_keep {gs : List Int} {m : Nat} {p q : Int} (hm : m < gs.length) (h : ¬ gs[m] = p) :
    ((gs.take m).map (fun r => if r = p then q else r) ++ gs.drop m) = (gs.take (m + 1)).map (fun r => if r = p then q else r) ++ gs.drop (m + 1) := by
  have hd := List.drop_eq_getElem_cons hm
  rw [hd, List.take_add_one, List.getElem?_eq_getElem hm, Option.toList_some, List.map_append, List.append_assoc]
  simp only [List.map_cons, List.map_nil, if_neg h]
  rfl
theorem map_at {gs : List Int} {m : Nat} {p q : Int} (hm : m < gs.length) (hm2 : m < ((gs.take m).map (fun r => if r = p then q else r) ++ gs.drop m).length) :
    ((gs.take m).map (fun r => if r = p then q else r) ++ gs.drop m)[m] = gs[m] := by
  have hl : ((gs.take m).map (fun r => if r = p then q else r)).length = m := by simp; omega
  rw [List.getElem_append_right (by omega), List.getElem_drop]
  congr 1
  omega

/-- A list in new memory, and a number. -/
def RetSI (w : World) (xs : List Int) (n : Int) (en : Ending) (w' : World) : Prop :=
  ∃ a c, en = .returned (.tuple #[.slice a xs.length c, .int .i64 n]) ∧ Own (Value.int .i64) 2 w' w.heap.size a c xs ∧ Below w.heap.size w w'

end Go.Proofs.Ytgkmmilmdhhleaa
