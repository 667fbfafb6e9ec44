/- The walks of the laws' small helpers on slices of int64. slices.IndexFunc and slices.ContainsFunc at []int64, for whatever closure. within, l00In; numbers of a list within bounds. Names: letters of a text, in both texts. areEdges, in both texts. Forests: both texts join the parts of each edge's ends. The edges in the reference's text. -/
import Derived.Test.YtmmpemfhbnkomaaRows
import Derived.Test.YtmmpemfhbnkomaaQJd0
import Derived.IntWalk
set_option linter.unusedVariables false
set_option linter.unusedSimpArgs false
namespace Go.Proofs.Ytmmpemfhbnkomaa
open Go.RowKit

theorem info_i : (Try.prog.info? 2).map (fun i => (i.zero, i.size, i.bytes)) = some (some (.int .i64 0), 1, 8) := by kernel_rfl

theorem int_ne {a b : Int} (h : (a != b) = true) : ¬ a = b := by simpa using h

end Go.Proofs.Ytmmpemfhbnkomaa

namespace Go.Proofs.Ytmmpemfhbnkomaa
open Go.RowKit

end Go.Proofs.Ytmmpemfhbnkomaa

namespace Go.Proofs.Ytmmpemfhbnkomaa
open Go.RowKit

def inR (n lo hi : Int) : Bool := decide (lo ≤ n ∧ n ≤ hi)
theorem inR_eq (n lo hi : Int) : inR n lo hi = true ↔ lo ≤ n ∧ n ≤ hi := by simp [inR]

theorem within_any (n lo hi : Int) (w : World) : Calls Try.prog 27 #[.int .i64 n, .int .i64 lo, .int .i64 hi] w fun e w' => e = .returned (.bool (inR n lo hi)) ∧ w = w' := by
  by_cases h1 : lo ≤ n
  · go_enter Try.func27, Try.ntmps27
    go_wp2
    go_ret
    exact ⟨ret_bool (by simp [inR]; omega), rfl⟩
  · have h2 : decide (lo ≤ n) = false := by simpa using h1
    go_enter Try.func27, Try.ntmps27
    go_wp2
    go_ret
    exact ⟨ret_bool (by simp [inR]; omega), rfl⟩

theorem l00In_any (n lo hi : Int) (w : World) : Calls Try.prog 18 #[.int .i64 n, .int .i64 lo, .int .i64 hi] w fun e w' => e = .returned (.bool (inR n lo hi)) ∧ w = w' := by
  by_cases h1 : lo ≤ n
  · go_enter Try.func18, Try.ntmps18
    go_wp2
    go_ret
    exact ⟨ret_bool (by simp [inR]; omega), rfl⟩
  · have h2 : decide (lo ≤ n) = false := by simpa using h1
    go_enter Try.func18, Try.ntmps18
    go_wp2
    go_ret
    exact ⟨ret_bool (by simp [inR]; omega), rfl⟩

theorem rd_idxAt {α : Type} [Inhabited α] {f : α → Value} {w : World} {a : Option Addr} {c : Nat} {xs : List α} (h : Rd f w a c xs) {P : Program} {T : TypeId} (hT : P.underlying T = some (.slice (P.elem T))) (hs : ∀ w, (sizeOf (P.elem T)).run P w = .ok 1 w) (k : Nat) (hk : k < xs.length) (i : Int) (hi : i = (k : Int)) :
    ∀ w' : World, (Instr.indexAt T (.slice a xs.length c) (.int .i64 i)).run P w' = .ok (.pointer (some (elt a k))) w' := by
  subst hi; exact fun w' => h.idx hT hs w' k hk

end Go.Proofs.Ytmmpemfhbnkomaa

namespace Go.Proofs.Ytmmpemfhbnkomaa
open Go.RowKit

/-- A text's byte. -/
def byt (s : ByteArray) (k : Nat) : Nat := (s.get! k).toNat
theorem byt_eq {s : ByteArray} {k : Nat} (h : k < s.size) : (s[k]'h).toNat = byt s k := by
  unfold byt
  cases s with
  | mk d =>
    have hd : k < d.size := h
    simp [ByteArray.get!, hd]
    rfl
theorem byt_lt (s : ByteArray) (k : Nat) : byt s k < 256 := UInt8.toNat_lt _

def lowB (s : ByteArray) (k : Nat) : Bool := decide (97 ≤ byt s k) && decide (byt s k ≤ 122)
def nameB (s : ByteArray) : Bool := decide (1 ≤ s.size) && decide (s.size ≤ 8) && (List.range s.size).all (lowB s)
theorem nameB_no {s : ByteArray} {k : Nat} (hk : k < s.size) (h : lowB s k = false) : nameB s = false := by
  unfold nameB
  have : (List.range s.size).all (lowB s) = false := by rw [List.all_eq_false]; exact ⟨k, List.mem_range.2 hk, by rw [h]; simp⟩
  rw [this]; simp
theorem nameB_yes {s : ByteArray} (h : ∀ k, k < s.size → lowB s k = true) : nameB s = (decide (1 ≤ s.size) && decide (s.size ≤ 8)) := by
  unfold nameB
  have : (List.range s.size).all (lowB s) = true := by rw [List.all_eq_true]; intro k hk; exact h k (List.mem_range.1 hk)
  rw [this]; simp

end Go.Proofs.Ytmmpemfhbnkomaa

namespace Go.Proofs.Ytmmpemfhbnkomaa
open Go.RowKit

/-- The two ends of edge j differ. -/
def apartB (xs : List Int) (j : Nat) : Bool := xs[2 * j]?.getD 0 != xs[2 * j + 1]?.getD 0
def edgesB (n : Int) (xs : List Int) : Bool :=
  inR n 2 32 && decide (xs.length % 2 = 0) && decide (xs.length ≤ 128) && xs.all (fun x => inR x 0 (n - 1)) && (List.range (xs.length / 2)).all (apartB xs)

theorem apart_all {xs : List Int} (h : ∀ j, j < xs.length / 2 → apartB xs j = true) : (List.range (xs.length / 2)).all (apartB xs) = true := by
  rw [List.all_eq_true]; intro j hj; exact h j (by simpa using hj)
theorem apart_not {xs : List Int} {j : Nat} (hj : j < xs.length / 2) (h : apartB xs j = false) : (List.range (xs.length / 2)).all (apartB xs) = false := by
  rw [List.all_eq_false]; exact ⟨j, by simpa using hj, by simp [h]⟩

end Go.Proofs.Ytmmpemfhbnkomaa

namespace Go.Proofs.Ytmmpemfhbnkomaa
open Go.RowKit

/-- One edge: the parts, and the indices of edges that have joined. -/
def fstep (xs : List Int) (st : List Int × List Int) (j : Nat) : List Int × List Int :=
  if st.1[(xs[2 * j]?.getD 0).toNat]?.getD 0 = st.1[(xs[2 * j + 1]?.getD 0).toNat]?.getD 0 then st
  else (st.1.map (fun p => if p = st.1[(xs[2 * j + 1]?.getD 0).toNat]?.getD 0 then st.1[(xs[2 * j]?.getD 0).toNat]?.getD 0 else p), st.2 ++ [(j : Int)])
def iota (N : Nat) : List Int := (List.range N).map fun (i : Nat) => (i : Int)
def forestK (xs : List Int) (N k : Nat) : List Int × List Int := (List.range k).foldl (fstep xs) (iota N, [])
theorem forestK_succ (xs : List Int) (N k : Nat) : forestK xs N (k + 1) = fstep xs (forestK xs N k) k := by
  unfold forestK; rw [List.range_succ, List.foldl_append]; rfl
theorem iota_snoc (k : Nat) : iota (k + 1) = iota k ++ [(k : Int)] := by simp [iota, List.range_succ]
theorem iota_length (k : Nat) : (iota k).length = k := by simp [iota]
theorem fstep_eq {xs : List Int} {gs os : List Int} {j : Nat} {p q : Int} (hq : gs[(xs[2 * j]?.getD 0).toNat]?.getD 0 = q) (hp : gs[(xs[2 * j + 1]?.getD 0).toNat]?.getD 0 = p) :
    fstep xs (gs, os) j = if q = p then (gs, os) else (gs.map (fun r => if r = p then q else r), os ++ [(j : Int)]) := by
  unfold fstep; simp only [hq, hp]
theorem forestK_len (xs : List Int) (N k : Nat) : (forestK xs N k).1.length = N ∧ (forestK xs N k).2.length ≤ k := by
  induction k with
  | zero => simp [forestK, iota]
  | succ k ih =>
    rw [forestK_succ]
    unfold fstep
    split
    · exact ⟨ih.1, by omega⟩
    · simp; omega

/-- What the law's edges say: bounds of the two ends. -/
theorem edges_bd {n : Int} {xs : List Int} (h : edgesB n xs = true) : 2 ≤ n ∧ n ≤ 32 ∧ xs.length % 2 = 0 ∧ xs.length ≤ 128 ∧ ∀ k, k < xs.length → 0 ≤ xs[k]?.getD 0 ∧ xs[k]?.getD 0 ≤ n - 1 := by
  simp only [edgesB, Bool.and_eq_true, decide_eq_true_eq] at h
  obtain ⟨⟨⟨⟨h1, h2⟩, h3⟩, h4⟩, _⟩ := h
  have hn := (inR_eq _ _ _).1 h1
  refine ⟨hn.1, hn.2, h2, h3, fun k hk => ?_⟩
  rw [List.all_eq_true] at h4
  have := (inR_eq _ _ _).1 (h4 xs[k] (List.getElem_mem hk))
  simpa [hk] using this

theorem map_set {gs : List Int} {m : Nat} {p q : Int} (hm : m < gs.length) (h : gs[m] = p) :
    ((gs.take m).map (fun r => if r = p then q else r) ++ gs.drop m).set m q = (gs.take (m + 1)).map (fun r => if r = p then q else r) ++ gs.drop (m + 1) := by
  have hl : ((gs.take m).map (fun r => if r = p then q else r)).length = m := by simp; omega
  rw [List.set_append_right _ _ (by omega), hl, Nat.sub_self]
  have hd := List.drop_eq_getElem_cons hm
  rw [hd, List.set_cons_zero, List.take_add_one, List.getElem?_eq_getElem hm]
  simp [h]
theorem map_keep {gs : List Int} {m : Nat} {p q : Int} (hm : m < gs.length) (h : ¬ gs[m] = p) :
    ((gs.take m).map (fun r => if r = p then q else r) ++ gs.drop m) = (gs.take (m + 1)).map (fun r => if r = p then q else r) ++ gs.drop (m + 1) := by
  have hd := List.drop_eq_getElem_cons hm
  rw [hd, List.take_add_one, List.getElem?_eq_getElem hm, Option.toList_some, List.map_append, List.append_assoc]
  simp only [List.map_cons, List.map_nil, if_neg h]
  rfl
theorem map_at {gs : List Int} {m : Nat} {p q : Int} (hm : m < gs.length) (hm2 : m < ((gs.take m).map (fun r => if r = p then q else r) ++ gs.drop m).length) :
    ((gs.take m).map (fun r => if r = p then q else r) ++ gs.drop m)[m] = gs[m] := by
  have hl : ((gs.take m).map (fun r => if r = p then q else r)).length = m := by simp; omega
  rw [List.getElem_append_right (by omega), List.getElem_drop]
  congr 1
  omega

/-- A list in new memory, and a number. -/
def RetSI (w : World) (xs : List Int) (n : Int) (en : Ending) (w' : World) : Prop :=
  ∃ a c, en = .returned (.tuple #[.slice a xs.length c, .int .i64 n]) ∧ Own (Value.int .i64) 2 w' w.heap.size a c xs ∧ Below w.heap.size w w'

end Go.Proofs.Ytmmpemfhbnkomaa

namespace Go.Proofs.Ytmmpemfhbnkomaa
open Go.RowKit

theorem l00In_quiet {x lo hi : Int} {w : World} {n : Nat} : Calls Try.prog 18 #[.int .i64 x, .int .i64 lo, .int .i64 hi] (w.drewN n) fun e w'' => e = .returned (.bool (inR x lo hi)) ∧ ∃ m, w'' = w.drewN m :=
  (l00In_any x lo hi _).mono fun _ _ ⟨he, hw⟩ => ⟨he, n, hw.symm⟩

theorem all_pairs {p : Int → Bool} {xs : List Int} (hev : xs.length % 2 = 0) (h : ∀ j, j < xs.length / 2 → p (xs[2 * j]?.getD 0) = true ∧ p (xs[2 * j + 1]?.getD 0) = true) : xs.all p = true := by
  rw [List.all_eq_true]
  intro x hx
  obtain ⟨i, hi, rfl⟩ := List.getElem_of_mem hx
  have := h (i / 2) (by omega)
  rcases Nat.mod_two_eq_zero_or_one i with e | e
  · have e2 : 2 * (i / 2) = i := by omega
    rw [e2] at this
    simpa [hi] using this.1
  · have e2 : 2 * (i / 2) + 1 = i := by omega
    rw [e2] at this
    simpa [hi] using this.2
theorem not_all {p : Int → Bool} {xs : List Int} {i : Nat} (hi : i < xs.length) (h : p (xs[i]?.getD 0) = false) : xs.all p = false := by
  rw [List.all_eq_false]
  refine ⟨xs[i], List.getElem_mem hi, ?_⟩
  simp [hi] at h
  simp [h]

end Go.Proofs.Ytmmpemfhbnkomaa
