/- mark.., held.. on lists of bools. Slices of slices. mark.., held.. on sieves, zeros, windows, desks. held.. on sieves, zeros, windows, desks. -/
import Derived.Test.YtdpolaedfjljmaaToB
import Derived.Test.YtdpolaedfjljmaaLib
import Derived.Test.YtdpolaedfjljmaaToI
namespace Go.Proofs.Ytdpolaedfjljmaa
open Go.RowKit

theorem mod3 (k0 k : Nat) : (((k0 : Int) + (k : Int)) % 3 == 0) = decide ((k0 + k) % 3 = 0) := by
  rw [Bool.eq_iff_iff]; simp; omega

end Go.Proofs.Ytdpolaedfjljmaa

namespace Go.Proofs.Ytdpolaedfjljmaa
open Go.RowKit

/-- A slice's value: its address, its length, its capacity. -/
abbrev Hd := Option Addr × Nat × Nat
def hdV (h : Hd) : Value := .slice h.1 h.2.1 h.2.2
theorem hdV_one (h : Hd) : (hdV h).oneCell' = true := rfl

/-- A slice of slices reads as a list of lists. -/
structure Rd2 {α : Type} [Inhabited α] (f : α → Value) (w : World) (a : Option Addr) (c : Nat) (hs : List Hd) (xss : List (List α)) : Prop where
  top : Rd hdV w a c hs
  len : hs.length = xss.length
  row : ∀ i, i < xss.length → ∃ (hd : Hd) (xs : List α), hs[i]? = some hd ∧ xss[i]? = some xs ∧ hd.2.1 = xs.length ∧ Rd f w hd.1 hd.2.2 xs

section
variable {α : Type} [Inhabited α] {f : α → Value} {w w' : World} {a : Option Addr} {c : Nat} {hs : List Hd} {xss : List (List α)}
theorem Rd2.below (h : Rd2 f w a c hs xss) {B : Nat} (hb : Below B w w') (hB : w.heap.size ≤ B) : Rd2 f w' a c hs xss :=
  ⟨h.top.below hb hB, h.len, fun i hi => let ⟨hd, xs, h1, h2, h3, h4⟩ := h.row i hi; ⟨hd, xs, h1, h2, h3, h4.below hb hB⟩⟩
/-- Row i. -/
theorem Rd2.at (h : Rd2 f w a c hs xss) {i : Nat} (hi : i < xss.length) : ∃ a2 c2, w.cell? (elt a i) = some (.slice a2 xss[i].length c2) ∧ Rd f w a2 c2 xss[i] := by
  obtain ⟨hd, xs, h1, h2, h3, h4⟩ := h.row i hi
  have hx : xss[i] = xs := by
    rw [List.getElem?_eq_getElem hi] at h2; simpa using h2
  rw [hx]
  refine ⟨hd.1, hd.2.2, ?_, h4⟩
  rw [h.top.cell i (by rw [h.len]; exact hi), h1, Option.getD_some, ← h3]
  rfl
theorem Rd2.lens (h : Rd2 f w a c hs xss) : xss.length ≤ 9223372036854775807 := by rw [← h.len]; exact h.top.len
end

/-- A slice of slices that a call has made: all in rows of their own. -/
structure Own2 {α : Type} (f : α → Value) (e ee : TypeId) (w : World) (base : Nat) (a : Option Addr) (c : Nat) (hs : List Hd) (xss : List (List α)) : Prop where
  top : Own hdV ee w base a c hs
  len : hs.length = xss.length
  row : ∀ i, i < xss.length → ∃ (hd : Hd) (xs : List α), hs[i]? = some hd ∧ xss[i]? = some xs ∧ hd.2.1 = xs.length ∧ Own f e w base hd.1 hd.2.2 xs ∧ ∀ p q : Addr, a = some p → hd.1 = some q → p.block ≠ q.block
  apart : ∀ (i j : Nat) (hd hd' : Hd), i ≠ j → hs[i]? = some hd → hs[j]? = some hd' → ∀ p q : Addr, hd.1 = some p → hd'.1 = some q → p.block ≠ q.block

section
variable {α : Type} {f : α → Value} {e ee : TypeId} {w w' : World} {base : Nat} {a : Option Addr} {c : Nat} {hs : List Hd} {xss : List (List α)}
theorem Own2.rd [Inhabited α] (h : Own2 f e ee w base a c hs xss) : Rd2 f w a c hs xss :=
  ⟨h.top.rd, h.len, fun i hi => let ⟨hd, xs, h1, h2, h3, h4, _⟩ := h.row i hi; ⟨hd, xs, h1, h2, h3, h4.rd⟩⟩
theorem Own2.below (h : Own2 f e ee w base a c hs xss) {B : Nat} (hb : Below B w w') (hB : w.heap.size ≤ B) : Own2 f e ee w' base a c hs xss :=
  ⟨h.top.below hb hB, h.len, fun i hi => let ⟨hd, xs, h1, h2, h3, h4, h5⟩ := h.row i hi; ⟨hd, xs, h1, h2, h3, h4.below hb hB, h5⟩, h.apart⟩
theorem Own2.mono (h : Own2 f e ee w base a c hs xss) {b' : Nat} (hb : b' ≤ base) : Own2 f e ee w b' a c hs xss :=
  ⟨h.top.mono hb, h.len, fun i hi => let ⟨hd, xs, h1, h2, h3, h4, h5⟩ := h.row i hi; ⟨hd, xs, h1, h2, h3, h4.mono hb, h5⟩, h.apart⟩
end

/-- A slice of slices in new memory. -/
def RetSS {α : Type} (f : α → Value) (e ee : TypeId) (w : World) (xss : List (List α)) (en : Ending) (w' : World) : Prop :=
  ∃ a c hs, en = .returned (.slice a xss.length c) ∧ Own2 f e ee w' w.heap.size a c hs xss ∧ Below w.heap.size w w'

/-- Only blocks from lo to hi have turned. -/
structure Turned (lo hi : Nat) (w w' : World) : Prop where
  os : w'.os = w.os
  tape : w'.tape = w.tape
  output : w'.output = w.output
  size : w.heap.size ≤ w'.heap.size
  block : ∀ k, k < w.heap.size → (k < lo ∨ hi ≤ k) → w'.heap[k]? = w.heap[k]?
theorem Turned.refl (lo hi : Nat) (w : World) : Turned lo hi w w := ⟨rfl, rfl, rfl, Nat.le_refl _, fun _ _ _ => rfl⟩
theorem Turned.trans {lo hi : Nat} {w w1 w2 : World} (h : Turned lo hi w w1) (h2 : Turned lo hi w1 w2) : Turned lo hi w w2 :=
  ⟨h2.os.trans h.os, h2.tape.trans h.tape, h2.output.trans h.output, Nat.le_trans h.size h2.size, fun k hk hr => (h2.block k (Nat.lt_of_lt_of_le hk h.size) hr).trans (h.block k hk hr)⟩
theorem Turned.of_grown {lo hi : Nat} {w w' : World} {a : Option Addr} (h : w.grownBy w' (a.map (·.block))) (ha : ∀ p, a = some p → lo ≤ p.block ∧ p.block < hi) : Turned lo hi w w' :=
  ⟨h.os, h.tape, h.output, h.size, fun k hk hr => h.block k hk (by
    cases a with
    | none => simp
    | some p => have := ha p rfl; simp; omega)⟩
theorem Turned.below {lo hi : Nat} {w w' : World} (h : Turned lo hi w w') {B : Nat} (hB : B ≤ lo) (hs : B ≤ w.heap.size) : Below B w w' :=
  ⟨h.os, h.tape, h.output, h.size, fun k hk => h.block k (by omega) (by omega)⟩
theorem Own.heap {α : Type} {f : α → Value} {e : TypeId} {w w' : World} {base : Nat} {a : Option Addr} {c : Nat} {xs : List α} (h : Own f e w base a c xs) (hk : ∀ p, a = some p → w'.heap[p.block]? = w.heap[p.block]?) : Own f e w' base a c xs := by
  refine ⟨h.1, ?_⟩
  rcases h.2 with h2 | ⟨g, cap, cur, h1, h2, h3, h4⟩
  · exact .inl h2
  · refine .inr ⟨g, cap, cur, h1, h2, ?_, h4⟩
    simp only [Value.slice.injEq] at h1
    rw [hk _ h1.1]; exact h3
theorem Own.turned {α : Type} {f : α → Value} {e : TypeId} {w w' : World} {base : Nat} {a : Option Addr} {c : Nat} {xs : List α} (h : Own f e w base a c xs) {lo hi : Nat} (ht : Turned lo hi w w') (hd : ∀ p, a = some p → p.block < lo ∨ hi ≤ p.block) : Own f e w' base a c xs :=
  h.heap fun p hp => ht.block p.block (h.blk p hp).2 (hd p hp)

/-- How many elements there are. -/
def size2 {α : Type} (xss : List (List α)) : Nat := xss.length + (xss.map List.length).foldl (· + ·) 0
theorem foldl_add (l : List Nat) (z : Nat) : l.foldl (· + ·) z = z + l.foldl (· + ·) 0 := by
  induction l generalizing z with
  | nil => simp
  | cons x l ih => simp only [List.foldl_cons]; rw [ih (z + x), ih (0 + x)]; omega
theorem sum_take_succ {α : Type} {xss : List (List α)} {k : Nat} (h : k < xss.length) : ((xss.take (k + 1)).map List.length).foldl (· + ·) 0 = ((xss.take k).map List.length).foldl (· + ·) 0 + xss[k].length := by
  rw [List.take_add_one, List.getElem?_eq_getElem h, List.map_append, List.foldl_append]; rfl
theorem sum_take_le {α : Type} (xss : List (List α)) (k : Nat) : ((xss.take k).map List.length).foldl (· + ·) 0 ≤ (xss.map List.length).foldl (· + ·) 0 := by
  have h : xss.map List.length = (xss.take k).map List.length ++ (xss.drop k).map List.length := by rw [← List.map_append, List.take_append_drop]
  rw [h, List.foldl_append, foldl_add _ (List.foldl _ _ _)]
  omega
theorem size2_row {α : Type} {xss : List (List α)} {k : Nat} (h : k < xss.length) {n : Nat} (hn : size2 xss ≤ n) : xss[k].length ≤ n := by
  have h1 := sum_take_le xss (k + 1)
  rw [sum_take_succ h] at h1
  unfold size2 at hn
  omega

/-- The rows that have been made up to k. -/
structure Mk2 {α : Type} (f : α → Value) (e ee : TypeId) (w wr : World) (n : Nat) (hs : List Hd) (xss : List (List α)) (k : Nat) : Prop where
  top : Own hdV ee wr w.heap.size (some ⟨w.heap.size, 0, none⟩) n (hs ++ List.replicate (n - k) ((none, 0, 0) : Hd))
  len : hs.length = k
  row : ∀ i, i < k → ∃ (hd : Hd) (xs : List α), hs[i]? = some hd ∧ xss[i]? = some xs ∧ hd.2.1 = xs.length ∧ Own f e wr (w.heap.size + 1) hd.1 hd.2.2 xs
  apart : ∀ (i j : Nat) (hd hd' : Hd), i ≠ j → hs[i]? = some hd → hs[j]? = some hd' → ∀ p q : Addr, hd.1 = some p → hd'.1 = some q → p.block ≠ q.block
  B : Below w.heap.size w wr
theorem fill_set {hs : List Hd} {n k : Nat} (hk : k < n) (hl : hs.length = k) (h : Hd) : (hs ++ List.replicate (n - k) ((none, 0, 0) : Hd)).set k h = (hs ++ [h]) ++ List.replicate (n - (k + 1)) ((none, 0, 0) : Hd) := by
  subst hl
  rw [List.set_append_right _ _ (Nat.le_refl _), Nat.sub_self, show n - hs.length = (n - (hs.length + 1)) + 1 by omega, List.replicate_succ, List.set_cons_zero]
  simp

theorem Mk2.step {α : Type} {f : α → Value} {e ee : TypeId} {w wr w1 : World} {n : Nat} {hs : List Hd} {xss : List (List α)} {k : Nat} (h : Mk2 f e ee w wr n hs xss k) (hk : k < n) {a2 : Option Addr} {c2 : Nat} {xs : List α} (hx : xss[k]? = some xs)
    (hb : Below wr.heap.size wr w1) (ho : Own f e w1 wr.heap.size a2 c2 xs) :
    Mk2 f e ee w (w1.setCell (elt (some ⟨w.heap.size, 0, none⟩) k) (hdV (a2, xs.length, c2))) n (hs ++ [(a2, xs.length, c2)]) xss (k + 1) := by
  have hlen : (hs ++ List.replicate (n - k) ((none, 0, 0) : Hd)).length = n := by simp [h.len]; omega
  have htb := h.top.blk ⟨w.heap.size, 0, none⟩ rfl
  have hset := (h.top.below hb (Nat.le_refl _)).set k (by rw [hlen]; exact hk) (a2, xs.length, c2)
  have hblk : (elt (some ⟨w.heap.size, 0, none⟩) k).block = w.heap.size := rfl
  refine ⟨hset.1.cast (fill_set hk h.len _), by simp [h.len], ?_, ?_, (h.B.trans (hb.mono h.B.size)).setCell (by rw [hblk]; exact Nat.le_refl _) _⟩
  · intro i hi
    by_cases hik : i = k
    · subst hik
      refine ⟨(a2, xs.length, c2), xs, ?_, hx, rfl, (ho.mono (by omega)).setFar _ _ (by rw [hblk]; omega)⟩
      rw [List.getElem?_append_right (by rw [h.len]; exact Nat.le_refl _)]
      simp [h.len]
    · obtain ⟨hd, ys, h1, h2, h3, h4⟩ := h.row i (by omega)
      refine ⟨hd, ys, ?_, h2, h3, (h4.below hb (Nat.le_refl _)).setFar _ _ (by rw [hblk]; omega)⟩
      rw [List.getElem?_append_left (by rw [h.len]; omega)]; exact h1
  · have old : ∀ i hd, i < k → (hs ++ [((a2, xs.length, c2) : Hd)])[i]? = some hd → hs[i]? = some hd := fun i hd hi hh => by
      rwa [List.getElem?_append_left (by rw [h.len]; exact hi)] at hh
    have new : ∀ hd, (hs ++ [((a2, xs.length, c2) : Hd)])[k]? = some hd → hd = (a2, xs.length, c2) := fun hd hh => by
      rw [List.getElem?_append_right (by rw [h.len]; exact Nat.le_refl _)] at hh
      simp [h.len] at hh
      exact hh.symm
    have blkO : ∀ i hd p, i < k → hs[i]? = some hd → hd.1 = some p → p.block < wr.heap.size := fun i hd p hi hh hp => by
      obtain ⟨hd2, ys, h1, _, _, h4⟩ := h.row i hi
      rw [hh] at h1
      have : hd = hd2 := by simpa using h1
      subst this
      exact (h4.blk p hp).2
    have lt : ∀ i hd, (hs ++ [((a2, xs.length, c2) : Hd)])[i]? = some hd → i ≤ k := fun i hd hh => by
      have := (List.getElem?_eq_some_iff.1 hh).1
      simp [h.len] at this
      omega
    intro i j hd hd' hij hi hj p q hp hq
    have li := lt i hd hi
    have lj := lt j hd' hj
    by_cases hik : i = k
    · subst hik
      have e1 := new hd hi
      subst e1
      have h5 := blkO j hd' q (by omega) (old j hd' (by omega) hj) hq
      have h6 := ho.blk p hp
      omega
    · by_cases hjk : j = k
      · subst hjk
        have e1 := new hd' hj
        subst e1
        have h5 := blkO i hd p (by omega) (old i hd (by omega) hi) hp
        have h6 := ho.blk q hq
        omega
      · exact h.apart i j hd hd' hij (old i hd (by omega) hi) (old j hd' (by omega) hj) p q hp hq

theorem Mk2.done {α : Type} {f : α → Value} {e ee : TypeId} {w wr : World} {n : Nat} {hs : List Hd} {xss : List (List α)} (h : Mk2 f e ee w wr n hs xss n) (hn : xss.length = n) : Own2 f e ee wr w.heap.size (some ⟨w.heap.size, 0, none⟩) n hs xss := by
  subst hn
  refine ⟨h.top.cast (by simp), h.len, fun i hi => ?_, h.apart⟩
  obtain ⟨hd, xs, h1, h2, h3, h4⟩ := h.row i hi
  refine ⟨hd, xs, h1, h2, h3, h4.mono (by omega), fun p q hp hq => ?_⟩
  have h5 := h4.blk q hq
  simp at hp
  subst hp
  simp
  omega

/-- A row of a slice of slices has turned, the others are as they were. -/
theorem Own2.turned {α : Type} {f : α → Value} {e ee : TypeId} {w w' : World} {base : Nat} {a : Option Addr} {c : Nat} {hs : List Hd} {xss : List (List α)} (h : Own2 f e ee w base a c hs xss) {k : Nat} {hd : Hd} (hk : hs[k]? = some hd) {ys : List α}
    (hg : w.grownBy w' (hd.1.map (·.block))) (ho : Own f e w' base hd.1 hd.2.2 ys) (hl : hd.2.1 = ys.length) : Own2 f e ee w' base a c hs (xss.set k ys) := by
  have hkl : k < hs.length := (List.getElem?_eq_some_iff.1 hk).1
  refine ⟨?_, by rw [List.length_set]; exact h.len, fun i hi => ?_, h.apart⟩
  · refine h.top.kept hg ?_
    intro g hgr p hp
    obtain ⟨hd2, xs, h1, _, _, _, h5⟩ := h.row k (by rw [← h.len]; exact hkl)
    rw [hk] at h1
    have : hd = hd2 := by simpa using h1
    subst this
    cases hd1 : hd.1 with
    | none => rw [hd1] at hgr; simp at hgr
    | some q => rw [hd1] at hgr; simp at hgr; have := h5 p q hp hd1; omega
  · rw [List.length_set] at hi
    obtain ⟨hd2, xs, h1, h2, h3, h4, h5⟩ := h.row i hi
    by_cases hik : i = k
    · subst hik
      rw [hk] at h1
      have : hd = hd2 := by simpa using h1
      subst this
      exact ⟨hd, ys, hk, by simp [hi], hl, ho, h5⟩
    · refine ⟨hd2, xs, h1, by rw [List.getElem?_set_ne (by omega)]; exact h2, h3, h4.kept hg ?_, h5⟩
      intro g hgr p hp
      cases hd1 : hd.1 with
      | none => rw [hd1] at hgr; simp at hgr
      | some q => rw [hd1] at hgr; simp at hgr; have := h.apart i k hd2 hd hik h1 hk p q hp hd1; omega

theorem Own2.blks {α : Type} {f : α → Value} {e ee : TypeId} {w : World} {base : Nat} {a : Option Addr} {c : Nat} {hs : List Hd} {xss : List (List α)} (h : Own2 f e ee w base a c hs xss) (i : Nat) (hd : Hd) (p : Addr) (hi : hs[i]? = some hd) (hp : hd.1 = some p) : p.block < w.heap.size := by
  have hl : i < xss.length := by rw [← h.len]; exact (List.getElem?_eq_some_iff.1 hi).1
  obtain ⟨hd2, xs, h1, _, _, h4, _⟩ := h.row i hl
  rw [hi] at h1
  have : hd = hd2 := by simpa using h1
  subst this
  exact (h4.blk p hp).2

/-- Either the sizes are small enough, or the answer is -1. -/
def SzOk (n : Nat) (e : Ending) : Prop := e = .returned (.int .i64 (-1)) ∨ (n ≤ 1048576 ∧ ∃ r : Int, 0 ≤ r ∧ e = .returned (.int .i64 r))

/-- The world behind the marks of all rows. -/
def RetMM (lo hi : Nat) (w : World) (en : Ending) (w' : World) : Prop := ∃ k : Int, 0 ≤ k ∧ k ≤ 4194304 ∧ en = .returned (.int .i64 k) ∧ Turned lo hi w w'

end Go.Proofs.Ytdpolaedfjljmaa

namespace Go.Proofs.Ytdpolaedfjljmaa
open Go.RowKit

theorem grown_of_alloc (w : World) (o : Obj) (row : Option Nat) : w.grownBy (w.alloc o) row :=
  have hb : Below w.heap.size w (w.alloc o) := (Below.refl _ _).alloc (Nat.le_refl _) o
  ⟨hb.os, hb.tape, hb.output, hb.size, fun k hk _ => hb.block k hk⟩
theorem Turned.alloc {lo hi : Nat} {w w' : World} (h : Turned lo hi w w') (o : Obj) : Turned lo hi w (w'.alloc o) :=
  h.trans (Turned.of_grown (a := none) (grown_of_alloc _ _ _) (by simp))
theorem Blk.turned {w w' : World} {k : Nat} {cs : Array Value} {T : TypeId} (h : Blk w k cs T) {lo hi : Nat} (ht : Turned lo hi w w') (hk : k < lo ∨ hi ≤ k) : Blk w' k cs T := by
  have := h.lt
  unfold Blk at *
  rw [ht.block k this hk]; exact h
abbrev boolM : Nat → Bool := fun k => decide (k % 3 = 0)
abbrev intM : Nat → Int := fun k => (k : Int)
theorem Own.off {α : Type} {f : α → Value} {e : TypeId} {w : World} {base : Nat} {a : Option Addr} {c : Nat} {xs : List α} (h : Own f e w base a c xs) {k : Nat} (hk : w.heap.size ≤ k) : some k ≠ a.map (·.block) := by
  cases ha : a with
  | none => simp
  | some p => have := h.blk p ha; simp; omega

end Go.Proofs.Ytdpolaedfjljmaa

namespace Go.Proofs.Ytdpolaedfjljmaa
open Go.RowKit

end Go.Proofs.Ytdpolaedfjljmaa
