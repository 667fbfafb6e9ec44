/- slices.Compact of a list in ascending order, slices.DeleteFunc, at []int64, on a list of the call's own. -/
import Derived.Test.YtncbkbfkdgggkaaQWn11
import Derived.Test.YtncbkbfkdgggkaaQWn10
import Derived.Test.YtncbkbfkdgggkaaQWn3
namespace Go.Proofs.Ytncbkbfkdgggkaa
open Go.RowKit

theorem Own.pokes {α : Type} {f : α → Value} {e : TypeId} {base g c : Nat} {xs : List α} (vs : List Value) : ∀ {w : World} (_ : Own f e w base (some ⟨g, 0, none⟩) c xs) (k : Nat) (_ : xs.length ≤ k),
    Own f e (w.setCells g k vs) base (some ⟨g, 0, none⟩) c xs ∧ w.grownBy (w.setCells g k vs) (some g) := by
  induction vs with
  | nil => intro w h k _; exact ⟨h, World.grownBy.refl _ _⟩
  | cons v vs ih =>
    intro w h k hk
    have h1 := h.poke k hk v
    have h2 := ih h1.1 (k + 1) (by omega)
    exact ⟨h2.1, grown_trans h1.2 h2.2⟩

/-- 'clear(s[k:])' behind the list's end. -/
theorem clear_from {w : World} {base g c n k : Nat} {ys : List Int} (ho : Own (Value.int .i64) 2 w base (some ⟨g, 0, none⟩) c ys) (hl : ys.length = k) (hk : k < n) (hc : n ≤ c) :
    ∃ w2, (∀ ty, (Builtin.clear_ #[25] ty #[.slice (some ⟨g, k, none⟩) (n - k) (c - k)]).run Try.prog w = .ok (.tuple #[]) w2) ∧ Own (Value.int .i64) 2 w2 base (some ⟨g, 0, none⟩) c ys ∧ w.grownBy w2 (some g) := by
  have hp := ho.pokes (List.replicate (n - k) (.int .i64 0)) k (by omega)
  refine ⟨w.setCells g k (List.replicate (n - k) (.int .i64 0)), fun ty => ?_, hp.1, hp.2⟩
  have hsh : ∃ cur, w.heap[g]? = some (.cells cur 2 (0, 0)) ∧ cur.size = c := by
    rcases ho.shape with ⟨h, _⟩ | ⟨g', h, _, _, _, _, cur, h2, h3, _⟩
    · simp at h
    · simp at h; subst h; exact ⟨cur, h2, h3⟩
  obtain ⟨cur, hg, hs⟩ := hsh
  exact Lib.run_clear_slice (P := Try.prog) w 25 2 ty (.int .i64 0) und_ise zero_i rfl rfl g k (n - k) (c - k) (by omega)
    (fun j hj => by rw [cell_of_row w g (k + j) cur _ (0, 0) hg, Array.getElem?_eq_getElem (by omega)]; rfl)
    (fun j hj => frozen_of_row w g _ cur _ hg)

/-- A list cut to its beginning. -/
theorem Own.cutTo {α : Type} {f : α → Value} {e : TypeId} {w : World} {base : Nat} {a : Option Addr} {c : Nat} {xs ys : List α} (h : Own f e w base a c xs) (hl : ys.length ≤ xs.length) (hy : xs.take ys.length = ys) : Own f e w base a c ys := by
  unfold Own
  have := h.pre hl
  rwa [hy] at this

theorem below_grown {w w' : World} (hb : Below w.heap.size w w') (row : Option Nat) : w.grownBy w' row := ⟨hb.os, hb.tape, hb.output, hb.size, fun k hk _ => hb.block k hk⟩

theorem cmpU_one {xs : List Int} {k : Nat} (h : uniq (xs.take k) = xs.take k) (hk : k ≤ xs.length) : cmpU xs k = xs := by
  unfold cmpU
  rw [h, List.length_take, Nat.min_eq_left hk, List.take_append_drop]
theorem eqb_at0 {xs : List Int} {p q : Nat} {x y : Int} (hx : at0 xs p = x) (hy : at0 xs q = y) : (x == y) = decide (at0 xs p = at0 xs q) := by
  rw [hx, hy]
  by_cases h : x = y
  · simp [h]
  · simp [h]

theorem own_at {w : World} {base g c : Nat} {ys : List Int} (ho : Own (Value.int .i64) 2 w base (some ⟨g, 0, none⟩) c ys) {p : Nat} (hp : p < ys.length) {x : Int} (hx : at0 ys p = x) : w.cell? ⟨g, p, none⟩ = some (.int .i64 x) := by
  have := ho.rd.cell p hp
  rw [elt_some, Nat.zero_add] at this
  rw [this, ← hx]
  rfl
theorem idx_off {P : Program} {T : TypeId} (hT : P.underlying T = some (.slice (P.elem T))) (hs : ∀ w, (sizeOf (P.elem T)).run P w = .ok 1 w) {g o n c k : Nat} (hk : k < n) (i : Int) (hi : i = k) :
    ∀ w' : World, (Instr.indexAt T (.slice (some ⟨g, o, none⟩) n c) (.int .i64 i)).run P w' = .ok (.pointer (some ⟨g, o + k, none⟩)) w' := by
  subst hi
  intro w'
  have := idx_run (P := P) (T := T) (a := some ⟨g, o, none⟩) (n := n) (c := c) hT hs (fun _ => ⟨_, _, rfl⟩) w' k hk
  rw [elt_some] at this
  exact this

theorem idxOf_cases {p : Int → Bool} {xs : List Int} : (idxOf p xs = -1 ∧ ∀ x ∈ xs, p x = false) ∨ ∃ i : Nat, idxOf p xs = i ∧ i < xs.length ∧ p (at0 xs i) = true ∧ ∀ x ∈ xs.take i, p x = false := by
  unfold idxOf
  cases h : xs.findIdx? p with
  | none => rw [List.findIdx?_eq_none_iff] at h; exact .inl ⟨rfl, h⟩
  | some i =>
    rw [List.findIdx?_eq_some_iff_getElem] at h
    obtain ⟨hi, hp, hb⟩ := h
    refine .inr ⟨i, rfl, hi, by simpa [at0, hi] using hp, fun x hx => ?_⟩
    obtain ⟨j, hj, rfl⟩ := List.mem_take_iff_getElem.1 hx
    simpa using hb j (by omega)

end Go.Proofs.Ytncbkbfkdgggkaa
