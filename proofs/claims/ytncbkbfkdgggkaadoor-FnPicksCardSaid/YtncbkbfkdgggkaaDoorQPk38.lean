/- Reading numbers and lists of numbers, in the program's text. -/
import Derived.Test.YtncbkbfkdgggkaaDoorQPk35
import Derived.Test.YtncbkbfkdgggkaaDoorQPk15
import Derived.Test.YtncbkbfkdgggkaaDoorQPk0
import Derived.Test.YtncbkbfkdgggkaaDoorQPk2
import Derived.Lib.ParseIntBTie
import Derived.Lib.ParseIntBMem
set_option linter.unusedVariables false
set_option linter.unusedSimpArgs false
namespace Go.Proofs.YtncbkbfkdgggkaaDoor
open Go.RowKit

/-- Two rows of different types are two blocks. -/
theorem sep_of_type {α β : Type} {f : α → Value} {g : β → Value} {e e2 : TypeId} {w : World} {b b2 : Nat} {a a2 : Option Addr} {c c2 : Nat} {xs : List α} {ys : List β} (h : Own f e w b a c xs) (h2 : Own g e2 w b2 a2 c2 ys) (hne : e ≠ e2) : Sep a a2 := by
  intro p q hp hq hpq
  rcases h.shape with ⟨rfl, _, _⟩ | ⟨x, rfl, _, _, _, _, cur, hx, _, _⟩
  · simp at hp
  · rcases h2.shape with ⟨rfl, _, _⟩ | ⟨y, rfl, _, _, _, _, cur2, hy, _, _⟩
    · simp at hq
    · simp at hp hq
      subst hp; subst hq
      simp at hpq
      subst hpq
      rw [hx] at hy
      simp at hy
      exact hne hy.2

theorem pcs_len {s : ByteArray} : (pcs s).length ≤ s.size + 1 := by
  unfold pcs
  split
  · simp
  · exact (parts_len s 44).2
theorem mem_size {s p : ByteArray} (m : UInt8) (h : p ∈ parts s m) : p.size ≤ s.size := by
  have key : ∀ (l : List UInt8) (q : List UInt8), q ∈ sp m l → q.length ≤ l.length := by
    intro l
    induction l with
    | nil => intro q hq; simp [sp] at hq; subst hq; simp
    | cons b l ih =>
      intro q hq
      unfold sp at hq
      by_cases hb : b = m
      · rw [if_pos hb, List.mem_cons] at hq
        rcases hq with rfl | hq
        · simp
        · have := ih q hq; simp; omega
      · rw [if_neg hb] at hq
        obtain ⟨x, xs, hx⟩ := sp_ne m l
        rw [hx] at hq ih
        simp only [consH, List.mem_cons] at hq
        rcases hq with rfl | hq
        · have := ih x (List.mem_cons_self ..); simp; omega
        · have := ih q (List.mem_cons_of_mem _ hq); simp; omega
  have h2 : toL p ∈ sp m (toL s) := by rw [← parts_toL']; exact List.mem_map_of_mem h
  have := key _ _ h2
  rw [toL_len, toL_len] at this
  exact this
theorem pcs_size {s p : ByteArray} (h : p ∈ pcs s) : p.size ≤ s.size := by
  unfold pcs at h
  split at h
  · simp at h
  · exact mem_size 44 h

/-- readList. -/
def rlB (s : ByteArray) : Bool := (pcs s).all rdB
def rlR (s : ByteArray) : List Int := if rlB s then numsL s else []
theorem rl_nums (s : ByteArray) : numsB s = (rlB s && decide ((rlR s).length ≤ 64)) := by
  unfold numsB
  cases h : rlB s with
  | false => have h2 : (pcs s).all rdB = false := h; rw [h2]; rfl
  | true =>
    have h2 : (pcs s).all rdB = true := h
    have h3 : (rlR s).length = (pcs s).length := by unfold rlR; rw [h]; exact numsL_len s
    rw [h2, h3]
theorem numsR_yes {s : ByteArray} (h : numsB s = true) : numsR s = rlR s := by
  have h2 := rl_nums s
  rw [h] at h2
  have h3 : rlB s = true := by
    cases hb : rlB s with
    | true => rfl
    | false => rw [hb] at h2; simp at h2
  unfold numsR rlR
  rw [h, h3]
theorem numsR_no {s : ByteArray} (h : numsB s = false) : numsR s = [] := by unfold numsR; rw [h]; rfl

end Go.Proofs.YtncbkbfkdgggkaaDoor
