/- The reference's windows: what is valid. -/
import Derived.Test.YtihbckoldblpcaaWinP
namespace Go.Proofs.Ytihbckoldblpcaa
open Go.RowKit

theorem l00In_q {x lo hi : Int} {w : World} {n : Nat} : Calls Try.prog 65 #[.int .i64 x, .int .i64 lo, .int .i64 hi] (w.drewN n) fun e w'' => e = .returned (.bool (inR x lo hi)) ∧ ∃ m, w'' = w.drewN m :=
  (l00In_any _ _ _ _).mono fun _ _ ⟨he, hw⟩ => ⟨he, n, hw.symm⟩
theorem at0_cell' {w : World} {a : Option Addr} {c : Nat} {xs : List Int} (hr : Rd (Value.int .i64) w a c xs) {k : Nat} (hk : k < xs.length) {x : Int} (hx : at0 xs k = x) : w.cell? (elt a k) = some (.int .i64 x) := by
  rw [hr.cell k hk, ← hx]; rfl
theorem drewN_more' {w wr : World} (h : ∃ n, wr = w.drewN n) (m : Nat) : ∃ n, wr.drewN m = w.drewN n := by
  obtain ⟨n, rfl⟩ := h
  exact ⟨_, World.drewN_drewN _ _ _⟩

/-- A window in memory. -/
structure WinAt (w : World) (b o : Nat) (L P : Int) (ta : Option Addr) (tl tc : Nat) (sa : Option Addr) (sl sc : Nat) : Prop where
  c0 : w.cell? ⟨b, o, none⟩ = some (.int .i64 L)
  c1 : w.cell? ⟨b, o + 1, none⟩ = some (.int .i64 P)
  c2 : w.cell? ⟨b, o + 2, none⟩ = some (.slice ta tl tc)
  c3 : w.cell? ⟨b, o + 3, none⟩ = some (.slice sa sl sc)
  lt : b < w.heap.size
theorem WinAt.below {w w' : World} {b o : Nat} {L P : Int} {ta : Option Addr} {tl tc : Nat} {sa : Option Addr} {sl sc : Nat} (h : WinAt w b o L P ta tl tc sa sl sc) {B : Nat} (hb : Below B w w') (hB : w.heap.size ≤ B) : WinAt w' b o L P ta tl tc sa sl sc := by
  have hl := h.lt
  refine ⟨?_, ?_, ?_, ?_, Nat.lt_of_lt_of_le hl hb.size⟩
  · rw [hb.cell (by simp; omega)]; exact h.c0
  · rw [hb.cell (by simp; omega)]; exact h.c1
  · rw [hb.cell (by simp; omega)]; exact h.c2
  · rw [hb.cell (by simp; omega)]; exact h.c3

end Go.Proofs.Ytihbckoldblpcaa
