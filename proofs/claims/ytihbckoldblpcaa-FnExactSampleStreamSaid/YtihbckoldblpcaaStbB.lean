/- A stable sort in place, in plain words: blocks. -/
import Derived.Test.YtihbckoldblpcaaStbL
namespace Go.Proofs.Ytihbckoldblpcaa
open Go.RowKit

theorem blk_snoc {ys zs : List Int} {s a b k : Nat} (ha : a = k * s) (h1 : a ≤ b) (h2 : b ≤ a + s) (h : blkAsc ys s 0 a) (hr : RP a b ys zs) (hz : ascR zs a b) : blkAsc zs s 0 b := by
  subst ha
  have e2 : k * s + s = (k + 1) * s := by rw [Nat.add_mul, Nat.one_mul]
  exact (h.keep hr (.inl (Nat.le_refl _))).snoc h1 (by omega) hz
theorem blk_half {s a k : Nat} (ha : a = k * (2 * s)) : a = (2 * k) * s ∧ a + s = (2 * k + 1) * s ∧ a + 2 * s = (2 * k + 1 + 1) * s := by
  have e1 : a = (2 * k) * s := by rw [ha, Nat.mul_left_comm, Nat.mul_assoc]
  refine ⟨e1, ?_, ?_⟩
  · rw [Nat.add_mul, Nat.one_mul, ← e1]
  · rw [Nat.add_mul, Nat.add_mul, Nat.one_mul, ← e1]; omega
theorem blk_l {ys : List Int} {s a k n : Nat} (ha : a = k * (2 * s)) (hs : 0 < s) (h : blkAsc ys s a n) (h1 : a + s ≤ n) : ascR ys a (a + s) := by
  obtain ⟨e1, e2, e3⟩ := blk_half ha
  have := h.head (k := 2 * k) (by omega) (by omega) hs
  rwa [← e1, ← e2] at this
theorem blk_r {ys : List Int} {s a k n : Nat} (ha : a = k * (2 * s)) (hs : 0 < s) (h : blkAsc ys s a n) (h1 : a + 2 * s ≤ n) : ascR ys (a + s) (a + 2 * s) := by
  obtain ⟨e1, e2, e3⟩ := blk_half ha
  have := h.head (k := 2 * k + 1) (by omega) (by omega) hs
  rwa [← e2, ← e3] at this
theorem blk_rn {ys : List Int} {s a k n : Nat} (ha : a = k * (2 * s)) (h : blkAsc ys s a n) (h1 : a + s < n) (h2 : n ≤ a + 2 * s) : ascR ys (a + s) n := by
  obtain ⟨e1, e2, e3⟩ := blk_half ha
  have := h.last (k := 2 * k + 1) (by omega) (by omega) (by omega)
  rwa [← e2] at this
theorem blk_ln {ys : List Int} {s a k n : Nat} (ha : a = k * (2 * s)) (h : blkAsc ys s a n) (h2 : n ≤ a + s) : ascR ys a n := by
  obtain ⟨e1, e2, e3⟩ := blk_half ha
  by_cases h1 : a < n
  · have := h.last (k := 2 * k) (by omega) (by omega) (by omega)
    rwa [← e1] at this
  · exact ascR_nil _ (by omega)
theorem blk_tail {ys zs : List Int} {s a b n : Nat} (h : blkAsc ys s a n) (h1 : a ≤ b) (hr : RP a b ys zs) : blkAsc zs s b n := (h.sub h1).keep hr (.inr (Nat.le_refl _))
theorem srt_asc {ts zs : List Int} {n : Nat} (hn : ts.length = n) (hp : RP 0 n ts zs) (ha : ascR zs 0 n) : zs = srt ts :=
  srt_of hp.perm (pw_of_at0 (fun p q h1 h2 => ha p q (Nat.zero_le _) h1 (by rw [hp.len] at h2; omega)))

end Go.Proofs.Ytihbckoldblpcaa
