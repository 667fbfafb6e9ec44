/- Recovered journals: plain. -/
import Derived.Test.YtmmpemfhbnkomaaDoorQRj17
import Derived.Test.YtmmpemfhbnkomaaDoorQRj8
set_option linter.unusedVariables false
set_option linter.unusedSimpArgs false
namespace Go.Proofs.YtmmpemfhbnkomaaDoor
open Go.RowKit

/-- A line's word, and what is behind it. -/
def lnI (l : ByteArray) : Nat := ctI 32 l
def lnH (l : ByteArray) : ByteArray := ctH 32 l
def lnT (l : ByteArray) : ByteArray := ctT 32 l
theorem lnT_size (l : ByteArray) : (lnT l).size ≤ l.size := ctT_size 32 l

/-- The check numbers, the lines that are as they should be, how many these are. -/
def rC (L : List ByteArray) : Nat → Int
  | 0 => 0
  | k + 1 => chk (rC L k) (lnT (bsT L k)) (lnT (bsT L k)).size
theorem rC_bd (L : List ByteArray) (k : Nat) : 0 ≤ rC L k ∧ rC L k < 65003 := by
  induction k with
  | zero => exact ⟨Int.le_refl _, by show (0 : Int) < 65003; decide⟩
  | succ k ih => exact chk_bd ih _
def rOk (L : List ByteArray) (k : Nat) : Bool := decide (lnI (bsT L k) < (bsT L k).size) && decide (lnH (bsT L k) = decT (rC L (k + 1)))
/-- Where the first k lines end. -/
def rA (L : List ByteArray) : Nat → Nat
  | 0 => 0
  | k + 1 => rA L k + ((bsT L k).size + 1)
def rNf (L : List ByteArray) : Nat → Nat → Nat
  | 0, k => k
  | f + 1, k => if k < L.length ∧ rOk L k = true then rNf L f (k + 1) else k
def rN (L : List ByteArray) : Nat := rNf L L.length 0
theorem rNf_stop {L : List ByteArray} {k : Nat} (f : Nat) (h : ¬ (k < L.length ∧ rOk L k = true)) : rNf L f k = k := by
  cases f with
  | zero => rfl
  | succ f => rw [rNf, if_neg h]
theorem rN_at {L : List ByteArray} {k : Nat} (hk : k ≤ L.length) (h : ∀ j, j < k → rOk L j = true) : rN L = rNf L (L.length - k) k := by
  induction k with
  | zero => rfl
  | succ k ih =>
    rw [ih (by omega) (fun j hj => h j (by omega))]
    have e : L.length - k = (L.length - (k + 1)) + 1 := by omega
    rw [e, rNf, if_pos ⟨by omega, h k (by omega)⟩]
theorem rN_stop {L : List ByteArray} {k : Nat} (hk : k ≤ L.length) (h : ∀ j, j < k → rOk L j = true) (hs : ¬ (k < L.length ∧ rOk L k = true)) : rN L = k := by
  rw [rN_at hk h, rNf_stop _ hs]
def rL (L : List ByteArray) (k : Nat) : List ByteArray := (List.range k).map fun j => lnT (bsT L j)
theorem rL_len (L : List ByteArray) (k : Nat) : (rL L k).length = k := by simp [rL]
theorem rL_succ (L : List ByteArray) (k : Nat) : rL L (k + 1) = rL L k ++ [lnT (bsT L k)] := by simp [rL, List.range_succ]

/-- How a text lies behind its first k lines. -/
theorem lies (t : ByteArray) (k : Nat) (hk : k < (parts t 10).length) : rA (linesL t) k ≤ t.size ∧ sp 10 ((toL t).drop (rA (linesL t) k)) = (sp 10 (toL t)).drop k := by
  have hlen : (sp 10 (toL t)).length = (parts t 10).length := by rw [← parts_toL', List.length_map]
  induction k with
  | zero => exact ⟨Nat.zero_le _, rfl⟩
  | succ k ih =>
    obtain ⟨h1, h2⟩ := ih (by omega)
    generalize hl : (toL t).drop (rA (linesL t) k) = l at h2
    have hll : l.length = t.size - rA (linesL t) k := by rw [← hl, List.length_drop, toL_len]
    have hd : (sp 10 (toL t)).drop k = (sp 10 (toL t))[k]'(by omega) :: (sp 10 (toL t)).drop (k + 1) := List.drop_eq_getElem_cons (by omega)
    by_cases hf : fIdx 10 l < l.length
    · rw [sp_len_hit hf, hd, List.cons.injEq] at h2
      have hpk : (sp 10 (toL t))[k]'(by omega) = toL (bsT (linesL t) k) := by
        have e : bsT (linesL t) k = (parts t 10)[k]'(by omega) := by
          unfold bsT linesL
          rw [List.getElem?_take, if_pos (by omega), List.getElem?_eq_getElem (by omega)]; rfl
        rw [e]
        simp [← parts_toL']
      have hsz : (bsT (linesL t) k).size = fIdx 10 l := by
        rw [← toL_len, ← hpk, ← h2.1, List.length_take]; omega
      refine ⟨by rw [rA, hsz]; omega, ?_⟩
      rw [rA, hsz, ← h2.2, ← hl, List.drop_drop]
    · rw [sp_len_miss hf, hd, List.cons.injEq] at h2
      have := congrArg List.length h2.2
      rw [List.length_drop, hlen] at this
      simp at this
      omega
theorem lies_hit {t : ByteArray} {k : Nat} (hk : k < (linesL t).length) : fIdx 10 ((toL t).drop (rA (linesL t) k)) = (bsT (linesL t) k).size ∧ rA (linesL t) (k + 1) ≤ t.size ∧ t.extract (rA (linesL t) k) (rA (linesL t) k + (bsT (linesL t) k).size) = bsT (linesL t) k := by
  have hlen : (sp 10 (toL t)).length = (parts t 10).length := by rw [← parts_toL', List.length_map]
  have hkl : k + 1 < (parts t 10).length := by
    unfold linesL at hk
    rw [List.length_take] at hk
    omega
  obtain ⟨h1, h2⟩ := lies t k (by omega)
  have h3 := (lies t (k + 1) hkl).1
  have hpk : (sp 10 (toL t))[k]'(by omega) = toL (bsT (linesL t) k) := by
    have e : bsT (linesL t) k = (parts t 10)[k]'(by omega) := by
      unfold bsT linesL
      rw [List.getElem?_take, if_pos (by omega), List.getElem?_eq_getElem (by omega)]; rfl
    rw [e]
    simp [← parts_toL']
  have hd : (sp 10 (toL t)).drop k = (sp 10 (toL t))[k]'(by omega) :: (sp 10 (toL t)).drop (k + 1) := List.drop_eq_getElem_cons (by omega)
  by_cases hf : fIdx 10 ((toL t).drop (rA (linesL t) k)) < ((toL t).drop (rA (linesL t) k)).length
  · rw [sp_len_hit hf, hd, List.cons.injEq] at h2
    have hsz : (bsT (linesL t) k).size = fIdx 10 ((toL t).drop (rA (linesL t) k)) := by
      rw [← toL_len, ← hpk, ← h2.1, List.length_take]; omega
    refine ⟨hsz.symm, h3, ?_⟩
    apply toL_inj
    rw [toL_extract, ← hpk, ← h2.1, hsz]
    congr 1
    omega
  · rw [sp_len_miss hf, hd, List.cons.injEq] at h2
    have := congrArg List.length h2.2
    rw [List.length_drop, hlen] at this
    simp at this
    omega
theorem lies_end (t : ByteArray) : ¬ fIdx 10 ((toL t).drop (rA (linesL t) (linesL t).length)) < ((toL t).drop (rA (linesL t) (linesL t).length)).length ∧ rA (linesL t) (linesL t).length ≤ t.size := by
  have hlen : (sp 10 (toL t)).length = (parts t 10).length := by rw [← parts_toL', List.length_map]
  have hp := (parts_len t 10).1
  have hL : (linesL t).length = (parts t 10).length - 1 := by unfold linesL; rw [List.length_take]; omega
  obtain ⟨h1, h2⟩ := lies t (linesL t).length (by omega)
  refine ⟨fun hf => ?_, h1⟩
  rw [sp_len_hit hf] at h2
  have h3 := congrArg List.length h2
  rw [List.length_drop, hlen, List.length_cons] at h3
  obtain ⟨p, ps, hps⟩ := sp_ne 10 (((toL t).drop (rA (linesL t) (linesL t).length)).drop (fIdx 10 ((toL t).drop (rA (linesL t) (linesL t).length)) + 1))
  rw [hps, List.length_cons] at h3
  omega

end Go.Proofs.YtmmpemfhbnkomaaDoor
