/- Texts cut at a byte: plain. -/
import Derived.Test.YtmmpemfhbnkomaaDoorQRj5
import Derived.Lib.Bytealg
import Derived.Lib.IndexMore
set_option linter.unusedVariables false
set_option linter.unusedSimpArgs false
namespace Go.Proofs.YtmmpemfhbnkomaaDoor
open Go.RowKit

/-- How many bytes lie ahead of the first m. -/
def fIdx (m : UInt8) : List UInt8 → Nat
  | [] => 0
  | b :: l => if b = m then 0 else fIdx m l + 1
theorem fIdx_le (m : UInt8) (l : List UInt8) : fIdx m l ≤ l.length := by
  induction l with
  | nil => exact Nat.le_refl _
  | cons b l ih => unfold fIdx; split <;> simp; omega
theorem fIdx_lt {m : UInt8} {l : List UInt8} {k : Nat} (h : k < fIdx m l) : ∃ hk : k < l.length, l[k] ≠ m := by
  induction l generalizing k with
  | nil => simp [fIdx] at h
  | cons b l ih =>
    unfold fIdx at h
    by_cases hb : b = m
    · rw [if_pos hb] at h; omega
    · rw [if_neg hb] at h
      cases k with
      | zero => exact ⟨by simp, hb⟩
      | succ k =>
        obtain ⟨hk, hn⟩ := ih (k := k) (by omega)
        exact ⟨by simp; omega, by simpa using hn⟩
theorem fIdx_at {m : UInt8} {l : List UInt8} (h : fIdx m l < l.length) : l[fIdx m l] = m := by
  induction l with
  | nil => simp at h
  | cons b l ih =>
    by_cases hb : b = m
    · have : fIdx m (b :: l) = 0 := by unfold fIdx; rw [if_pos hb]
      simp only [this]; simpa using hb
    · have : fIdx m (b :: l) = fIdx m l + 1 := by rw [fIdx, if_neg hb]
      rw [this] at h
      simp only [this]
      simpa using ih (by simpa using h)
theorem index_one (m : UInt8) (l : List UInt8) : Go.Lib.index l [m] = if fIdx m l < l.length then (fIdx m l : Int) else -1 := by
  induction l with
  | nil => simp [Go.Lib.index]
  | cons b l ih =>
    unfold Go.Lib.index fIdx
    by_cases hb : b = m
    · have : ([m] : List UInt8).isPrefixOf (b :: l) = true := by simp [hb]
      rw [this, if_pos hb]; simp
    · have hp : ([m] : List UInt8).isPrefixOf (b :: l) = false := by simp [List.isPrefixOf]; exact fun e => hb e.symm
      rw [hp, if_neg hb, ih]
      simp only [Bool.false_eq_true, if_false, List.length_cons]
      by_cases hl : fIdx m l < l.length
      · have hl2 : fIdx m l + 1 < l.length + 1 := by omega
        have h3 : ((fIdx m l : Int) == -1) = false := beq_eq_false_iff_ne.2 (by omega)
        simp only [if_pos hl, if_pos hl2, h3]; simp
      · have hl2 : ¬ fIdx m l + 1 < l.length + 1 := by omega
        simp only [if_neg hl, if_neg hl2]; simp
theorem indexByte_one (m : UInt8) (l : List UInt8) : Go.Lib.indexByte l m = Go.Lib.index l [m] := by
  induction l with
  | nil => simp [Go.Lib.index, Go.Lib.indexByte]
  | cons b l ih =>
    unfold Go.Lib.index Go.Lib.indexByte
    rw [ih]
    by_cases hb : b = m
    · have : ([m] : List UInt8).isPrefixOf (b :: l) = true := by simp [hb]
      rw [this]; simp [hb]
    · have hp : ([m] : List UInt8).isPrefixOf (b :: l) = false := by simp [List.isPrefixOf]; exact fun e => hb e.symm
      rw [hp]; simp [hb]

theorem sp_len_hit {m : UInt8} {l : List UInt8} (h : fIdx m l < l.length) : sp m l = l.take (fIdx m l) :: sp m (l.drop (fIdx m l + 1)) :=
  sp_hit (by rw [index_one, if_pos h])
theorem sp_len_miss {m : UInt8} {l : List UInt8} (h : ¬ fIdx m l < l.length) : sp m l = [l] :=
  sp_miss (by rw [index_one, if_neg h])
/-- A text cut at the first m. -/
def ctI (m : UInt8) (l : ByteArray) : Nat := fIdx m (toL l)
def ctH (m : UInt8) (l : ByteArray) : ByteArray := l.extract 0 (ctI m l)
def ctT (m : UInt8) (l : ByteArray) : ByteArray := l.extract (ctI m l + 1) l.size
def ctB (m : UInt8) (l : ByteArray) : Bool := decide (ctI m l < l.size)
theorem ctI_le (m : UInt8) (l : ByteArray) : ctI m l ≤ l.size := by have := fIdx_le m (toL l); rw [toL_len] at this; exact this
theorem ctI_lt {m : UInt8} {l : ByteArray} {k : Nat} (h : k < ctI m l) : k < l.size ∧ byt l k ≠ m.toNat := by
  obtain ⟨hk, hn⟩ := fIdx_lt h
  refine ⟨by rw [toL_len] at hk; exact hk, ?_⟩
  rw [byt_toL hk]
  intro e
  exact hn (UInt8.toNat_inj.1 e)
theorem ctI_at {m : UInt8} {l : ByteArray} (h : ctI m l < l.size) : byt l (ctI m l) = m.toNat := by
  have hk : fIdx m (toL l) < (toL l).length := by rw [toL_len]; exact h
  have : byt l (ctI m l) = ((toL l)[fIdx m (toL l)]).toNat := byt_toL hk
  rw [this, fIdx_at hk]
theorem ctT_size (m : UInt8) (l : ByteArray) : (ctT m l).size ≤ l.size := by unfold ctT; rw [ByteArray.size_extract]; omega
theorem ctH_size (m : UInt8) (l : ByteArray) : (ctH m l).size ≤ l.size := by unfold ctH; rw [ByteArray.size_extract]; omega
theorem ctT_none {m : UInt8} {l : ByteArray} (h : ctB m l = false) : ctT m l = ⟨#[]⟩ := by
  have h2 : ¬ ctI m l < l.size := of_decide_eq_false h
  apply toL_inj
  unfold ctT
  rw [toL_extract]
  have e : toL ⟨#[]⟩ = [] := rfl
  rw [e, List.drop_eq_nil_of_le (by rw [toL_len]; omega)]; simp
theorem cut_sp (m : UInt8) (l : ByteArray) : Go.Lib.cut l.data.toList [m] = (toL (ctH m l), toL (ctT m l), ctB m l) := by
  unfold Go.Lib.cut ctB
  have hi := index_one m (toL l)
  rw [toL_len] at hi
  have e : l.data.toList = toL l := rfl
  rw [e, hi]
  have hle := ctI_le m l
  by_cases h : ctI m l < l.size
  · have h2 : fIdx m (toL l) < l.size := h
    rw [if_pos h2, if_pos (by omega), decide_eq_true h]
    simp only [ctH, ctT, toL_extract, Int.toNat_natCast, List.drop_zero, Nat.sub_zero, List.length_cons, List.length_nil]
    congr 2
    unfold ctI
    rw [List.take_of_length_le (by rw [List.length_drop, toL_len]; omega)]
  · have h2 : ¬ fIdx m (toL l) < l.size := h
    have h3 : ctB m l = false := decide_eq_false h
    rw [if_neg h2, decide_eq_false h, ctT_none h3]
    have e2 : toL (ctH m l) = toL l := by
      unfold ctH
      rw [toL_extract, List.drop_zero, List.take_of_length_le (by rw [toL_len]; omega)]
    rw [e2]
    have e3 : toL ⟨#[]⟩ = [] := rfl
    rw [e3]; simp
theorem ct_app {m : UInt8} {l : ByteArray} (h : ctB m l = true) : toL l = toL (ctH m l) ++ m :: toL (ctT m l) := by
  have h2 : fIdx m (toL l) < (toL l).length := by rw [toL_len]; exact of_decide_eq_true h
  unfold ctH ctT
  rw [toL_extract, toL_extract, List.drop_zero, Nat.sub_zero, List.take_of_length_le (l := (toL l).drop _) (by rw [List.length_drop, toL_len]; omega)]
  have hd := List.drop_eq_getElem_cons h2
  rw [fIdx_at h2] at hd
  show toL l = (toL l).take (fIdx m (toL l)) ++ m :: (toL l).drop (fIdx m (toL l) + 1)
  rw [← hd, List.take_append_drop]
theorem parts_cut {m : UInt8} {l : ByteArray} (h : ctB m l = true) : parts l m = ctH m l :: parts (ctT m l) m := by
  apply map_toL_inj
  rw [List.map_cons, parts_toL', parts_toL']
  have h2 : fIdx m (toL l) < (toL l).length := by rw [toL_len]; exact of_decide_eq_true h
  rw [sp_len_hit h2]
  unfold ctH ctT
  rw [toL_extract, toL_extract, List.drop_zero, Nat.sub_zero, List.take_of_length_le (l := (toL l).drop _) (by rw [List.length_drop, toL_len]; omega)]
  rfl
theorem parts_none {m : UInt8} {l : ByteArray} (h : ctB m l = false) : parts l m = [l] := by
  apply map_toL_inj
  rw [parts_toL']
  have h2 : ¬ fIdx m (toL l) < (toL l).length := by rw [toL_len]; exact of_decide_eq_false h
  rw [sp_len_miss h2]; rfl

end Go.Proofs.YtmmpemfhbnkomaaDoor
