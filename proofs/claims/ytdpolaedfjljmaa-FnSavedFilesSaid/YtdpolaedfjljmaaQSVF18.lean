/- Bytes read one after another: plain. -/
import Derived.Test.YtdpolaedfjljmaaQSVF17
import Derived.Lib.QuoteBits
namespace Go.Proofs.Ytdpolaedfjljmaa
open Go.RowKit

/-- What is taken, what is left, were there too few. -/
def tkT (u : ByteArray) (n : Nat) : ByteArray := if n ≤ u.size then u.extract 0 n else ⟨#[]⟩
def tkU (u : ByteArray) (n : Nat) : ByteArray := if n ≤ u.size then u.extract n u.size else u
def tkF (u : ByteArray) (n : Nat) (f : Bool) : Bool := f || decide (u.size < n)
theorem tkT_size (u : ByteArray) (n : Nat) : (tkT u n).size ≤ n := by
  unfold tkT
  split
  · rw [ByteArray.size_extract]; omega
  · exact Nat.zero_le _
theorem tkU_size (u : ByteArray) (n : Nat) : (tkU u n).size ≤ u.size := by
  unfold tkU
  split
  · rw [ByteArray.size_extract]; omega
  · exact Nat.le_refl _
/-- The number of a text's last j bytes, the least one first. -/
def nbR (t : ByteArray) : Nat → Int
  | 0 => 0
  | j + 1 => 256 * nbR t j + (byt t (t.size - (j + 1)) : Int)
def numT (t : ByteArray) : Int := nbR t t.size
theorem nbR_bd (t : ByteArray) (j : Nat) (hj : j ≤ 4) : 0 ≤ nbR t j ∧ nbR t j < 256 ^ j := by
  induction j with
  | zero => exact ⟨Int.le_refl _, by show (0 : Int) < 256 ^ 0; decide⟩
  | succ j ih =>
    have h := ih (by omega)
    have hb := byt_lt t (t.size - (j + 1))
    unfold nbR
    have e : (256 : Int) ^ (j + 1) = 256 ^ j * 256 := Int.pow_succ ..
    rw [e]
    omega
theorem numT_bd4 {t : ByteArray} (h : t.size ≤ 4) : 0 ≤ numT t ∧ numT t < 4294967296 := by
  have hb := nbR_bd t t.size h
  have hp : (256 : Int) ^ t.size ≤ 256 ^ 4 := by
    match t.size, h with
    | 0, _ => decide
    | 1, _ => decide
    | 2, _ => decide
    | 3, _ => decide
    | 4, _ => decide
  have h4 : (256 : Int) ^ 4 = 4294967296 := by decide
  unfold numT
  omega
theorem numT_bd1 {t : ByteArray} (h : t.size ≤ 1) : 0 ≤ numT t ∧ numT t < 256 := by
  have hb := nbR_bd t t.size (by omega)
  have hp : (256 : Int) ^ t.size ≤ 256 := by
    match t.size, h with
    | 0, _ => decide
    | 1, _ => decide
  unfold numT
  omega
theorem numT_1 {t : ByteArray} (h : t.size = 1) : numT t = (byt t 0 : Int) := by
  unfold numT; rw [h]; simp [nbR, h]
theorem numT_4 {t : ByteArray} (h : t.size = 4) : numT t = nb4 t 0 := by
  unfold numT; rw [h]; simp [nbR, h, nb4]; omega
theorem or_byte {a : Int} {b : Nat} (h0 : 0 ≤ a) (h1 : a < 16777216) (hb : b < 256) : bits .or .i64 (a * 256) (b : Int) = 256 * a + (b : Int) := by
  obtain ⟨k, rfl⟩ := Int.eq_ofNat_of_zero_le h0
  have e : ((k : Int) * 256) = ((k * 256 : Nat) : Int) := by omega
  show IntKind.i64.wrap ((BitVec.ofInt 64 ((k : Int) * 256) ||| BitVec.ofInt 64 (b : Int)).toNat : Int) = _
  rw [e, BitVec.toNat_or, ofInt_u64 (k * 256) (by omega), ofInt_u64 b (by omega)]
  have h2 : k * 256 ||| b = k * 256 + b := by
    have := Nat.shiftLeft_add_eq_or_of_lt (i := 8) (b := b) (by omega) k
    rw [Nat.shiftLeft_eq] at this
    exact this.symm
  rw [h2, Lib.wrap_i64_small _ (by omega)]
  omega

theorem byt_extract {s : ByteArray} {p q i : Nat} (h : p + i < q) (hq : q ≤ s.size) : byt (s.extract p q) i = byt s (p + i) := by
  have h1 : i < (toL (s.extract p q)).length := by rw [toL_len, ByteArray.size_extract]; omega
  have h2 : p + i < (toL s).length := by rw [toL_len]; omega
  rw [byt_toL h1, byt_toL h2]
  congr 1
  simp only [toL_extract, List.getElem_take, List.getElem_drop]

/-- What is left behind p bytes of s, and whether there were too few. -/
structure SrcOk (s : ByteArray) (p : Nat) (u : ByteArray) (f : Bool) : Prop where
  sz : u.size ≤ s.size
  bad : f = true → s.size < ldE s
  good : f = false → p ≤ s.size ∧ u = s.extract p s.size
theorem SrcOk.start (s : ByteArray) : SrcOk s 0 s false := ⟨Nat.le_refl _, fun h => by simp at h, fun _ => ⟨Nat.zero_le _, by
  apply toL_inj; rw [toL_extract]; simp [toL_len, List.take_of_length_le]⟩⟩
theorem SrcOk.step {s : ByteArray} {p : Nat} {u : ByteArray} {f : Bool} (h : SrcOk s p u f) (n : Nat) (hp : f = false → p + n ≤ ldE s) :
    SrcOk s (p + n) (tkU u n) (tkF u n f) ∧ (tkF u n f = false → f = false ∧ p + n ≤ s.size ∧ tkT u n = s.extract p (p + n)) := by
  refine ⟨⟨Nat.le_trans (tkU_size u n) h.sz, fun hf => ?_, fun hf => ?_⟩, fun hf => ?_⟩
  · cases hff : f with
    | true => exact h.bad hff
    | false =>
      obtain ⟨h1, h2⟩ := h.good hff
      have h3 := hp hff
      have h4 : u.size < n := by unfold tkF at hf; rw [hff] at hf; simpa using hf
      have h5 : u.size = s.size - p := by rw [h2, ByteArray.size_extract]; omega
      omega
  · have hf2 : f = false ∧ n ≤ u.size := by unfold tkF at hf; simp at hf; exact hf
    obtain ⟨h1, h2⟩ := h.good hf2.1
    have h5 : u.size = s.size - p := by rw [h2, ByteArray.size_extract]; omega
    refine ⟨by omega, ?_⟩
    unfold tkU
    rw [if_pos hf2.2, h5, h2]
    apply toL_inj
    rw [toL_extract, toL_extract, toL_extract]
    rw [List.take_of_length_le (l := List.drop p (toL s)) (by rw [List.length_drop, toL_len]; omega), List.drop_drop]
    rw [List.take_of_length_le (by rw [List.length_drop, toL_len]; omega), List.take_of_length_le (by rw [List.length_drop, toL_len]; omega)]
  · have hf2 : f = false ∧ n ≤ u.size := by unfold tkF at hf; simp at hf; exact hf
    obtain ⟨h1, h2⟩ := h.good hf2.1
    have h5 : u.size = s.size - p := by rw [h2, ByteArray.size_extract]; omega
    refine ⟨hf2.1, by omega, ?_⟩
    unfold tkT
    rw [if_pos hf2.2, h2]
    apply toL_inj
    rw [toL_extract, toL_extract, toL_extract]
    rw [List.take_of_length_le (l := List.drop p (toL s)) (by rw [List.length_drop, toL_len]; omega)]
    simp
theorem SrcOk.byte {s : ByteArray} {p : Nat} {u : ByteArray} {f : Bool} (h : SrcOk s p u f) (hp : f = false → p + 1 ≤ ldE s) :
    SrcOk s (p + 1) (tkU u 1) (tkF u 1 f) ∧ (tkF u 1 f = false → f = false ∧ numT (tkT u 1) = (byt s p : Int)) ∧ 0 ≤ numT (tkT u 1) ∧ numT (tkT u 1) < 256 := by
  obtain ⟨h1, h2⟩ := h.step 1 hp
  refine ⟨h1, fun hf => ?_, numT_bd1 (tkT_size u 1)⟩
  obtain ⟨g1, g2, g3⟩ := h2 hf
  refine ⟨g1, ?_⟩
  rw [numT_1 (by rw [g3, ByteArray.size_extract]; omega), g3, byt_extract (by omega) g2]
  rfl
theorem SrcOk.word {s : ByteArray} {p : Nat} {u : ByteArray} {f : Bool} (h : SrcOk s p u f) (hp : f = false → p + 4 ≤ ldE s) :
    SrcOk s (p + 4) (tkU u 4) (tkF u 4 f) ∧ (tkF u 4 f = false → f = false ∧ numT (tkT u 4) = nb4 s p) ∧ 0 ≤ numT (tkT u 4) ∧ numT (tkT u 4) < 4294967296 := by
  obtain ⟨h1, h2⟩ := h.step 4 hp
  refine ⟨h1, fun hf => ?_, numT_bd4 (tkT_size u 4)⟩
  obtain ⟨g1, g2, g3⟩ := h2 hf
  refine ⟨g1, ?_⟩
  rw [numT_4 (by rw [g3, ByteArray.size_extract]; omega), g3]
  unfold nb4
  rw [byt_extract (by omega) g2, byt_extract (by omega) g2, byt_extract (by omega) g2, byt_extract (by omega) g2]
  rfl

end Go.Proofs.Ytdpolaedfjljmaa
