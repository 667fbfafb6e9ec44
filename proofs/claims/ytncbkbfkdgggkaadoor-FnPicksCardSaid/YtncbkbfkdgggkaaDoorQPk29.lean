/- Numbers as texts, in both texts. -/
import Derived.Test.YtncbkbfkdgggkaaDoorQPk0
import Derived.Test.YtncbkbfkdgggkaaDoorQPk19
import Derived.Lib.LaidTab
import Derived.Lib.AppendIntMem
set_option linter.unusedVariables false
set_option linter.unusedSimpArgs false
namespace Go.Proofs.YtncbkbfkdgggkaaDoor
open Go.RowKit

/-- The library's table of powers in its variable. -/
def PTab (w : World) : Prop := Lib.TabIs Tryd.prog w "internal/strconv.uint64pow10" .u64 Lib.pow10Tab
/-- A number's text. -/
def decT (n : Int) : ByteArray := ⟨(Lib.itoa n).toArray⟩
def bI (l : List UInt8) : List Int := l.map fun b => (b.toNat : Int)
theorem strOf_bI (l : List UInt8) : strOf (bI l) = ⟨l.toArray⟩ := by
  unfold strOf bI
  rw [foldl_push_byteCells]
  have : ByteArray.empty.data = #[] := rfl
  rw [this]
  simp
theorem decT_str (n : Int) : decT n = strOf (bI (Lib.itoa n)) := (strOf_bI _).symm
theorem bI_len (l : List UInt8) : (bI l).length = l.length := by unfold bI; simp
theorem dig_bI {x : Nat} (h : x < 10) : ((UInt8.ofNat (48 + x)).toNat : Int) = 48 + (x : Int) := by
  rw [UInt8.toNat_ofNat_of_lt' (by show 48 + x < 256; omega)]; omega
/-- Where the digits of n are told down to r: what is told is out. -/
def DigInv (n r : Int) (out : List Int) : Prop := (out = [] ∧ r = n) ∨ (out ≠ [] ∧ bI (Lib.decDigits n.natAbs) = (if r = 0 then [] else bI (Lib.decDigits r.natAbs)) ++ out)
theorem digInv_step {n r : Int} {out : List Int} (h : DigInv n r out) (hr : out = [] ∨ r ≠ 0) : DigInv n (r.tdiv 10) ((48 + ((r.tmod 10).natAbs : Int)) :: out) := by
  have hu : (r.tdiv 10).natAbs = r.natAbs / 10 := by rw [Int.natAbs_tdiv]; rfl
  have hm : (r.tmod 10).natAbs = r.natAbs % 10 := by rw [Int.natAbs_tmod]; rfl
  have hz : r.tdiv 10 = 0 ↔ r.natAbs < 10 := by
    rw [← Int.natAbs_eq_zero, hu]; omega
  right
  refine ⟨by simp, ?_⟩
  have hbase : bI (Lib.decDigits n.natAbs) = bI (Lib.decDigits r.natAbs) ++ out := by
    rcases h with ⟨rfl, rfl⟩ | ⟨ho, h⟩
    · simp
    · rcases hr with e | e
      · exact absurd e ho
      · rw [h, if_neg e]
  rw [hbase, hm]
  by_cases hs : r.natAbs < 10
  · rw [if_pos (hz.2 hs), Lib.decDigits_one hs]
    have : r.natAbs % 10 = r.natAbs := Nat.mod_eq_of_lt hs
    rw [this]
    simp only [bI, List.map_cons, List.map_nil, List.nil_append, dig_bI hs]
    rfl
  · rw [if_neg (fun e => hs (hz.1 e)), hu]
    conv => lhs; rw [Lib.decDigits, dif_neg hs]
    have hd := dig_bI (x := r.natAbs % 10) (by omega)
    simp only [bI, List.map_append, List.map_cons, List.map_nil, hd]
    simp [List.append_assoc]
theorem digInv_done {n : Int} {out : List Int} (h : DigInv n 0 out) (ho : out ≠ []) : out = bI (Lib.decDigits n.natAbs) := by
  rcases h with ⟨e, _⟩ | ⟨_, h⟩
  · exact absurd e ho
  · rw [if_pos rfl] at h; simpa using h.symm
theorem itoa_neg {n : Int} (h : n < 0) : bI (Lib.itoa n) = 45 :: bI (Lib.decDigits n.natAbs) := by
  unfold Lib.itoa; rw [if_pos h]; rfl
theorem itoa_pos {n : Int} (h : ¬ n < 0) : bI (Lib.itoa n) = bI (Lib.decDigits n.natAbs) := by
  unfold Lib.itoa; rw [if_neg h, show n.toNat = n.natAbs by omega]
theorem itoa_len (n : Int) : 1 ≤ (Lib.itoa n).length := by
  unfold Lib.itoa
  split
  · simp
  · rw [Lib.decDigits_length]; unfold Lib.nDigits; split <;> omega
theorem len_ok {r : Int} {k : Nat} (hr : r ≠ 0) (h : r.natAbs * 10 ^ k ≤ 9223372036854775808) : k ≤ 18 := by
  rcases Nat.lt_or_ge k 19 with hk | hk
  · omega
  · have h1 : 10 ^ 19 ≤ 10 ^ k := Nat.pow_le_pow_right (by decide) hk
    have h2 : 1 * 10 ^ k ≤ r.natAbs * 10 ^ k := Nat.mul_le_mul_right _ (by omega)
    have h3 : (10 : Nat) ^ 19 = 10000000000000000000 := by decide
    omega
theorem len_step {r : Int} {k : Nat} (h : r.natAbs * 10 ^ k ≤ 9223372036854775808) : (r.tdiv 10).natAbs * 10 ^ (k + 1) ≤ 9223372036854775808 := by
  have hu : (r.tdiv 10).natAbs = r.natAbs / 10 := by rw [Int.natAbs_tdiv]; rfl
  rw [hu, Nat.pow_succ, Nat.mul_comm (10 ^ k) 10, ← Nat.mul_assoc]
  exact Nat.le_trans (Nat.mul_le_mul_right _ (Nat.div_mul_le_self _ _)) h
def lenOf : Value → Nat
  | .slice _ n _ => n
  | _ => 0

end Go.Proofs.YtncbkbfkdgggkaaDoor
