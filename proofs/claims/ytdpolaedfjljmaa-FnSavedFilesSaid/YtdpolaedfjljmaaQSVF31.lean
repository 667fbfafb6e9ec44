/- What RecoverAll recovers: plain. -/
import Derived.Test.YtdpolaedfjljmaaQSVF29
import Derived.Test.YtdpolaedfjljmaaQSVF7
namespace Go.Proofs.Ytdpolaedfjljmaa
open Go.RowKit

/-- The saved ones that a text begins with, at most so many, and how many bytes they take. -/
def raGo : Nat → ByteArray → List Sv × Nat
  | 0, _ => ([], 0)
  | f + 1, s => if ldOk s then (ldS s :: (raGo f (s.extract (ldE s) s.size)).1, ldE s + (raGo f (s.extract (ldE s) s.size)).2) else ([], 0)
def raL (s : ByteArray) : List Sv := (raGo 8 s).1
def raN (s : ByteArray) : Nat := (raGo 8 s).2
theorem extract_tail {s : ByteArray} {p q : Nat} (h : p ≤ s.size) : (s.extract p s.size).extract q (s.extract p s.size).size = s.extract (p + q) s.size := by
  apply toL_inj
  rw [toL_extract, toL_extract, toL_extract, ByteArray.size_extract]
  rw [List.take_of_length_le (l := List.drop p (toL s)) (by rw [List.length_drop, toL_len]; omega), List.drop_drop]
  rw [List.take_of_length_le (by rw [List.length_drop, toL_len]; omega), List.take_of_length_le (by rw [List.length_drop, toL_len]; omega)]
theorem raGo_no {f : Nat} {s : ByteArray} (h : ldOk s = false) : raGo f s = ([], 0) := by
  cases f with
  | zero => rfl
  | succ f => unfold raGo; rw [h]; rfl
theorem raGo_yes {f : Nat} {s : ByteArray} (h : ldOk s = true) : raGo (f + 1) s = (ldS s :: (raGo f (s.extract (ldE s) s.size)).1, ldE s + (raGo f (s.extract (ldE s) s.size)).2) := by
  conv => lhs; unfold raGo
  rw [h]; rfl
theorem ldE_le {s : ByteArray} (h : ldOk s = true) : ldE s ≤ s.size := by
  unfold ldOk at h
  rw [Bool.and_eq_true, Bool.and_eq_true] at h
  exact of_decide_eq_true h.1.1
/-- How far the loop has come: ss are there, p bytes are taken. -/
def RaInv (s : ByteArray) (ss : List Sv) (p : Nat) : Prop :=
  p ≤ s.size ∧ ss.length ≤ 8 ∧ raL s = ss ++ (raGo (8 - ss.length) (s.extract p s.size)).1 ∧ raN s = p + (raGo (8 - ss.length) (s.extract p s.size)).2
theorem RaInv.start (s : ByteArray) : RaInv s [] 0 := by
  have e : s.extract 0 s.size = s := by apply toL_inj; rw [toL_extract]; simp [toL_len, List.take_of_length_le]
  refine ⟨Nat.zero_le _, Nat.zero_le _, ?_, ?_⟩
  · rw [e]; rfl
  · rw [e]; unfold raN; simp
theorem RaInv.step {s : ByteArray} {ss : List Sv} {p : Nat} (h : RaInv s ss p) (h8 : ss.length < 8) (hk : ldOk (s.extract p s.size) = true) : RaInv s (ss ++ [ldV (s.extract p s.size)]) (p + ldN0 (s.extract p s.size)) := by
  obtain ⟨h1, h2, h3, h4⟩ := h
  have hle := ldE_le hk
  have hsz : (s.extract p s.size).size = s.size - p := by rw [ByteArray.size_extract]; omega
  have e1 : ldV (s.extract p s.size) = ldS (s.extract p s.size) := by unfold ldV; rw [if_pos hk]
  have e2 : ldN0 (s.extract p s.size) = ldE (s.extract p s.size) := by unfold ldN0; rw [if_pos hk]
  have e3 : 8 - ss.length = (8 - (ss ++ [ldS (s.extract p s.size)]).length) + 1 := by rw [List.length_append, List.length_singleton]; omega
  rw [e1, e2]
  rw [e3, raGo_yes hk, extract_tail h1] at h3 h4
  refine ⟨by omega, by rw [List.length_append, List.length_singleton]; omega, ?_, ?_⟩
  · rw [h3, List.append_assoc]; rfl
  · rw [h4, Nat.add_assoc]
theorem RaInv.stop {s : ByteArray} {ss : List Sv} {p : Nat} (h : RaInv s ss p) (hk : ldOk (s.extract p s.size) = false) : raL s = ss ∧ raN s = p := by
  obtain ⟨h1, h2, h3, h4⟩ := h
  rw [raGo_no hk] at h3 h4
  exact ⟨by rw [h3]; simp, by rw [h4]; rfl⟩
theorem RaInv.full {s : ByteArray} {ss : List Sv} {p : Nat} (h : RaInv s ss p) (h8 : ¬ ss.length < 8) : raL s = ss ∧ raN s = p := by
  obtain ⟨h1, h2, h3, h4⟩ := h
  have e : 8 - ss.length = 0 := by omega
  rw [e] at h3 h4
  exact ⟨by rw [h3]; simp [raGo], by rw [h4]; simp [raGo]⟩
theorem RaInv.pos {s : ByteArray} {p : Nat} (hk : ldOk (s.extract p s.size) = true) : 15 ≤ ldN0 (s.extract p s.size) := by
  have := ldE_pos (s.extract p s.size)
  unfold ldN0; rw [if_pos hk]; exact this

/-- The list that a call recovers. -/
def RetRA (w : World) (ss : List Sv) (n : Nat) (e : Ending) (w' : World) : Prop :=
  ∃ (a : Option Addr) (c : Nat) (hs : List SvH), e = .returned (.tuple #[.slice a ss.length c, .int .i64 (n : Int), .bool true]) ∧ Lst9 w' w.heap.size a c hs ss ∧ Below w.heap.size w w'

end Go.Proofs.Ytdpolaedfjljmaa
