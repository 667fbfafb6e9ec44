/- The lines of a text, in both texts. -/
import Derived.Test.YtmmpemfhbnkomaaDoorQRj5
import Derived.Test.YtmmpemfhbnkomaaDoorQRj11
set_option linter.unusedVariables false
set_option linter.unusedSimpArgs false
namespace Go.Proofs.YtmmpemfhbnkomaaDoor
open Go.RowKit

theorem headRunC {α : Type} [Inhabited α] {f : α → Value} {w : World} {a : Option Addr} {c : Nat} {xs : List α} (h : Rd f w a c xs) {P : Program} {T : TypeId} (hT : P.underlying T = some (.slice (P.elem T))) (hs : ∀ w, (sizeOf (P.elem T)).run P w = .ok 1 w) {hi : Nat} (hk : hi ≤ xs.length) :
    ∃ a2 c2, (∀ w' : World, (Instr.sliceAt T (.slice a xs.length c) none (some (.int .i64 (hi : Int))) none).run P w' = .ok (.slice a2 hi c2) w') ∧ ∀ w', Rd f w' a c xs → Rd f w' a2 c2 (xs.take hi) := by
  have hcap := h.cap
  refine ⟨_, _, fun w' => ?_, fun w' hr => by have := (hr.take hi).cut (k := 0) (by simp); simpa using this⟩
  rw [run_sliceAt_slice (h := hT), run_slice_h (ht := hT) (h0 := by omega) (h2 := by omega), hs]
  simp [Result.andThen, sliced]

/-- A variable of the library's own holds some number. -/
def MLen (w : World) : Prop := ∃ v, w.cell? ⟨0, 0, none⟩ = some (.int .i64 v)
theorem MLen.lt {w : World} (h : MLen w) : 0 < w.heap.size := by
  obtain ⟨v, hv⟩ := h
  exact World.block_lt_of_cell? w _ hv
theorem MLen.below {w w' : World} (h : MLen w) {B : Nat} (hb : Below B w w') (hB : w.heap.size ≤ B) : MLen w' := by
  obtain ⟨v, hv⟩ := h
  exact ⟨v, k_below hb hB hv⟩

theorem split_any {s : ByteArray} (m : UInt8) {w : World} (hM : MLen w) (hs : s.size ≤ 1048576) :
    Calls Tryd.prog 44 #[.string s, .string ⟨#[m]⟩] w fun e w' => ∃ a c, e = .returned (.slice a (parts s m).length c) ∧ Own Value.string 9 w' w.heap.size a c (parts s m) ∧ Below w.heap.size w w' := by
  obtain ⟨v, hv⟩ := hM
  have h := Tryd.strings_Split s ⟨#[m]⟩ v w (by omega) hv (Nat.le_refl _)
  have hl := parts_len s m
  rw [parts_split, parts_count] at h
  refine h.mono ?_
  rintro e w' ⟨rfl, rfl⟩
  exact ⟨_, _, rfl, own_lit w w.heap.size (parts s m) (Nat.le_refl _) (by unfold maxLen; omega), (Below.refl _ _).alloc (Nat.le_refl _) _⟩

/-- The lines, and what is behind them. -/
def linesL (s : ByteArray) : List ByteArray := (parts s 10).take ((parts s 10).length - 1)
def restT (s : ByteArray) : ByteArray := (parts s 10)[(parts s 10).length - 1]?.getD ⟨#[]⟩
def linB (s : ByteArray) : Bool := decide (s.size ≤ 16000) && (restT s).toList.isEmpty

set_option maxHeartbeats 1000000 in
theorem l08Lines_any {s : ByteArray} {w : World} (hs : s.size ≤ 1048576) :
    Calls Tryd.prog 46 #[.string s] w fun e w' => ∃ a c, e = .returned (.tuple #[.slice a (linesL s).length c, .string (restT s)]) ∧ Rd Value.string w' a c (linesL s) ∧ Below w.heap.size w w' := by
  have hpl := parts_len s 10
  have hsp := l01Cut_any (s := s) (m := 10) (mi := 10) (w := w) hs rfl
  have hll : Hid (linesL s = (parts s 10).take ((parts s 10).length - 1)) := Lib.hid rfl
  have hrr : Hid (restT s = (parts s 10)[(parts s 10).length - 1]?.getD ⟨#[]⟩) := Lib.hid rfl
  generalize restT s = R at hrr ⊢
  generalize linesL s = L at hll ⊢
  generalize parts s 10 = P at hpl hsp hll hrr
  obtain ⟨n, hn⟩ : ∃ n, P.length = n + 1 := ⟨P.length - 1, by omega⟩
  rw [hn, Nat.add_sub_cancel] at hll hrr
  rw [hn] at hsp
  have HSP := Lib.hid hsp
  clear hsp
  have hLn : L.length = n := by rw [hll.out, List.length_take]; omega
  rw [hLn]
  have ew : IntKind.i64.wrap ((n : Int) + 1 - 1) = (n : Int) := by rw [Int.add_sub_cancel]; exact IntWalk.i64_in _ (by omega)
  have ew2 : IntKind.i64.wrap ((n : Int)) = (n : Int) := IntWalk.i64_in _ (by omega)
  go_enter Tryd.func46, Tryd.ntmps46
  go_wp2_with fail
  refine HSP.out.mono ?_
  rintro e w1 ⟨a, c, rfl, ho, hb1⟩
  have hr := ho.rd
  obtain ⟨a2, c2, hsl, hrd⟩ := headRunC hr und_ss siz_ss (hi := n) (by omega)
  have hix := hr.idx und_ss siz_ss
  have hcx := hr.cell n (by omega)
  have hcx2 : P[n]?.getD default = R := by rw [hrr.out]; rw [List.getElem?_eq_getElem (by omega)]; rfl
  rw [hcx2] at hcx
  rw [hn] at hsl hix
  have HL : Hid (∀ w', Rd Value.string w' a c P → Rd Value.string w' a2 c2 L) := Lib.hid (fun w' h => by rw [hll.out]; exact hrd w' h)
  have HR := Lib.hid hr
  have HB := Lib.hid hb1
  have hnl : n < n + 1 := Nat.lt_succ_self n
  clear hr ho hrd hb1 hcx2 hn hpl HSP
  go_wp2_with fail
  go_quiet (fail)
  go_wp2
  go_ret2
  exact ⟨a2, c2, rfl, HL.out _ (HR.out.below (below_of_drewN w1 nq _) (Nat.le_refl _)), HB.out.trans ((below_of_drewN w1 nq _).mono HB.out.size)⟩

end Go.Proofs.YtmmpemfhbnkomaaDoor
