/- A new desk in the reference's text. UNDER WAY. -/
import Derived.Test.YtofbnddmahjanaaNewS
import Derived.Test.YtofbnddmahjanaaMkDesk
import Derived.Deep.Cut
namespace Go.Proofs.Ytofbnddmahjanaa
open Go.RowKit

theorem Own.setOff {α : Type} {f : α → Value} {e : TypeId} {w : World} {base : Nat} {a : Option Addr} {c : Nat} {xs : List α} (h : Own f e w base a c xs) (p : Addr) (u : Value) (hp : ∀ q, a = some q → q.block ≠ p.block) : Own f e (w.setCell p u) base a c xs :=
  h.kept (grown_setCell w p u) (by
    intro g hg q hq
    simp at hg
    subst hg
    exact hp q hq)

theorem own_lit {α : Type} {f : α → Value} {e : TypeId} (w : World) (base : Nat) (xs : List α) (hb : base ≤ w.heap.size) (hm : xs.length ≤ maxLen) :
    Own f e (w.alloc (.cells (xs.map f).toArray e)) base (some ⟨w.heap.size, 0, none⟩) xs.length xs := by
  refine ⟨by simp, .inr ⟨w.heap.size, xs.length, (xs.map f).toArray, rfl, hb, heap_alloc_new w _, Nat.le_refl _, hm, by simp, by simp; exact List.take_of_length_le (by simp)⟩⟩

set_option maxRecDepth 8000 in
set_option maxHeartbeats 4000000 in
theorem specNewDesk_any {w : World} :
    Calls Try.prog 29 #[] w fun e w' => ∃ b z t s k, e = .returned (.agg #[.int .i64 2, .int .i64 7, .slice (some ⟨b, 0, none⟩) 32 32, .int .i64 7, .slice (some ⟨z, 0, none⟩) 16 16, .int .i64 10, .int .i64 1, .slice (some ⟨t, 0, none⟩) 0 0, .slice (some ⟨s, 0, none⟩) 0 0, .slice (some ⟨k, 0, none⟩) 3 3]) ∧ Own (Value.bool) 4 w' w.heap.size (some ⟨b, 0, none⟩) 32 (List.replicate 32 false) ∧ Own (Value.int .i64) 2 w' w.heap.size (some ⟨z, 0, none⟩) 16 (List.replicate 16 0) ∧ Own (Value.int .i64) 2 w' w.heap.size (some ⟨t, 0, none⟩) 0 ([] : List Int) ∧ Own (Value.int .i64) 2 w' w.heap.size (some ⟨s, 0, none⟩) 0 ([] : List Int) ∧ Own (Value.int .i64) 2 w' w.heap.size (some ⟨k, 0, none⟩) 3 [1, 2, 3] ∧ Below w.heap.size w w' := by
  go_enter Try.func29, Try.ntmps29
  have hz : (w.alloc (.cells #[.int .i64 0, .int .i64 0, .slice none 0 0, .int .i64 0, .slice none 0 0, .int .i64 0, .int .i64 0, .slice none 0 0, .slice none 0 0, .slice none 0 0] 55)).heap.size = w.heap.size + 1 := by simp
  go_upto_region 2 with (at_make; refine wpl_make (f := Value.bool) (d := false) und_bse info_b rfl 32 rfl _ _ rfl rfl rfl (by omega) (by omega) ?_; intro w1 ho0 hb0; rw [hz] at ho0; have I1 := Lib.hid (And.intro ((Blk.new w #[.int .i64 0, .int .i64 0, .slice none 0 0, .int .i64 0, .slice none 0 0, .int .i64 0, .int .i64 0, .slice none 0 0, .slice none 0 0, .slice none 0 0] 55).below hb0 (by simp)) (And.intro ho0 (((Below.refl w.heap.size w).alloc (Nat.le_refl _) _).trans (hb0.mono (by simp))))); clear ho0 hb0 hz)
  have l1' : w.heap.size + 1 < w1.heap.size := (by have := (I1.out.2.1.blk _ rfl).2; simpa using this)
  have l1 : w.heap.size < w1.heap.size := (by omega)
  have I2 := Lib.hid (And.intro (I1.out.1.alloc (.cells #[.int .i64 2, .int .i64 7, .slice (some ⟨w.heap.size + 1, 0, none⟩) 32 32, .int .i64 0, .slice none 0 0, .int .i64 0, .int .i64 0, .slice none 0 0, .slice none 0 0, .slice none 0 0] 55)) (And.intro (Blk.new w1 #[.int .i64 2, .int .i64 7, .slice (some ⟨w.heap.size + 1, 0, none⟩) 32 32, .int .i64 0, .slice none 0 0, .int .i64 0, .int .i64 0, .slice none 0 0, .slice none 0 0, .slice none 0 0] 55) (And.intro (I1.out.2.1.alloc (.cells #[.int .i64 2, .int .i64 7, .slice (some ⟨w.heap.size + 1, 0, none⟩) 32 32, .int .i64 0, .slice none 0 0, .int .i64 0, .int .i64 0, .slice none 0 0, .slice none 0 0, .slice none 0 0] 55)) (I1.out.2.2.alloc (by omega) (.cells #[.int .i64 2, .int .i64 7, .slice (some ⟨w.heap.size + 1, 0, none⟩) 32 32, .int .i64 0, .slice none 0 0, .int .i64 0, .int .i64 0, .slice none 0 0, .slice none 0 0, .slice none 0 0] 55)))))
  have l2 : w1.heap.size < (w1.alloc (.cells #[.int .i64 2, .int .i64 7, .slice (some ⟨w.heap.size + 1, 0, none⟩) 32 32, .int .i64 0, .slice none 0 0, .int .i64 0, .int .i64 0, .slice none 0 0, .slice none 0 0, .slice none 0 0] 55)).heap.size := by simp
  generalize w1.alloc (.cells #[.int .i64 2, .int .i64 7, .slice (some ⟨w.heap.size + 1, 0, none⟩) 32 32, .int .i64 0, .slice none 0 0, .int .i64 0, .int .i64 0, .slice none 0 0, .slice none 0 0, .slice none 0 0] 55) = w2 at I2 l2 ⊢
  clear I1
  have I3 : True := trivial
  go_upto_region 3 with (at_make; refine wpl_make (f := Value.int .i64) (d := (0 : Int)) und_ise info_i rfl 16 rfl _ _ rfl rfl rfl (by omega) (by omega) ?_; intro w3 ho1 hb1; replace I3 := Lib.hid (And.intro (I2.out.1.below hb1 (Nat.le_refl _)) (And.intro (I2.out.2.1.below hb1 (Nat.le_refl _)) (And.intro (I2.out.2.2.1.below hb1 (Nat.le_refl _)) (And.intro ho1 (I2.out.2.2.2.trans (hb1.mono (by omega))))))); have l3 := (ho1.blk _ rfl).2; have j3 := I3.out.2.1.cell (i := 3) (v := .int .i64 0) rfl; have j4 := I3.out.2.1.cell (i := 4) (v := .slice none 0 0) rfl; have f3 := I3.out.2.1.free 3; have f4 := I3.out.2.1.free 4; clear ho1 hb1)
  have R4 : Hid (Blk ((w3.setCell ⟨w1.heap.size, 3, none⟩ (.int .i64 7)).setCell ⟨w1.heap.size, 4, none⟩ (.slice (some ⟨w2.heap.size, 0, none⟩) 16 16)) w.heap.size #[.int .i64 0, .int .i64 0, .slice none 0 0, .int .i64 0, .slice none 0 0, .int .i64 0, .int .i64 0, .slice none 0 0, .slice none 0 0, .slice none 0 0] 55) := Lib.hid ((I3.out.1.far (by simp; omega) _).far (by simp; omega) _)
  have X4 : Hid (Blk ((w3.setCell ⟨w1.heap.size, 3, none⟩ (.int .i64 7)).setCell ⟨w1.heap.size, 4, none⟩ (.slice (some ⟨w2.heap.size, 0, none⟩) 16 16)) w1.heap.size #[.int .i64 2, .int .i64 7, .slice (some ⟨w.heap.size + 1, 0, none⟩) 32 32, .int .i64 7, .slice (some ⟨w2.heap.size, 0, none⟩) 16 16, .int .i64 0, .int .i64 0, .slice none 0 0, .slice none 0 0, .slice none 0 0] 55) := Lib.hid ((I3.out.2.1.set 3 _).set 4 _)
  have O4 := Lib.hid ((I3.out.2.2.1.setOff ⟨w1.heap.size, 3, none⟩ (.int .i64 7) (by simp; omega)).setOff ⟨w1.heap.size, 4, none⟩ (.slice (some ⟨w2.heap.size, 0, none⟩) 16 16) (by simp; omega))
  have P4 := Lib.hid ((I3.out.2.2.2.1.setOff ⟨w1.heap.size, 3, none⟩ (.int .i64 7) (by simp; omega)).setOff ⟨w1.heap.size, 4, none⟩ (.slice (some ⟨w2.heap.size, 0, none⟩) 16 16) (by simp; omega))
  have B4 := Lib.hid ((I3.out.2.2.2.2.setCell (p := ⟨w1.heap.size, 3, none⟩) (by simp; omega) (.int .i64 7)).setCell (p := ⟨w1.heap.size, 4, none⟩) (by simp; omega) (.slice (some ⟨w2.heap.size, 0, none⟩) 16 16))
  have l4 : w2.heap.size < ((w3.setCell ⟨w1.heap.size, 3, none⟩ (.int .i64 7)).setCell ⟨w1.heap.size, 4, none⟩ (.slice (some ⟨w2.heap.size, 0, none⟩) 16 16)).heap.size := by simpa using l3
  generalize (w3.setCell ⟨w1.heap.size, 3, none⟩ (.int .i64 7)).setCell ⟨w1.heap.size, 4, none⟩ (.slice (some ⟨w2.heap.size, 0, none⟩) 16 16) = w4 at R4 X4 O4 P4 B4 l4 ⊢
  clear I3 I2 j3 j4 f3 f4 l3
  have X5 := Lib.hid ((X4.out.alloc (.cells #[] 2)).alloc (.cells #[] 2))
  have R5 := Lib.hid ((R4.out.alloc (.cells #[] 2)).alloc (.cells #[] 2))
  have O5 := Lib.hid ((O4.out.alloc (.cells #[] 2)).alloc (.cells #[] 2))
  have P5 := Lib.hid ((P4.out.alloc (.cells #[] 2)).alloc (.cells #[] 2))
  have T5 := Lib.hid ((own_empty (f := Value.int .i64) (e := 2) (α := Int) w4 (by_ := 0) w4.heap.size (Nat.le_refl _) rfl).alloc (.cells #[] 2))
  have hz4 : (w4.alloc (.cells #[] 2)).heap.size = w4.heap.size + 1 := by simp
  have S5 := own_empty (f := Value.int .i64) (e := 2) (α := Int) (w4.alloc (.cells #[] 2)) (by_ := 0) (w4.heap.size + 1) (by simp) rfl
  rw [hz4] at S5
  replace S5 := Lib.hid S5
  have B5 := Lib.hid ((B4.out.alloc B4.out.size (.cells #[] 2)).alloc (by have := B4.out.size; simp; omega) (.cells #[] 2))
  have l5 : w4.heap.size + 1 < ((w4.alloc (.cells #[] 2)).alloc (.cells #[] 2)).heap.size := by simp
  have j5 := X5.out.cell (i := 5) (v := .int .i64 0) rfl
  have j6 := X5.out.cell (i := 6) (v := .int .i64 0) rfl
  have j7 := X5.out.cell (i := 7) (v := .slice none 0 0) rfl
  have j8 := X5.out.cell (i := 8) (v := .slice none 0 0) rfl
  have f5 := X5.out.free 5
  have f6 := X5.out.free 6
  have f7 := X5.out.free 7
  have f8 := X5.out.free 8
  clear X4 R4 O4 P4 B4 hz4
  go_upto_region 4 with (fail)
  generalize ((w4.alloc (.cells #[] 2)).alloc (.cells #[] 2)) = w5 at X5 R5 O5 P5 T5 S5 B5 l5 ⊢
  clear j5 j6 j7 j8 f5 f6 f7 f8
  have R6 : Hid (Blk ((((w5.setCell ⟨w1.heap.size, 5, none⟩ (.int .i64 10)).setCell ⟨w1.heap.size, 6, none⟩ (.int .i64 1)).setCell ⟨w1.heap.size, 7, none⟩ (.slice (some ⟨w4.heap.size, 0, none⟩) 0 0)).setCell ⟨w1.heap.size, 8, none⟩ (.slice (some ⟨w4.heap.size + 1, 0, none⟩) 0 0)) w.heap.size #[.int .i64 0, .int .i64 0, .slice none 0 0, .int .i64 0, .slice none 0 0, .int .i64 0, .int .i64 0, .slice none 0 0, .slice none 0 0, .slice none 0 0] 55) := Lib.hid ((((R5.out.far (by simp; omega) _).far (by simp; omega) _).far (by simp; omega) _).far (by simp; omega) _)
  have X6 : Hid (Blk ((((w5.setCell ⟨w1.heap.size, 5, none⟩ (.int .i64 10)).setCell ⟨w1.heap.size, 6, none⟩ (.int .i64 1)).setCell ⟨w1.heap.size, 7, none⟩ (.slice (some ⟨w4.heap.size, 0, none⟩) 0 0)).setCell ⟨w1.heap.size, 8, none⟩ (.slice (some ⟨w4.heap.size + 1, 0, none⟩) 0 0)) w1.heap.size #[.int .i64 2, .int .i64 7, .slice (some ⟨w.heap.size + 1, 0, none⟩) 32 32, .int .i64 7, .slice (some ⟨w2.heap.size, 0, none⟩) 16 16, .int .i64 10, .int .i64 1, .slice (some ⟨w4.heap.size, 0, none⟩) 0 0, .slice (some ⟨w4.heap.size + 1, 0, none⟩) 0 0, .slice none 0 0] 55) := Lib.hid ((((X5.out.set 5 _).set 6 _).set 7 _).set 8 _)
  have O6 : Hid (Own (Value.bool) 4 ((((w5.setCell ⟨w1.heap.size, 5, none⟩ (.int .i64 10)).setCell ⟨w1.heap.size, 6, none⟩ (.int .i64 1)).setCell ⟨w1.heap.size, 7, none⟩ (.slice (some ⟨w4.heap.size, 0, none⟩) 0 0)).setCell ⟨w1.heap.size, 8, none⟩ (.slice (some ⟨w4.heap.size + 1, 0, none⟩) 0 0)) (w.heap.size + 1) (some ⟨w.heap.size + 1, 0, none⟩) 32 (List.replicate 32 false)) := Lib.hid ((((O5.out.setOff _ _ (by simp; omega)).setOff _ _ (by simp; omega)).setOff _ _ (by simp; omega)).setOff _ _ (by simp; omega))
  have P6 : Hid (Own (Value.int .i64) 2 ((((w5.setCell ⟨w1.heap.size, 5, none⟩ (.int .i64 10)).setCell ⟨w1.heap.size, 6, none⟩ (.int .i64 1)).setCell ⟨w1.heap.size, 7, none⟩ (.slice (some ⟨w4.heap.size, 0, none⟩) 0 0)).setCell ⟨w1.heap.size, 8, none⟩ (.slice (some ⟨w4.heap.size + 1, 0, none⟩) 0 0)) w2.heap.size (some ⟨w2.heap.size, 0, none⟩) 16 (List.replicate 16 (0 : Int))) := Lib.hid ((((P5.out.setOff _ _ (by simp; omega)).setOff _ _ (by simp; omega)).setOff _ _ (by simp; omega)).setOff _ _ (by simp; omega))
  have T6 : Hid (Own (Value.int .i64) 2 ((((w5.setCell ⟨w1.heap.size, 5, none⟩ (.int .i64 10)).setCell ⟨w1.heap.size, 6, none⟩ (.int .i64 1)).setCell ⟨w1.heap.size, 7, none⟩ (.slice (some ⟨w4.heap.size, 0, none⟩) 0 0)).setCell ⟨w1.heap.size, 8, none⟩ (.slice (some ⟨w4.heap.size + 1, 0, none⟩) 0 0)) w4.heap.size (some ⟨w4.heap.size, 0, none⟩) 0 ([] : List Int)) := Lib.hid ((((T5.out.setOff _ _ (by simp; omega)).setOff _ _ (by simp; omega)).setOff _ _ (by simp; omega)).setOff _ _ (by simp; omega))
  have S6 : Hid (Own (Value.int .i64) 2 ((((w5.setCell ⟨w1.heap.size, 5, none⟩ (.int .i64 10)).setCell ⟨w1.heap.size, 6, none⟩ (.int .i64 1)).setCell ⟨w1.heap.size, 7, none⟩ (.slice (some ⟨w4.heap.size, 0, none⟩) 0 0)).setCell ⟨w1.heap.size, 8, none⟩ (.slice (some ⟨w4.heap.size + 1, 0, none⟩) 0 0)) (w4.heap.size + 1) (some ⟨w4.heap.size + 1, 0, none⟩) 0 ([] : List Int)) := Lib.hid ((((S5.out.setOff _ _ (by simp; omega)).setOff _ _ (by simp; omega)).setOff _ _ (by simp; omega)).setOff _ _ (by simp; omega))
  have B6 : Hid (Below w.heap.size w ((((w5.setCell ⟨w1.heap.size, 5, none⟩ (.int .i64 10)).setCell ⟨w1.heap.size, 6, none⟩ (.int .i64 1)).setCell ⟨w1.heap.size, 7, none⟩ (.slice (some ⟨w4.heap.size, 0, none⟩) 0 0)).setCell ⟨w1.heap.size, 8, none⟩ (.slice (some ⟨w4.heap.size + 1, 0, none⟩) 0 0))) := Lib.hid ((((B5.out.setCell (by simp; omega) _).setCell (by simp; omega) _).setCell (by simp; omega) _).setCell (by simp; omega) _)
  have l6 : w4.heap.size + 1 < ((((w5.setCell ⟨w1.heap.size, 5, none⟩ (.int .i64 10)).setCell ⟨w1.heap.size, 6, none⟩ (.int .i64 1)).setCell ⟨w1.heap.size, 7, none⟩ (.slice (some ⟨w4.heap.size, 0, none⟩) 0 0)).setCell ⟨w1.heap.size, 8, none⟩ (.slice (some ⟨w4.heap.size + 1, 0, none⟩) 0 0)).heap.size := by simpa using l5
  generalize ((((w5.setCell ⟨w1.heap.size, 5, none⟩ (.int .i64 10)).setCell ⟨w1.heap.size, 6, none⟩ (.int .i64 1)).setCell ⟨w1.heap.size, 7, none⟩ (.slice (some ⟨w4.heap.size, 0, none⟩) 0 0)).setCell ⟨w1.heap.size, 8, none⟩ (.slice (some ⟨w4.heap.size + 1, 0, none⟩) 0 0)) = w6 at R6 X6 O6 P6 T6 S6 B6 l6 ⊢
  clear X5 R5 O5 P5 T5 S5 B5 l5
  have own3 := own_lit (f := Value.int .i64) (e := 2) w6 w6.heap.size [1, 2, 3] (Nat.le_refl _) (by unfold maxLen; simp)
  have K7 : Hid (Own (Value.int .i64) 2 (w6.alloc (.cells #[.int .i64 1, .int .i64 2, .int .i64 3] 2)) w6.heap.size (some ⟨w6.heap.size, 0, none⟩) 3 [1, 2, 3]) := Lib.hid own3
  clear own3
  have X7 := Lib.hid (X6.out.alloc (.cells #[.int .i64 1, .int .i64 2, .int .i64 3] 2))
  have R7 := Lib.hid (R6.out.alloc (.cells #[.int .i64 1, .int .i64 2, .int .i64 3] 2))
  have j9 := X7.out.cell (i := 9) (v := .slice none 0 0) rfl
  have f9 := X7.out.free 9
  go_upto_region 5 with (fail)
  have R8 : Hid (Blk ((w6.alloc (.cells #[.int .i64 1, .int .i64 2, .int .i64 3] 2)).setCell ⟨w1.heap.size, 9, none⟩ (.slice (some ⟨w6.heap.size, 0, none⟩) 3 3)) w.heap.size #[.int .i64 0, .int .i64 0, .slice none 0 0, .int .i64 0, .slice none 0 0, .int .i64 0, .int .i64 0, .slice none 0 0, .slice none 0 0, .slice none 0 0] 55) := Lib.hid (R7.out.far (by simp; omega) _)
  have X8 : Hid (Blk ((w6.alloc (.cells #[.int .i64 1, .int .i64 2, .int .i64 3] 2)).setCell ⟨w1.heap.size, 9, none⟩ (.slice (some ⟨w6.heap.size, 0, none⟩) 3 3)) w1.heap.size #[.int .i64 2, .int .i64 7, .slice (some ⟨w.heap.size + 1, 0, none⟩) 32 32, .int .i64 7, .slice (some ⟨w2.heap.size, 0, none⟩) 16 16, .int .i64 10, .int .i64 1, .slice (some ⟨w4.heap.size, 0, none⟩) 0 0, .slice (some ⟨w4.heap.size + 1, 0, none⟩) 0 0, .slice (some ⟨w6.heap.size, 0, none⟩) 3 3] 55) := Lib.hid (X7.out.set 9 _)
  have O8 : Hid (Own (Value.bool) 4 ((w6.alloc (.cells #[.int .i64 1, .int .i64 2, .int .i64 3] 2)).setCell ⟨w1.heap.size, 9, none⟩ (.slice (some ⟨w6.heap.size, 0, none⟩) 3 3)) (w.heap.size + 1) (some ⟨w.heap.size + 1, 0, none⟩) 32 (List.replicate 32 false)) := Lib.hid ((O6.out.alloc _).setOff _ _ (by simp; omega))
  have P8 : Hid (Own (Value.int .i64) 2 ((w6.alloc (.cells #[.int .i64 1, .int .i64 2, .int .i64 3] 2)).setCell ⟨w1.heap.size, 9, none⟩ (.slice (some ⟨w6.heap.size, 0, none⟩) 3 3)) w2.heap.size (some ⟨w2.heap.size, 0, none⟩) 16 (List.replicate 16 (0 : Int))) := Lib.hid ((P6.out.alloc _).setOff _ _ (by simp; omega))
  have T8 : Hid (Own (Value.int .i64) 2 ((w6.alloc (.cells #[.int .i64 1, .int .i64 2, .int .i64 3] 2)).setCell ⟨w1.heap.size, 9, none⟩ (.slice (some ⟨w6.heap.size, 0, none⟩) 3 3)) w4.heap.size (some ⟨w4.heap.size, 0, none⟩) 0 ([] : List Int)) := Lib.hid ((T6.out.alloc _).setOff _ _ (by simp; omega))
  have S8 : Hid (Own (Value.int .i64) 2 ((w6.alloc (.cells #[.int .i64 1, .int .i64 2, .int .i64 3] 2)).setCell ⟨w1.heap.size, 9, none⟩ (.slice (some ⟨w6.heap.size, 0, none⟩) 3 3)) (w4.heap.size + 1) (some ⟨w4.heap.size + 1, 0, none⟩) 0 ([] : List Int)) := Lib.hid ((S6.out.alloc _).setOff _ _ (by simp; omega))
  have K8 : Hid (Own (Value.int .i64) 2 ((w6.alloc (.cells #[.int .i64 1, .int .i64 2, .int .i64 3] 2)).setCell ⟨w1.heap.size, 9, none⟩ (.slice (some ⟨w6.heap.size, 0, none⟩) 3 3)) w6.heap.size (some ⟨w6.heap.size, 0, none⟩) 3 [1, 2, 3]) := Lib.hid (K7.out.setOff _ _ (by simp; omega))
  have B8 : Hid (Below w.heap.size w ((w6.alloc (.cells #[.int .i64 1, .int .i64 2, .int .i64 3] 2)).setCell ⟨w1.heap.size, 9, none⟩ (.slice (some ⟨w6.heap.size, 0, none⟩) 3 3))) := Lib.hid ((B6.out.alloc B6.out.size _).setCell (by simp; omega) _)
  generalize ((w6.alloc (.cells #[.int .i64 1, .int .i64 2, .int .i64 3] 2)).setCell ⟨w1.heap.size, 9, none⟩ (.slice (some ⟨w6.heap.size, 0, none⟩) 3 3)) = w8 at R8 X8 O8 P8 T8 S8 K8 B8 ⊢
  clear R7 X7 K7 R6 X6 O6 P6 T6 S6 B6 j9 f9
  have r0 := R8.out.cell (i := 0) (v := .int .i64 0) rfl
  have q0 := R8.out.free 0
  have x0 := X8.out.cell (i := 0) (v := .int .i64 2) rfl
  have r1 := R8.out.cell (i := 1) (v := .int .i64 0) rfl
  have q1 := R8.out.free 1
  have x1 := X8.out.cell (i := 1) (v := .int .i64 7) rfl
  have r2 := R8.out.cell (i := 2) (v := .slice none 0 0) rfl
  have q2 := R8.out.free 2
  have x2 := X8.out.cell (i := 2) (v := .slice (some ⟨w.heap.size + 1, 0, none⟩) 32 32) rfl
  have r3 := R8.out.cell (i := 3) (v := .int .i64 0) rfl
  have q3 := R8.out.free 3
  have x3 := X8.out.cell (i := 3) (v := .int .i64 7) rfl
  have r4 := R8.out.cell (i := 4) (v := .slice none 0 0) rfl
  have q4 := R8.out.free 4
  have x4 := X8.out.cell (i := 4) (v := .slice (some ⟨w2.heap.size, 0, none⟩) 16 16) rfl
  have r5 := R8.out.cell (i := 5) (v := .int .i64 0) rfl
  have q5 := R8.out.free 5
  have x5 := X8.out.cell (i := 5) (v := .int .i64 10) rfl
  have r6 := R8.out.cell (i := 6) (v := .int .i64 0) rfl
  have q6 := R8.out.free 6
  have x6 := X8.out.cell (i := 6) (v := .int .i64 1) rfl
  have r7 := R8.out.cell (i := 7) (v := .slice none 0 0) rfl
  have q7 := R8.out.free 7
  have x7 := X8.out.cell (i := 7) (v := .slice (some ⟨w4.heap.size, 0, none⟩) 0 0) rfl
  have r8 := R8.out.cell (i := 8) (v := .slice none 0 0) rfl
  have q8 := R8.out.free 8
  have x8 := X8.out.cell (i := 8) (v := .slice (some ⟨w4.heap.size + 1, 0, none⟩) 0 0) rfl
  have r9 := R8.out.cell (i := 9) (v := .slice none 0 0) rfl
  have q9 := R8.out.free 9
  have x9 := X8.out.cell (i := 9) (v := .slice (some ⟨w6.heap.size, 0, none⟩) 3 3) rfl
  clear R8 X8
  go_wp2
  refine bodyPost_ret (v := .agg #[.int .i64 2, .int .i64 7, .slice (some ⟨w.heap.size + 1, 0, none⟩) 32 32, .int .i64 7, .slice (some ⟨w2.heap.size, 0, none⟩) 16 16, .int .i64 10, .int .i64 1, .slice (some ⟨w4.heap.size, 0, none⟩) 0 0, .slice (some ⟨w4.heap.size + 1, 0, none⟩) 0 0, .slice (some ⟨w6.heap.size, 0, none⟩) 3 3]) (by simp [results, Try.results29, go_sem, r0, r1, r2, r3, r4, r5, r6, r7, r8, r9]) rfl ⟨_, _, _, _, _, rfl, ((((((((((O8.out.setOff _ _ (by simp <;> omega)).setOff _ _ (by simp <;> omega)).setOff _ _ (by simp <;> omega)).setOff _ _ (by simp <;> omega)).setOff _ _ (by simp <;> omega)).setOff _ _ (by simp <;> omega)).setOff _ _ (by simp <;> omega)).setOff _ _ (by simp <;> omega)).setOff _ _ (by simp <;> omega)).setOff _ _ (by simp <;> omega)).mono (by omega), ((((((((((P8.out.setOff _ _ (by simp <;> omega)).setOff _ _ (by simp <;> omega)).setOff _ _ (by simp <;> omega)).setOff _ _ (by simp <;> omega)).setOff _ _ (by simp <;> omega)).setOff _ _ (by simp <;> omega)).setOff _ _ (by simp <;> omega)).setOff _ _ (by simp <;> omega)).setOff _ _ (by simp <;> omega)).setOff _ _ (by simp <;> omega)).mono (by omega), ((((((((((T8.out.setOff _ _ (by simp <;> omega)).setOff _ _ (by simp <;> omega)).setOff _ _ (by simp <;> omega)).setOff _ _ (by simp <;> omega)).setOff _ _ (by simp <;> omega)).setOff _ _ (by simp <;> omega)).setOff _ _ (by simp <;> omega)).setOff _ _ (by simp <;> omega)).setOff _ _ (by simp <;> omega)).setOff _ _ (by simp <;> omega)).mono (by omega), ((((((((((S8.out.setOff _ _ (by simp <;> omega)).setOff _ _ (by simp <;> omega)).setOff _ _ (by simp <;> omega)).setOff _ _ (by simp <;> omega)).setOff _ _ (by simp <;> omega)).setOff _ _ (by simp <;> omega)).setOff _ _ (by simp <;> omega)).setOff _ _ (by simp <;> omega)).setOff _ _ (by simp <;> omega)).setOff _ _ (by simp <;> omega)).mono (by omega), ((((((((((K8.out.setOff _ _ (by simp <;> omega)).setOff _ _ (by simp <;> omega)).setOff _ _ (by simp <;> omega)).setOff _ _ (by simp <;> omega)).setOff _ _ (by simp <;> omega)).setOff _ _ (by simp <;> omega)).setOff _ _ (by simp <;> omega)).setOff _ _ (by simp <;> omega)).setOff _ _ (by simp <;> omega)).setOff _ _ (by simp <;> omega)).mono (by omega), ((((((((((B8.out.setCell (by simp) _).setCell (by simp) _).setCell (by simp) _).setCell (by simp) _).setCell (by simp) _).setCell (by simp) _).setCell (by simp) _).setCell (by simp) _).setCell (by simp) _).setCell (by simp) _)⟩

end Go.Proofs.Ytofbnddmahjanaa
