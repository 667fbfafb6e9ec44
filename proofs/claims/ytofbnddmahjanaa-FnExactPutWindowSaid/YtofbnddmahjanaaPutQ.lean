/- PutWindow in the reference's text. -/
import Derived.Test.YtofbnddmahjanaaPutR
import Derived.Test.YtofbnddmahjanaaWinC
namespace Go.Proofs.Ytofbnddmahjanaa
open Go.RowKit
attribute [local go_sem ↓] Go.wp_at_zero Go.wp_at_succ

/-- What the times and sizes become. -/
def putP (L P : Int) (ts ss : List Int) (t : Int) (b : Bool) : Pr := putR P (put0 (ts.drop (keptI ts (t - L))) (ss.drop (keptI ts (t - L))) t b)
def putOk (L P : Int) (ts ss : List Int) (t : Int) (b : Bool) : Bool := lateB L P ts ss t && winB L P (putP L P ts ss t b).1 (putP L P ts ss t b).2
/-- A window in new memory, its two slices apart, and a bool. -/
def RetWinX (w : World) (L P : Int) (xs ys : List Int) (b : Bool) (en : Ending) (w' : World) : Prop :=
  ∃ a c a' c', en = .returned (.tuple #[winV L P a xs.length c a' ys.length c', .bool b]) ∧ Own (Value.int .i64) 2 w' w.heap.size a c xs ∧ Own (Value.int .i64) 2 w' w.heap.size a' c' ys ∧ Sep a a' ∧ Below w.heap.size w w'
/-- A window if ok, and whether. -/
def RetPut (w : World) (L P : Int) (Q : Pr) (ok : Bool) (en : Ending) (w' : World) : Prop :=
  RetWinX w (if ok then L else 0) (if ok then P else 0) (if ok then Q.1 else []) (if ok then Q.2 else []) ok en w'
theorem retPut_yes {w w' : World} {L P : Int} {QT QS : List Int} {en : Ending} (h : RetWinX w L P QT QS true en w') : RetPut w L P (QT, QS) true en w' := h
theorem retPut_no {w w' : World} {L P : Int} {Q : Pr} {en : Ending} (h : RetWinX w 0 0 [] [] false en w') : RetPut w L P Q false en w' := h
theorem retWinX_no {w w' : World} (hb : Below w.heap.size w w') : RetWinX w 0 0 [] [] false (.returned (.tuple #[winV 0 0 none 0 0 none 0 0, .bool false])) w' :=
  ⟨none, 0, none, 0, rfl, own_nil _ _ _ _, own_nil _ _ _ _, fun p q hp => by simp at hp, hb⟩

set_option maxRecDepth 8000 in
set_option maxHeartbeats 4000000 in
theorem specPut_no {ta sa : Option Addr} {tc sc : Nat} {ts ss : List Int} {L P t : Int} {bit : Bool} {w : World} (ht : Rd (Value.int .i64) w ta tc ts) (hs : Rd (Value.int .i64) w sa sc ss) (h : lateB L P ts ss t = false) :
    Calls Try.prog 38 #[winV L P ta ts.length tc sa ss.length sc, .int .i64 t, .bool bit] w (RetWinX w 0 0 [] [] false) := by
  have b1 : Below w.heap.size w ((w.alloc (.cells #[.int .i64 L, .int .i64 P, .slice ta ts.length tc, .slice sa ss.length sc] 53)).alloc (.cells #[.int .i64 0, .int .i64 0, .slice none 0 0, .slice none 0 0] 53)) := ((Below.refl _ _).alloc (Nat.le_refl _) _).alloc (by simp) _
  have X : Hid (Blk ((w.alloc (.cells #[.int .i64 L, .int .i64 P, .slice ta ts.length tc, .slice sa ss.length sc] 53)).alloc (.cells #[.int .i64 0, .int .i64 0, .slice none 0 0, .slice none 0 0] 53)) w.heap.size #[.int .i64 L, .int .i64 P, .slice ta ts.length tc, .slice sa ss.length sc] 53) := Lib.hid ((Blk.new _ _ _).alloc _)
  have R : Hid (Blk ((w.alloc (.cells #[.int .i64 L, .int .i64 P, .slice ta ts.length tc, .slice sa ss.length sc] 53)).alloc (.cells #[.int .i64 0, .int .i64 0, .slice none 0 0, .slice none 0 0] 53)) (w.heap.size + 1) #[.int .i64 0, .int .i64 0, .slice none 0 0, .slice none 0 0] 53) := Lib.hid (Blk.new' (by simp))
  have HB := Lib.hid b1
  have HT := Lib.hid (ht.below b1 (Nat.le_refl _))
  have HS := Lib.hid (hs.below b1 (Nat.le_refl _))
  clear b1 ht hs
  go_enter Try.func38, Try.ntmps38
  go_wp2_with fail
  generalize (w.alloc (.cells #[.int .i64 L, .int .i64 P, .slice ta ts.length tc, .slice sa ss.length sc] 53)).alloc (.cells #[.int .i64 0, .int .i64 0, .slice none 0 0, .slice none 0 0] 53) = wb at X R HB HT HS ⊢
  have hw : WinAt wb w.heap.size 0 L P ta ts.length tc sa ss.length sc := ⟨X.out.cell (i := 0) rfl, X.out.cell (i := 1) rfl, X.out.cell (i := 2) rfl, X.out.cell (i := 3) rfl, X.out.lt⟩
  refine (l06Late_any hw HT.out HS.out).mono ?_
  rintro e w1 ⟨rfl, n, rfl⟩
  rw [h]
  have R2 := R.out.drewN n
  have B2 := Lib.hid (HB.out.trans (below_of_drewN wb n _))
  clear hw h
  generalize wb.drewN n = wx at R2 B2 ⊢
  have r0 := R2.cell (i := 0) (v := .int .i64 0) rfl
  have r1 := R2.cell (i := 1) (v := .int .i64 0) rfl
  have r2 := R2.cell (i := 2) (v := .slice none 0 0) rfl
  have r3 := R2.cell (i := 3) (v := .slice none 0 0) rfl
  have f0 := R2.free 0
  have f1 := R2.free 1
  have f2 := R2.free 2
  have f3 := R2.free 3
  clear R2
  go_wp2
  refine bodyPost_ret (v := .tuple #[winV 0 0 none 0 0 none 0 0, .bool false]) (by simp [results, Try.results38, go_sem, r0, r1, r2, r3]) rfl (retWinX_no ((((B2.out.setCell (by simp) _).setCell (by simp) _).setCell (by simp) _).setCell (by simp) _))

set_option maxRecDepth 8000 in
set_option maxHeartbeats 4000000 in
theorem specPut_yes {ta sa : Option Addr} {tc sc : Nat} {ts ss : List Int} {L P t : Int} {bit : Bool} {w : World} (ht : Rd (Value.int .i64) w ta tc ts) (hs : Rd (Value.int .i64) w sa sc ss) (h : lateB L P ts ss t = true) (Q : Pr) (hQ : Hid (putP L P ts ss t bit = Q)) (ok : Bool) (hok : Hid (winB L P Q.1 Q.2 = ok)) :
    Calls Try.prog 38 #[winV L P ta ts.length tc sa ss.length sc, .int .i64 t, .bool bit] w (RetPut w L P Q ok) := by
  have b1 : Below w.heap.size w ((w.alloc (.cells #[.int .i64 L, .int .i64 P, .slice ta ts.length tc, .slice sa ss.length sc] 53)).alloc (.cells #[.int .i64 0, .int .i64 0, .slice none 0 0, .slice none 0 0] 53)) := ((Below.refl _ _).alloc (Nat.le_refl _) _).alloc (by simp) _
  have X : Hid (Blk ((w.alloc (.cells #[.int .i64 L, .int .i64 P, .slice ta ts.length tc, .slice sa ss.length sc] 53)).alloc (.cells #[.int .i64 0, .int .i64 0, .slice none 0 0, .slice none 0 0] 53)) w.heap.size #[.int .i64 L, .int .i64 P, .slice ta ts.length tc, .slice sa ss.length sc] 53) := Lib.hid ((Blk.new _ _ _).alloc _)
  have R : Hid (Blk ((w.alloc (.cells #[.int .i64 L, .int .i64 P, .slice ta ts.length tc, .slice sa ss.length sc] 53)).alloc (.cells #[.int .i64 0, .int .i64 0, .slice none 0 0, .slice none 0 0] 53)) (w.heap.size + 1) #[.int .i64 0, .int .i64 0, .slice none 0 0, .slice none 0 0] 53) := Lib.hid (Blk.new' (by simp))
  have lz : w.heap.size + 1 < ((w.alloc (.cells #[.int .i64 L, .int .i64 P, .slice ta ts.length tc, .slice sa ss.length sc] 53)).alloc (.cells #[.int .i64 0, .int .i64 0, .slice none 0 0, .slice none 0 0] 53)).heap.size := by simp
  have HB := Lib.hid b1
  have HT := Lib.hid (ht.below b1 (Nat.le_refl _))
  have HS := Lib.hid (hs.below b1 (Nat.le_refl _))
  clear b1 ht hs
  go_enter Try.func38, Try.ntmps38
  go_wp2_with fail
  generalize (w.alloc (.cells #[.int .i64 L, .int .i64 P, .slice ta ts.length tc, .slice sa ss.length sc] 53)).alloc (.cells #[.int .i64 0, .int .i64 0, .slice none 0 0, .slice none 0 0] 53) = wb at X R lz HB HT HS ⊢
  have HW : Hid (WinAt wb w.heap.size 0 L P ta ts.length tc sa ss.length sc) := Lib.hid ⟨X.out.cell (i := 0) rfl, X.out.cell (i := 1) rfl, X.out.cell (i := 2) rfl, X.out.cell (i := 3) rfl, X.out.lt⟩
  refine (l06Late_any HW.out HT.out HS.out).mono ?_
  rintro e w1 ⟨rfl, n, rfl⟩
  rw [h]
  have bd : Below wb.heap.size wb (wb.drewN n) := below_of_drewN _ _ _
  have R2 := Lib.hid (R.out.below bd (Nat.le_refl _))
  have B2 := Lib.hid (HB.out.trans (bd.mono HB.out.size))
  have HW2 := Lib.hid (HW.out.below bd (Nat.le_refl _))
  have HT2 := Lib.hid (HT.out.below bd (Nat.le_refl _))
  have HS2 := Lib.hid (HS.out.below bd (Nat.le_refl _))
  have hz : wb.heap.size ≤ (wb.drewN n).heap.size := bd.size
  have HL := Lib.hid h
  clear bd h X R HB HW HT HS
  generalize wb.drewN n = wx at R2 B2 HW2 HT2 HS2 hz ⊢
  go_wp2_with fail
  refine (l06Put_any HW2.out HT2.out HS2.out HL.out Q hQ).mono ?_
  rintro e w2 ⟨aT, cT, aS, cS, rfl, oT, oS, hsep, hb⟩
  obtain ⟨QT, QS⟩ := Q
  simp only at oT oS hok ⊢
  have R3 := Lib.hid ((R2.out.below hb (Nat.le_refl _)).alloc (.cells #[.int .i64 L, .int .i64 P, .slice aT QT.length cT, .slice aS QS.length cS] 53))
  have B3 := Lib.hid ((B2.out.trans (hb.mono B2.out.size)).alloc (Nat.le_trans B2.out.size hb.size) (.cells #[.int .i64 L, .int .i64 P, .slice aT QT.length cT, .slice aS QS.length cS] 53))
  have OT := Lib.hid ((oT.alloc (.cells #[.int .i64 L, .int .i64 P, .slice aT QT.length cT, .slice aS QS.length cS] 53)).mono hz)
  have OS := Lib.hid ((oS.alloc (.cells #[.int .i64 L, .int .i64 P, .slice aT QT.length cT, .slice aS QS.length cS] 53)).mono hz)
  have XX : Hid (Blk (w2.alloc (.cells #[.int .i64 L, .int .i64 P, .slice aT QT.length cT, .slice aS QS.length cS] 53)) w2.heap.size #[.int .i64 L, .int .i64 P, .slice aT QT.length cT, .slice aS QS.length cS] 53) := Lib.hid (Blk.new _ _ _)
  have HSEP := Lib.hid hsep
  clear oT oS hsep hb R2 B2 HW2 HT2 HS2
  go_wp2_with fail
  generalize w2.alloc (.cells #[.int .i64 L, .int .i64 P, .slice aT QT.length cT, .slice aS QS.length cS] 53) = w3 at R3 B3 OT OS XX ⊢
  have hw3 : WinAt w3 w2.heap.size 0 L P aT QT.length cT aS QS.length cS := ⟨XX.out.cell (i := 0) rfl, XX.out.cell (i := 1) rfl, XX.out.cell (i := 2) rfl, XX.out.cell (i := 3) rfl, XX.out.lt⟩
  refine (l06Is_any hw3 OT.out.rd OS.out.rd).mono ?_
  rintro e w4 ⟨rfl, m, rfl⟩
  rw [hok.out]
  have bd : Below w3.heap.size w3 (w3.drewN m) := below_of_drewN _ _ _
  have R4 := R3.out.below bd (Nat.le_refl _)
  have B4 := Lib.hid (B3.out.trans (bd.mono B3.out.size))
  have OT4 := Lib.hid (OT.out.below bd (Nat.le_refl _))
  have OS4 := Lib.hid (OS.out.below bd (Nat.le_refl _))
  have X4 := XX.out.below bd (Nat.le_refl _)
  clear bd hw3 R3 B3 OT OS XX
  generalize w3.drewN m = w4 at R4 B4 OT4 OS4 X4 ⊢
  have r0 := R4.cell (i := 0) (v := .int .i64 0) rfl
  have r1 := R4.cell (i := 1) (v := .int .i64 0) rfl
  have r2 := R4.cell (i := 2) (v := .slice none 0 0) rfl
  have r3 := R4.cell (i := 3) (v := .slice none 0 0) rfl
  have f0 := R4.free 0
  have f1 := R4.free 1
  have f2 := R4.free 2
  have f3 := R4.free 3
  have x0 := X4.cell (i := 0) (v := .int .i64 L) rfl
  have x1 := X4.cell (i := 1) (v := .int .i64 P) rfl
  have x2 := X4.cell (i := 2) (v := .slice aT QT.length cT) rfl
  have x3 := X4.cell (i := 3) (v := .slice aS QS.length cS) rfl
  clear R4 X4 hok
  cases ok with
  | false =>
    go_wp2
    refine bodyPost_ret (v := .tuple #[winV 0 0 none 0 0 none 0 0, .bool false]) (by simp [results, Try.results38, go_sem, r0, r1, r2, r3]) rfl (retPut_no (retWinX_no ((((B4.out.setCell (by simp) _).setCell (by simp) _).setCell (by simp) _).setCell (by simp) _)))
  | true =>
    go_wp2
    refine bodyPost_ret (v := .tuple #[winV L P aT QT.length cT aS QS.length cS, .bool true]) (by simp [results, Try.results38, go_sem, r0, r1, r2, r3]) rfl (retPut_yes ⟨aT, cT, aS, cS, rfl, ?_, ?_, HSEP.out, (((B4.out.setCell (by simp) _).setCell (by simp) _).setCell (by simp) _).setCell (by simp) _⟩)
    · exact ((((OT4.out.setFar _ _ (by simp; omega)).setFar _ _ (by simp; omega)).setFar _ _ (by simp; omega)).setFar _ _ (by simp; omega)).mono (by omega)
    · exact ((((OS4.out.setFar _ _ (by simp; omega)).setFar _ _ (by simp; omega)).setFar _ _ (by simp; omega)).setFar _ _ (by simp; omega)).mono (by omega)

end Go.Proofs.Ytofbnddmahjanaa
