/- The laws' helpers on windows. -/
import Derived.Test.YtockifchghllhaaDoorWinV
import Derived.Test.YtockifchghllhaaDoorLib
namespace Go.Proofs.YtockifchghllhaaDoor
open Go.RowKit

/-- A length less, or -1. -/
theorem szIw_any {a : Option Addr} {c : Nat} {xs : List Int} {l : Int} {w : World} (hr : Rd (Value.int .i64) w a c xs) (l0 : 0 ≤ l) (l1 : l ≤ 1048576) :
    Calls Tryd.prog 66 #[.slice a xs.length c, .int .i64 l] w fun e w' => e = .returned (.int .i64 (if l < xs.length then -1 else l - xs.length)) ∧ w = w' := by
  have hln := hr.len
  by_cases h : l < xs.length
  · have e : (if l < (xs.length : Int) then -1 else l - (xs.length : Int)) = -1 := if_pos h
    rw [e]
    clear e
    go_enter Tryd.func66, Tryd.ntmps66
    go_wp2
    go_ret
    exact ⟨rfl, rfl⟩
  · have e : (if l < (xs.length : Int) then -1 else l - (xs.length : Int)) = l - xs.length := if_neg h
    rw [e]
    clear e
    go_enter Tryd.func66, Tryd.ntmps66
    go_wp2
    go_ret
    exact ⟨rfl, rfl⟩

/-- A window in new memory. -/
def RetW (w : World) (L P : Int) (xs ys : List Int) (en : Ending) (w' : World) : Prop :=
  ∃ a c a' c', en = .returned (winV L P a xs.length c a' ys.length c') ∧ Own (Value.int .i64) 2 w' w.heap.size a c xs ∧ Own (Value.int .i64) 2 w' w.heap.size a' c' ys ∧ Below w.heap.size w w'
/-- The same, its slices apart. -/
def RetW2 (w : World) (L P : Int) (xs ys : List Int) (en : Ending) (w' : World) : Prop :=
  ∃ a c a' c', en = .returned (winV L P a xs.length c a' ys.length c') ∧ Own (Value.int .i64) 2 w' w.heap.size a c xs ∧ Own (Value.int .i64) 2 w' w.heap.size a' c' ys ∧ Sep a a' ∧ Below w.heap.size w w'

set_option maxRecDepth 4000 in
set_option maxHeartbeats 1000000 in
theorem toWindow_any2 {ta sa : Option Addr} {tc sc : Nat} {ts ss : List Int} {L P : Int} {w : World} (ht : Rd (Value.int .i64) w ta tc ts) (hs : Rd (Value.int .i64) w sa sc ss) (n1 : ts.length ≤ 1048576) (n2 : ss.length ≤ 1048576) :
    Calls Tryd.prog 35 #[winV L P ta ts.length tc sa ss.length sc] w (RetW2 w L P ts ss) := by
  have B0 : Below w.heap.size w (((w.alloc (.cells #[.int .i64 L, .int .i64 P, .slice ta ts.length tc, .slice sa ss.length sc] 53)).alloc (.cells #[.int .i64 0, .int .i64 0, .slice none 0 0, .slice none 0 0] 56)).alloc (.cells #[.int .i64 L, .int .i64 P, .slice none 0 0, .slice none 0 0] 56)) :=
    (((Below.refl _ _).alloc (Nat.le_refl _) _).alloc (by simp) _).alloc (by simp; omega) _
  have I0 : Blk (((w.alloc (.cells #[.int .i64 L, .int .i64 P, .slice ta ts.length tc, .slice sa ss.length sc] 53)).alloc (.cells #[.int .i64 0, .int .i64 0, .slice none 0 0, .slice none 0 0] 56)).alloc (.cells #[.int .i64 L, .int .i64 P, .slice none 0 0, .slice none 0 0] 56)) w.heap.size #[.int .i64 L, .int .i64 P, .slice ta ts.length tc, .slice sa ss.length sc] 53 := ((Blk.new _ _ _).alloc _).alloc _
  have R0 : Blk (((w.alloc (.cells #[.int .i64 L, .int .i64 P, .slice ta ts.length tc, .slice sa ss.length sc] 53)).alloc (.cells #[.int .i64 0, .int .i64 0, .slice none 0 0, .slice none 0 0] 56)).alloc (.cells #[.int .i64 L, .int .i64 P, .slice none 0 0, .slice none 0 0] 56)) (w.heap.size + 1) #[.int .i64 0, .int .i64 0, .slice none 0 0, .slice none 0 0] 56 := (Blk.new' (by simp)).alloc _
  have U0 : Blk (((w.alloc (.cells #[.int .i64 L, .int .i64 P, .slice ta ts.length tc, .slice sa ss.length sc] 53)).alloc (.cells #[.int .i64 0, .int .i64 0, .slice none 0 0, .slice none 0 0] 56)).alloc (.cells #[.int .i64 L, .int .i64 P, .slice none 0 0, .slice none 0 0] 56)) (w.heap.size + 1 + 1) #[.int .i64 L, .int .i64 P, .slice none 0 0, .slice none 0 0] 56 := Blk.new' (by simp)
  have H0 := Lib.hid (And.intro B0 (And.intro I0 (And.intro R0 U0)))
  clear B0 I0 R0 U0
  go_enter Tryd.func35, Tryd.ntmps35
  go_wp2_with fail
  generalize (((w.alloc (.cells #[.int .i64 L, .int .i64 P, .slice ta ts.length tc, .slice sa ss.length sc] 53)).alloc (.cells #[.int .i64 0, .int .i64 0, .slice none 0 0, .slice none 0 0] 56)).alloc (.cells #[.int .i64 L, .int .i64 P, .slice none 0 0, .slice none 0 0] 56)) = W at H0 ⊢
  obtain ⟨B0, I0, R0, U0⟩ := H0.out
  clear H0
  refine (toI_any (ht.below B0 (Nat.le_refl _)) n1).mono ?_
  rintro e w1 ⟨a, c, rfl, oT, hb1⟩
  have LT := Lib.hid oT.blk
  have I1 := Lib.hid (I0.below hb1 (Nat.le_refl _))
  have R1 := Lib.hid (R0.below hb1 (Nat.le_refl _))
  have U1 := U0.below hb1 (Nat.le_refl _)
  have B1 := Lib.hid (B0.trans (hb1.mono B0.size))
  have hz0 := U0.lt
  have hz1 := hb1.size
  have u2 := U1.cell (i := 2) (v := .slice none 0 0) rfl
  have uf := U1.free 2
  have i3 := I1.out.cell (i := 3) (v := .slice sa ss.length sc) rfl
  have oT1 := Lib.hid (oT.mono (b' := w.heap.size + 1 + 1 + 1) hz0)
  have U2 : Hid (Blk (w1.setCell ⟨w.heap.size + 1 + 1, 2, none⟩ (.slice a ts.length c)) (w.heap.size + 1 + 1) #[.int .i64 L, .int .i64 P, .slice a ts.length c, .slice none 0 0] 56) := U1.set 2 (.slice a ts.length c)
  have I2 := Lib.hid (I1.out.far (p := ⟨w.heap.size + 1 + 1, 2, none⟩) (by simp; omega) (.slice a ts.length c))
  have R2 := Lib.hid (R1.out.far (p := ⟨w.heap.size + 1 + 1, 2, none⟩) (by simp) (.slice a ts.length c))
  have oT2 := Lib.hid (oT1.out.setFar ⟨w.heap.size + 1 + 1, 2, none⟩ (.slice a ts.length c) (by simp))
  have B2 : Hid (Below w.heap.size w (w1.setCell ⟨w.heap.size + 1 + 1, 2, none⟩ (.slice a ts.length c))) := B1.out.setCell (by simp; omega) _
  clear B0 I0 R0 U0 U1 I1 R1 oT oT1 hb1
  go_wp2_with fail
  have hsr := hs.below B2.out (Nat.le_refl _)
  have hz21 : w1.heap.size ≤ (w1.setCell ⟨w.heap.size + 1 + 1, 2, none⟩ (.slice a ts.length c)).heap.size := by simp
  have hz2 : w.heap.size + 1 + 1 < (w1.setCell ⟨w.heap.size + 1 + 1, 2, none⟩ (.slice a ts.length c)).heap.size := U2.out.lt
  generalize w1.setCell ⟨w.heap.size + 1 + 1, 2, none⟩ (.slice a ts.length c) = w2 at U2 I2 R2 oT2 B2 hsr hz2 hz21 ⊢
  clear u2 uf i3 hz0 hz1 B1 I2
  refine (toI_any hsr n2).mono ?_
  rintro e w3 ⟨a', c', rfl, oS, hb3⟩
  have hsep : Sep a a' := fun p q hp hq => by
    have h1 := (LT.out p hp).2
    have h2 := (oS.blk q hq).1
    omega
  have HSEP := Lib.hid hsep
  clear hsep
  have U3 := U2.out.below hb3 (Nat.le_refl _)
  have R3 := R2.out.below hb3 (Nat.le_refl _)
  have oT3 := Lib.hid (oT2.out.below hb3 (Nat.le_refl _))
  have oS3 := Lib.hid (oS.mono (b' := w.heap.size + 1 + 1 + 1) hz2)
  have B3 := Lib.hid (B2.out.trans (hb3.mono B2.out.size))
  have u0 := U3.cell (i := 0) (v := .int .i64 L) rfl
  have u1 := U3.cell (i := 1) (v := .int .i64 P) rfl
  have u2 := U3.cell (i := 2) (v := .slice a ts.length c) rfl
  have u3 := U3.cell (i := 3) (v := .slice none 0 0) rfl
  have r0 := R3.cell (i := 0) (v := .int .i64 0) rfl
  have r1 := R3.cell (i := 1) (v := .int .i64 0) rfl
  have r2 := R3.cell (i := 2) (v := .slice none 0 0) rfl
  have r3 := R3.cell (i := 3) (v := .slice none 0 0) rfl
  have uf := U3.free 3
  have f0 := R3.free 0
  have f1 := R3.free 1
  have f2 := R3.free 2
  have f3 := R3.free 3
  clear U2 R2 oT2 B2 hsr U3 R3 oS hb3
  go_wp2
  refine bodyPost_ret (v := winV L P a ts.length c a' ss.length c') (by simp [results, Tryd.results35, go_sem, r0, r1, r2, r3, u0, u1, u2, u3]) rfl ⟨a, c, a', c', rfl, ?_, ?_, HSEP.out, ((((B3.out.setCell (by simp; omega) _).setCell (by simp) _).setCell (by simp) _).setCell (by simp) _).setCell (by simp) _⟩
  · exact (((((oT3.out.setFar _ _ (by simp)).setFar _ _ (by simp)).setFar _ _ (by simp)).setFar _ _ (by simp)).setFar _ _ (by simp)).mono (by omega)
  · exact (((((oS3.out.setFar _ _ (by simp)).setFar _ _ (by simp)).setFar _ _ (by simp)).setFar _ _ (by simp)).setFar _ _ (by simp)).mono (by omega)

theorem toWindow_any {ta sa : Option Addr} {tc sc : Nat} {ts ss : List Int} {L P : Int} {w : World} (ht : Rd (Value.int .i64) w ta tc ts) (hs : Rd (Value.int .i64) w sa sc ss) (n1 : ts.length ≤ 1048576) (n2 : ss.length ≤ 1048576) :
    Calls Tryd.prog 35 #[winV L P ta ts.length tc sa ss.length sc] w (RetW w L P ts ss) :=
  (toWindow_any2 ht hs n1 n2).mono fun _ _ ⟨a, c, a', c', h1, h2, h3, _, h5⟩ => ⟨a, c, a', c', h1, h2, h3, h5⟩

/-- Two windows that are the same. -/
theorem eqWindow_same {ta sa tb sb : Option Addr} {tc sc td sd : Nat} {ts ss : List Int} {L P : Int} {w : World} (ht : Rd (Value.int .i64) w ta tc ts) (hs : Rd (Value.int .i64) w sa sc ss) (ht2 : Rd (Value.int .i64) w tb td ts) (hs2 : Rd (Value.int .i64) w sb sd ss) :
    Calls Tryd.prog 37 #[winV L P ta ts.length tc sa ss.length sc, winV L P tb ts.length td sb ss.length sd] w fun e w' => e = .returned (.bool true) ∧ Below w.heap.size w w' := by
  have B0 : Below w.heap.size w ((w.alloc (.cells #[.int .i64 L, .int .i64 P, .slice ta ts.length tc, .slice sa ss.length sc] 56)).alloc (.cells #[.int .i64 L, .int .i64 P, .slice tb ts.length td, .slice sb ss.length sd] 56)) := ((Below.refl _ _).alloc (Nat.le_refl _) _).alloc (by simp) _
  have I0 : Blk ((w.alloc (.cells #[.int .i64 L, .int .i64 P, .slice ta ts.length tc, .slice sa ss.length sc] 56)).alloc (.cells #[.int .i64 L, .int .i64 P, .slice tb ts.length td, .slice sb ss.length sd] 56)) w.heap.size #[.int .i64 L, .int .i64 P, .slice ta ts.length tc, .slice sa ss.length sc] 56 := (Blk.new _ _ _).alloc _
  have J0 : Blk ((w.alloc (.cells #[.int .i64 L, .int .i64 P, .slice ta ts.length tc, .slice sa ss.length sc] 56)).alloc (.cells #[.int .i64 L, .int .i64 P, .slice tb ts.length td, .slice sb ss.length sd] 56)) (w.heap.size + 1) #[.int .i64 L, .int .i64 P, .slice tb ts.length td, .slice sb ss.length sd] 56 := Blk.new' (by simp)
  have H0 := Lib.hid (And.intro B0 (And.intro I0 J0))
  have hd1 : (L != L) = false := by simp
  have hd2 : (P != P) = false := by simp
  clear B0 I0 J0
  go_enter Tryd.func37, Tryd.ntmps37
  go_wp2_with fail
  generalize ((w.alloc (.cells #[.int .i64 L, .int .i64 P, .slice ta ts.length tc, .slice sa ss.length sc] 56)).alloc (.cells #[.int .i64 L, .int .i64 P, .slice tb ts.length td, .slice sb ss.length sd] 56)) = W at H0 ⊢
  obtain ⟨B0, I0, J0⟩ := H0.out
  clear H0
  refine (eqI_any (ht.below B0 (Nat.le_refl _)) (ht2.below B0 (Nat.le_refl _))).mono ?_
  rintro e w1 ⟨rfl, hb1⟩
  have B1 := B0.trans (hb1.mono B0.size)
  have i3 := (I0.below hb1 (Nat.le_refl _)).cell (i := 3) (v := .slice sa ss.length sc) rfl
  have j3 := (J0.below hb1 (Nat.le_refl _)).cell (i := 3) (v := .slice sb ss.length sd) rfl
  clear hb1 I0 J0 B0
  have ed : decide (ts = ts) = true := by simp
  rw [ed]
  clear ed
  go_wp2_with fail
  refine (eqI_any (hs.below B1 (Nat.le_refl _)) (hs2.below B1 (Nat.le_refl _))).mono ?_
  rintro e w2 ⟨rfl, hb2⟩
  have B2 := B1.trans (hb2.mono B1.size)
  rw [show decide (ss = ss) = true by simp]
  clear hb2 i3 j3 B1
  go_wp2
  go_ret
  exact ⟨rfl, B2⟩

/-- The size of a window is at most the room, or the answer is below 0. -/
theorem szWindow_any {ta sa : Option Addr} {tc sc : Nat} {ts ss : List Int} {L P l : Int} {w : World} (ht : Rd (Value.int .i64) w ta tc ts) (hs : Rd (Value.int .i64) w sa sc ss) (l0 : 0 ≤ l) (l1 : l ≤ 1048576) :
    Calls Tryd.prog 33 #[winV L P ta ts.length tc sa ss.length sc, .int .i64 l] w fun e w' => e = .returned (.int .i64 (if l < ts.length + ss.length then -1 else l - ts.length - ss.length)) ∧ Below w.heap.size w w' := by
  have hlt := ht.len
  have hls := hs.len
  have B0 : Below w.heap.size w (w.alloc (.cells #[.int .i64 L, .int .i64 P, .slice ta ts.length tc, .slice sa ss.length sc] 53)) := (Below.refl _ _).alloc (Nat.le_refl _) _
  have HT := Lib.hid (ht.below B0 (Nat.le_refl _))
  have HS := Lib.hid (hs.below B0 (Nat.le_refl _))
  by_cases h1 : l < ts.length
  · have e1 : (if l < (ts.length : Int) + ss.length then -1 else l - ts.length - ss.length) = -1 := if_pos (by omega)
    have e2 : (if l < (ts.length : Int) then -1 else l - (ts.length : Int)) = -1 := if_pos h1
    rw [e1]
    go_enter Tryd.func33, Tryd.ntmps33
    go_wp2_with fail
    refine (szIw_any HT.out l0 l1).mono ?_
    rintro e w1 ⟨rfl, rfl⟩
    rw [e2]
    go_wp2
    go_ret
    exact ⟨rfl, B0⟩
  · have e2 : (if l < (ts.length : Int) then -1 else l - (ts.length : Int)) = l - ts.length := if_neg h1
    by_cases h2 : l - ts.length < ss.length
    · have e1 : (if l < (ts.length : Int) + ss.length then -1 else l - ts.length - ss.length) = -1 := if_pos (by omega)
      have e3 : (if l - (ts.length : Int) < (ss.length : Int) then -1 else l - ts.length - (ss.length : Int)) = -1 := if_pos h2
      rw [e1]
      clear e1
      go_enter Tryd.func33, Tryd.ntmps33
      go_wp2_with fail
      refine (szIw_any HT.out l0 l1).mono ?_
      rintro e w1 ⟨rfl, rfl⟩
      rw [e2]
      clear e2
      go_wp2_with fail
      refine (szIw_any HS.out (by omega) (by omega)).mono ?_
      rintro e w1 ⟨rfl, rfl⟩
      rw [e3]
      go_wp2
      go_ret
      exact ⟨rfl, B0⟩
    · have e1 : (if l < (ts.length : Int) + ss.length then -1 else l - ts.length - ss.length) = l - ts.length - ss.length := if_neg (by omega)
      have e3 : (if l - (ts.length : Int) < (ss.length : Int) then -1 else l - ts.length - (ss.length : Int)) = l - ts.length - ss.length := if_neg h2
      rw [e1]
      clear e1
      go_enter Tryd.func33, Tryd.ntmps33
      go_wp2_with fail
      refine (szIw_any HT.out l0 l1).mono ?_
      rintro e w1 ⟨rfl, rfl⟩
      rw [e2]
      clear e2
      go_wp2_with fail
      refine (szIw_any HS.out (by omega) (by omega)).mono ?_
      rintro e w1 ⟨rfl, rfl⟩
      rw [e3]
      clear e3
      go_wp2
      go_ret
      exact ⟨rfl, B0⟩

end Go.Proofs.YtockifchghllhaaDoor
