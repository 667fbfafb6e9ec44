/- The walk of the law FnExactBoundsOfWindow. -/
import Derived.Test.YtbgchlllblkhiaaWinCS
import Derived.Test.YtbgchlllblkhiaaWinCI
import Derived.Test.YtbgchlllblkhiaaWinG
import Derived.Deep.DrawnRows
namespace Go.Proofs.Ytbgchlllblkhiaa
open Go.RowKit
attribute [local go_sem ↓] Go.wp_at_zero Go.wp_at_succ

set_option maxRecDepth 100000 in
set_option maxHeartbeats 4000000 in
theorem lawBoundsOfWindow_walk {ta sa : Option Addr} {tc sc : Nat} {ts ss : List Int} {L P t : Int} {w : World} (ht : Rd (Value.int .i64) w ta tc ts) (hs : Rd (Value.int .i64) w sa sc ss) :
    Calls Try.prog 12 #[winV L P ta ts.length tc sa ss.length sc, .int .i64 t] w fun e w' => e = .returned (.bool true) ∧ Below w.heap.size w w' := by
  have hlt := ht.len
  have hls := hs.len
  have B0 : Below w.heap.size w (w.alloc (.cells #[.int .i64 L, .int .i64 P, .slice ta ts.length tc, .slice sa ss.length sc] 63)) := (Below.refl _ _).alloc (Nat.le_refl _) _
  have I0 : Blk (w.alloc (.cells #[.int .i64 L, .int .i64 P, .slice ta ts.length tc, .slice sa ss.length sc] 63)) w.heap.size #[.int .i64 L, .int .i64 P, .slice ta ts.length tc, .slice sa ss.length sc] 63 := Blk.new _ _ _
  have H0 := Lib.hid (And.intro B0 I0)
  clear B0 I0
  obtain ⟨z0, hz0⟩ : ∃ z, winR lowV L P ts ss t = z := ⟨_, rfl⟩
  obtain ⟨z1, hz1⟩ : ∃ z, winR highV L P ts ss t = z := ⟨_, rfl⟩
  obtain ⟨bb, hbb⟩ : ∃ z, lateB L P ts ss t = z := ⟨_, rfl⟩
  have hsp := @specBounds_any ta sa tc sc ts ss L P t
  have HSP : Hid (∀ {ta sa : Option Addr} {tc sc : Nat} {w : World}, Rd (Value.int .i64) w ta tc ts → Rd (Value.int .i64) w sa sc ss → Calls Try.prog 51 #[winV L P ta ts.length tc sa ss.length sc, .int .i64 t] w fun e w' => e = .returned (.tuple #[.int .i64 z0, .int .i64 z1, .bool bb]) ∧ Below w.heap.size w w') := by
    show ∀ {ta sa : Option Addr} {tc sc : Nat} {w : World}, _
    intro ta sa tc sc w h1 h2
    have := specBounds_any (L := L) (P := P) (t := t) h1 h2
    rwa [hz0, hz1, hbb] at this
  have HIM : Hid (∀ {ta sa : Option Addr} {tc sc : Nat} {w : World}, Rd (Value.int .i64) w ta tc ts → Rd (Value.int .i64) w sa sc ss → Calls Try.prog 52 #[winV L P ta ts.length tc sa ss.length sc, .int .i64 t] w fun e w' => e = .returned (.tuple #[.int .i64 z0, .int .i64 z1, .bool bb]) ∧ Below w.heap.size w w') := by
    show ∀ {ta sa : Option Addr} {tc sc : Nat} {w : World}, _
    intro ta sa tc sc w h1 h2
    have := implBounds_any (L := L) (P := P) (t := t) h1 h2
    rwa [hz0, hz1, hbb] at this
  clear hsp hbb hz0 hz1
  have hn0 : (z0 != z0) = false := by simp
  have hn1 : (z1 != z1) = false := by simp
  have hnb : (bb ^^ bb) = false := by simp
  have hnb2 : (bb != bb) = false := by simp
  go_enter Try.func12, Try.ntmps12
  go_wp2_with fail
  generalize w.alloc (.cells #[.int .i64 L, .int .i64 P, .slice ta ts.length tc, .slice sa ss.length sc] 63) = w0 at H0 ⊢
  have HT0 := Lib.hid (ht.below H0.out.1 (Nat.le_refl _))
  have HS0 := Lib.hid (hs.below H0.out.1 (Nat.le_refl _))
  refine (szWindow_any HT0.out HS0.out (by omega) (by omega)).mono ?_
  rintro e w1 ⟨rfl, hb1⟩
  have B1 := Lib.hid (H0.out.1.trans (hb1.mono H0.out.1.size))
  have I1 := Lib.hid (H0.out.2.below hb1 (Nat.le_refl _))
  clear hb1 HT0 HS0 H0
  by_cases hbig : (1048576 : Int) < ts.length + ss.length
  · rw [if_pos hbig]
    go_wp2
    go_ret
    exact ⟨rfl, B1.out⟩
  rw [if_neg hbig]
  have n1 : ts.length ≤ 1048576 := by omega
  have n2 : ss.length ≤ 1048576 := by omega
  have c0 := I1.out.cell (i := 0) (v := .int .i64 L) rfl
  have c1 := I1.out.cell (i := 1) (v := .int .i64 P) rfl
  have c2 := I1.out.cell (i := 2) (v := .slice ta ts.length tc) rfl
  have c3 := I1.out.cell (i := 3) (v := .slice sa ss.length sc) rfl
  go_wp2_with fail
  refine (toWindow_any (ht.below B1.out (Nat.le_refl _)) (hs.below B1.out (Nat.le_refl _)) n1 n2).mono ?_
  rintro e w2 ⟨a2, d2, b2, e2, rfl, oT, oS, hb2⟩
  have B2 := Lib.hid (B1.out.trans (hb2.mono B1.out.size))
  have I2 := Lib.hid (I1.out.below hb2 (Nat.le_refl _))
  have HT2 := Lib.hid oT.rd
  have HS2 := Lib.hid oS.rd
  clear hb2 I1 B1 oT oS c0 c1 c2 c3
  go_wp2_with fail
  refine (HSP.out HT2.out HS2.out).mono ?_
  rintro e w3 ⟨rfl, hb3⟩
  have B3 := Lib.hid (B2.out.trans (hb3.mono B2.out.size))
  have I3 := Lib.hid (I2.out.below hb3 (Nat.le_refl _))
  clear hb3 I2 B2 HT2 HS2
  have c0 := I3.out.cell (i := 0) (v := .int .i64 L) rfl
  have c1 := I3.out.cell (i := 1) (v := .int .i64 P) rfl
  have c2 := I3.out.cell (i := 2) (v := .slice ta ts.length tc) rfl
  have c3 := I3.out.cell (i := 3) (v := .slice sa ss.length sc) rfl
  go_wp2_with fail
  refine (toWindow_any (ht.below B3.out (Nat.le_refl _)) (hs.below B3.out (Nat.le_refl _)) n1 n2).mono ?_
  rintro e w4 ⟨a4, d4, b4, e4, rfl, oT, oS, hb4⟩
  have B4 := B3.out.trans (hb4.mono B3.out.size)
  have B5 := Lib.hid (B4.alloc B4.size (.cells #[.int .i64 L, .int .i64 P, .slice a4 ts.length d4, .slice b4 ss.length e4] 67))
  have I5 := Lib.hid ((I3.out.below hb4 (Nat.le_refl _)).alloc (.cells #[.int .i64 L, .int .i64 P, .slice a4 ts.length d4, .slice b4 ss.length e4] 67))
  have X5 : Hid (Blk (w4.alloc (.cells #[.int .i64 L, .int .i64 P, .slice a4 ts.length d4, .slice b4 ss.length e4] 67)) w4.heap.size #[.int .i64 L, .int .i64 P, .slice a4 ts.length d4, .slice b4 ss.length e4] 67) := Blk.new _ _ _
  have HT5 := Lib.hid (oT.alloc (.cells #[.int .i64 L, .int .i64 P, .slice a4 ts.length d4, .slice b4 ss.length e4] 67)).rd
  have HS5 := Lib.hid (oS.alloc (.cells #[.int .i64 L, .int .i64 P, .slice a4 ts.length d4, .slice b4 ss.length e4] 67)).rd
  clear hb4 I3 B3 B4 oT oS c0 c1 c2 c3
  go_wp2_with fail
  generalize w4.alloc (.cells #[.int .i64 L, .int .i64 P, .slice a4 ts.length d4, .slice b4 ss.length e4] 67) = w5 at B5 I5 X5 HT5 HS5 ⊢
  refine (HIM.out HT5.out HS5.out).mono ?_
  rintro e w6 ⟨rfl, hb6⟩
  have B6 := Lib.hid (B5.out.trans (hb6.mono B5.out.size))
  have I6 := Lib.hid (I5.out.below hb6 (Nat.le_refl _))
  have X6 := Lib.hid (X5.out.below hb6 (Nat.le_refl _))
  have HT6 := Lib.hid (HT5.out.below hb6 (Nat.le_refl _))
  have HS6 := Lib.hid (HS5.out.below hb6 (Nat.le_refl _))
  clear hb6 I5 B5 X5 HT5 HS5
  go_wp2_with fail
  have hbd : Below w6.heap.size w6 w6.drew := below_of_drewN w6 1 _
  have B7 := Lib.hid (B6.out.trans (hbd.mono B6.out.size))
  have I7 := Lib.hid I6.out.drew
  have X7 := Lib.hid X6.out.drew
  have HT7 := Lib.hid (HT6.out.below hbd (Nat.le_refl _))
  have HS7 := Lib.hid (HS6.out.below hbd (Nat.le_refl _))
  have c0 := I6.out.cell (i := 0) (v := .int .i64 L) rfl
  have c1 := I6.out.cell (i := 1) (v := .int .i64 P) rfl
  have c2 := I6.out.cell (i := 2) (v := .slice ta ts.length tc) rfl
  have c3 := I6.out.cell (i := 3) (v := .slice sa ss.length sc) rfl
  have x0 := X6.out.cell (i := 0) (v := .int .i64 L) rfl
  have x1 := X6.out.cell (i := 1) (v := .int .i64 P) rfl
  have x2 := X6.out.cell (i := 2) (v := .slice a4 ts.length d4) rfl
  have x3 := X6.out.cell (i := 3) (v := .slice b4 ss.length e4) rfl
  clear hbd HT6 HS6 I6 X6 B6
  go_region_held3 (fun w' => w'.cell? ⟨w.heap.size, 0, none⟩ = some (.int .i64 L) ∧ w'.cell? ⟨w.heap.size, 1, none⟩ = some (.int .i64 P) ∧ w'.cell? ⟨w.heap.size, 2, none⟩ = some (.slice ta ts.length tc) ∧ w'.cell? ⟨w.heap.size, 3, none⟩ = some (.slice sa ss.length sc) ∧ w'.cell? ⟨w4.heap.size, 0, none⟩ = some (.int .i64 L) ∧ w'.cell? ⟨w4.heap.size, 1, none⟩ = some (.int .i64 P) ∧ w'.cell? ⟨w4.heap.size, 2, none⟩ = some (.slice a4 ts.length d4) ∧ w'.cell? ⟨w4.heap.size, 3, none⟩ = some (.slice b4 ss.length e4))
    (first | (with_reducible exact hk8.out) | (with_reducible exact hk9.out) | exact ⟨c0, c1, c2, c3, x0, x1, x2, x3⟩)
    (first
      | (go_at_call 48; refine (toWindow_any (ht.below B7.out (Nat.le_refl _)) (hs.below B7.out (Nat.le_refl _)) n1 n2).mono ?_; rintro e w8 ⟨a8, d8, b8, e8, rfl, oT8, oS8, hb8⟩; have I8 := I7.out.below hb8 (Nat.le_refl _); have X8 := X7.out.below hb8 (Nat.le_refl _); have hk8 := Lib.hid (And.intro (I8.cell (i := 0) (v := .int .i64 L) rfl) (And.intro (I8.cell (i := 1) (v := .int .i64 P) rfl) (And.intro (I8.cell (i := 2) (v := .slice ta ts.length tc) rfl) (And.intro (I8.cell (i := 3) (v := .slice sa ss.length sc) rfl) (And.intro (X8.cell (i := 0) (v := .int .i64 L) rfl) (And.intro (X8.cell (i := 1) (v := .int .i64 P) rfl) (And.intro (X8.cell (i := 2) (v := .slice a4 ts.length d4) rfl) (X8.cell (i := 3) (v := .slice b4 ss.length e4) rfl)))))))); have HI8 := Lib.hid I8; have HX8 := Lib.hid X8; clear I8 X8)
      | (go_at_call 50; refine (eqWindow_same (HT7.out.below hb8 (Nat.le_refl _)) (HS7.out.below hb8 (Nat.le_refl _)) oT8.rd oS8.rd).mono ?_; rintro e w9 ⟨rfl, hb9⟩; have I9 := HI8.out.below hb9 (Nat.le_refl _); have X9 := HX8.out.below hb9 (Nat.le_refl _); have hk9 := Lib.hid (And.intro (I9.cell (i := 0) (v := .int .i64 L) rfl) (And.intro (I9.cell (i := 1) (v := .int .i64 P) rfl) (And.intro (I9.cell (i := 2) (v := .slice ta ts.length tc) rfl) (And.intro (I9.cell (i := 3) (v := .slice sa ss.length sc) rfl) (And.intro (X9.cell (i := 0) (v := .int .i64 L) rfl) (And.intro (X9.cell (i := 1) (v := .int .i64 P) rfl) (And.intro (X9.cell (i := 2) (v := .slice a4 ts.length d4) rfl) (X9.cell (i := 3) (v := .slice b4 ss.length e4) rfl)))))))); clear I9 X9))
  have B9 := Lib.hid (B7.out.trans ((hb8.trans (hb9.mono hb8.size)).mono B7.out.size))
  clear hb8 hb9 oT8 oS8
  go_wp2
  go_ret
  exact ⟨rfl, B9.out⟩

end Go.Proofs.Ytbgchlllblkhiaa
