/- The walk of the law FnExactNewDesk. -/
import Derived.Test.YtofbnddmahjanaaNewDI
import Derived.Test.YtofbnddmahjanaaHdDesk
import Derived.Test.YtofbnddmahjanaaStDesk
import Derived.Deep.Cut
namespace Go.Proofs.Ytofbnddmahjanaa
open Go.RowKit

set_option maxRecDepth 8000 in
theorem eqDeskNew {b z k b2 z2 t s k2 : Option Addr} {w : World} (h1 : Rd (Value.bool) w b 32 (List.replicate 32 false)) (h2 : Rd (Value.int .i64) w z 16 (List.replicate 16 (0 : Int))) (h3 : Rd (Value.int .i64) w k 3 ([1, 2, 3] : List Int)) (g1 : Rd (Value.bool) w b2 32 (List.replicate 32 false)) (g2 : Rd (Value.int .i64) w z2 16 (List.replicate 16 (0 : Int))) (g3 : Rd (Value.int .i64) w t 0 ([] : List Int)) (g4 : Rd (Value.int .i64) w s 0 ([] : List Int)) (g5 : Rd (Value.int .i64) w k2 3 ([1, 2, 3] : List Int)) :
    Calls Try.prog 31 #[.agg #[.int .i64 2, .int .i64 7, .slice b 32 32, .int .i64 7, .slice z 16 16, .int .i64 10, .int .i64 1, .slice none 0 0, .slice none 0 0, .slice k 3 3], .agg #[.int .i64 2, .int .i64 7, .slice b2 32 32, .int .i64 7, .slice z2 16 16, .int .i64 10, .int .i64 1, .slice t 0 0, .slice s 0 0, .slice k2 3 3]] w fun e w' => e = .returned (.bool true) ∧ Below w.heap.size w w' := by
  have hh := eqDesk_same (R := 2) (S := 7) (Z := 7) (L := 10) (P := 1) h1 g1 h2 g2 (own_nil (Value.int .i64) 2 w 0).rd g3 (own_nil (Value.int .i64) 2 w 0).rd g4 h3 g5
  simpa only [List.length_replicate, List.length_nil, List.length_cons, Nat.zero_add, Nat.reduceAdd] using hh
set_option maxRecDepth 8000 in
theorem markDeskNew {b z k : Option Addr} {base : Nat} {w : World} (h1 : Own (Value.bool) 4 w base b 32 (List.replicate 32 false)) (h2 : Own (Value.int .i64) 2 w base z 16 (List.replicate 16 (0 : Int))) (h3 : Own (Value.int .i64) 2 w base k 3 ([1, 2, 3] : List Int)) (s1 : Sep b z) (s2 : Sep b k) (s3 : Sep z k) {hi : Nat} (k1 : ∀ p, b = some p → p.block < hi) (k2 : ∀ p, z = some p → p.block < hi) (k3 : ∀ p, k = some p → p.block < hi) :
    Calls Try.prog 32 #[.agg #[.int .i64 2, .int .i64 7, .slice b 32 32, .int .i64 7, .slice z 16 16, .int .i64 10, .int .i64 1, .slice none 0 0, .slice none 0 0, .slice k 3 3], .int .i64 1] w fun e w' => e = .returned (.int .i64 52) ∧ Own (Value.bool) 4 w' base b 32 (marks boolM 1 32) ∧ Own (Value.int .i64) 2 w' base z 16 (marks intM 33 16) ∧ Own (Value.int .i64) 2 w' base k 3 (marks intM 49 3) ∧ Turned base hi w w' :=
  markDesk_any (k0 := 1) h1 h2 h3 s1 s2 s3 k1 k2 k3 (by simp)
set_option maxRecDepth 8000 in
theorem heldDeskNew {b z k : Option Addr} {w : World} (h1 : Rd (Value.bool) w b 32 (marks boolM 1 32)) (h2 : Rd (Value.int .i64) w z 16 (marks intM 33 16)) (h3 : Rd (Value.int .i64) w k 3 (marks intM 49 3)) :
    Calls Try.prog 33 #[.agg #[.int .i64 2, .int .i64 7, .slice b 32 32, .int .i64 7, .slice z 16 16, .int .i64 10, .int .i64 1, .slice none 0 0, .slice none 0 0, .slice k 3 3], .int .i64 1] w fun e w' => e = .returned (.int .i64 52) ∧ Below w.heap.size w w' :=
  heldDesk_any (k0 := 1) (nb := 32) (nz := 16) (nk := 3) h1 h2 h3 (by omega)

set_option maxRecDepth 100000 in
set_option maxHeartbeats 8000000 in
theorem lawNewDesk_walk {w : World} :
    Calls Try.prog 6 #[] w fun e w' => e = .returned (.bool true) ∧ Below w.heap.size w w' := by
  go_enter Try.func6, Try.ntmps6
  go_wp2_with fail
  refine specNewDesk_any.mono ?_
  rintro e w1 ⟨b2, z2, t, s, k2, rfl, q1, q2, q3, q4, q5, hb1⟩
  have Q := Lib.hid (And.intro (q1.alloc (.cells #[.int .i64 2, .int .i64 7, .slice (some ⟨b2, 0, none⟩) 32 32, .int .i64 7, .slice (some ⟨z2, 0, none⟩) 16 16, .int .i64 10, .int .i64 1, .slice (some ⟨t, 0, none⟩) 0 0, .slice (some ⟨s, 0, none⟩) 0 0, .slice (some ⟨k2, 0, none⟩) 3 3] 55)).rd (And.intro (q2.alloc (.cells #[.int .i64 2, .int .i64 7, .slice (some ⟨b2, 0, none⟩) 32 32, .int .i64 7, .slice (some ⟨z2, 0, none⟩) 16 16, .int .i64 10, .int .i64 1, .slice (some ⟨t, 0, none⟩) 0 0, .slice (some ⟨s, 0, none⟩) 0 0, .slice (some ⟨k2, 0, none⟩) 3 3] 55)).rd (And.intro (q3.alloc (.cells #[.int .i64 2, .int .i64 7, .slice (some ⟨b2, 0, none⟩) 32 32, .int .i64 7, .slice (some ⟨z2, 0, none⟩) 16 16, .int .i64 10, .int .i64 1, .slice (some ⟨t, 0, none⟩) 0 0, .slice (some ⟨s, 0, none⟩) 0 0, .slice (some ⟨k2, 0, none⟩) 3 3] 55)).rd (And.intro (q4.alloc (.cells #[.int .i64 2, .int .i64 7, .slice (some ⟨b2, 0, none⟩) 32 32, .int .i64 7, .slice (some ⟨z2, 0, none⟩) 16 16, .int .i64 10, .int .i64 1, .slice (some ⟨t, 0, none⟩) 0 0, .slice (some ⟨s, 0, none⟩) 0 0, .slice (some ⟨k2, 0, none⟩) 3 3] 55)).rd (q5.alloc (.cells #[.int .i64 2, .int .i64 7, .slice (some ⟨b2, 0, none⟩) 32 32, .int .i64 7, .slice (some ⟨z2, 0, none⟩) 16 16, .int .i64 10, .int .i64 1, .slice (some ⟨t, 0, none⟩) 0 0, .slice (some ⟨s, 0, none⟩) 0 0, .slice (some ⟨k2, 0, none⟩) 3 3] 55)).rd))))
  have X := Lib.hid (Blk.new w1 #[.int .i64 2, .int .i64 7, .slice (some ⟨b2, 0, none⟩) 32 32, .int .i64 7, .slice (some ⟨z2, 0, none⟩) 16 16, .int .i64 10, .int .i64 1, .slice (some ⟨t, 0, none⟩) 0 0, .slice (some ⟨s, 0, none⟩) 0 0, .slice (some ⟨k2, 0, none⟩) 3 3] 55)
  have B := Lib.hid (hb1.alloc hb1.size (.cells #[.int .i64 2, .int .i64 7, .slice (some ⟨b2, 0, none⟩) 32 32, .int .i64 7, .slice (some ⟨z2, 0, none⟩) 16 16, .int .i64 10, .int .i64 1, .slice (some ⟨t, 0, none⟩) 0 0, .slice (some ⟨s, 0, none⟩) 0 0, .slice (some ⟨k2, 0, none⟩) 3 3] 55))
  have l2 : w1.heap.size < (w1.alloc (.cells #[.int .i64 2, .int .i64 7, .slice (some ⟨b2, 0, none⟩) 32 32, .int .i64 7, .slice (some ⟨z2, 0, none⟩) 16 16, .int .i64 10, .int .i64 1, .slice (some ⟨t, 0, none⟩) 0 0, .slice (some ⟨s, 0, none⟩) 0 0, .slice (some ⟨k2, 0, none⟩) 3 3] 55)).heap.size := by simp
  clear q1 q2 q3 q4 q5 hb1
  go_wp2_with fail
  generalize (w1.alloc (.cells #[.int .i64 2, .int .i64 7, .slice (some ⟨b2, 0, none⟩) 32 32, .int .i64 7, .slice (some ⟨z2, 0, none⟩) 16 16, .int .i64 10, .int .i64 1, .slice (some ⟨t, 0, none⟩) 0 0, .slice (some ⟨s, 0, none⟩) 0 0, .slice (some ⟨k2, 0, none⟩) 3 3] 55)) = w2 at Q X B l2 ⊢
  refine implNewDesk_any.mono ?_
  rintro e w3 ⟨b, z, k, rfl, o1, o2, o3, d1, d2, d3, hb3⟩
  have SP : Hid (Sep (some ⟨b, 0, none⟩) (some ⟨z, 0, none⟩) ∧ Sep (some ⟨b, 0, none⟩) (some ⟨k, 0, none⟩) ∧ Sep (some ⟨z, 0, none⟩) (some ⟨k, 0, none⟩)) := by
    refine Lib.hid ⟨?_, ?_, ?_⟩ <;> (intro p q hp hq; simp at hp hq; subst hp; subst hq; assumption)
  have BQ4 : Hid (Below w2.heap.size w2 (w3.alloc (.cells #[.int .i64 2, .int .i64 7, .slice (some ⟨b, 0, none⟩) 32 32, .int .i64 7, .slice (some ⟨z, 0, none⟩) 16 16, .int .i64 10, .int .i64 1, .slice none 0 0, .slice none 0 0, .slice (some ⟨k, 0, none⟩) 3 3] 55))) := Lib.hid (hb3.alloc hb3.size _)
  have Y4 := Lib.hid (Blk.new w3 #[.int .i64 2, .int .i64 7, .slice (some ⟨b, 0, none⟩) 32 32, .int .i64 7, .slice (some ⟨z, 0, none⟩) 16 16, .int .i64 10, .int .i64 1, .slice none 0 0, .slice none 0 0, .slice (some ⟨k, 0, none⟩) 3 3] 55)
  have O4 := Lib.hid (And.intro (o1.alloc (.cells #[.int .i64 2, .int .i64 7, .slice (some ⟨b, 0, none⟩) 32 32, .int .i64 7, .slice (some ⟨z, 0, none⟩) 16 16, .int .i64 10, .int .i64 1, .slice none 0 0, .slice none 0 0, .slice (some ⟨k, 0, none⟩) 3 3] 55)) (And.intro (o2.alloc (.cells #[.int .i64 2, .int .i64 7, .slice (some ⟨b, 0, none⟩) 32 32, .int .i64 7, .slice (some ⟨z, 0, none⟩) 16 16, .int .i64 10, .int .i64 1, .slice none 0 0, .slice none 0 0, .slice (some ⟨k, 0, none⟩) 3 3] 55)) (o3.alloc (.cells #[.int .i64 2, .int .i64 7, .slice (some ⟨b, 0, none⟩) 32 32, .int .i64 7, .slice (some ⟨z, 0, none⟩) 16 16, .int .i64 10, .int .i64 1, .slice none 0 0, .slice none 0 0, .slice (some ⟨k, 0, none⟩) 3 3] 55))))
  have l3 : w2.heap.size ≤ w3.heap.size := hb3.size
  have l4 : w3.heap.size < (w3.alloc (.cells #[.int .i64 2, .int .i64 7, .slice (some ⟨b, 0, none⟩) 32 32, .int .i64 7, .slice (some ⟨z, 0, none⟩) 16 16, .int .i64 10, .int .i64 1, .slice none 0 0, .slice none 0 0, .slice (some ⟨k, 0, none⟩) 3 3] 55)).heap.size := by simp
  have LB := Lib.hid (And.intro (o1.blk _ rfl) (And.intro (o2.blk _ rfl) (o3.blk _ rfl)))
  clear o1 o2 o3 hb3 d1 d2 d3
  go_upto_region 3 with (fail)
  generalize (w3.alloc (.cells #[.int .i64 2, .int .i64 7, .slice (some ⟨b, 0, none⟩) 32 32, .int .i64 7, .slice (some ⟨z, 0, none⟩) 16 16, .int .i64 10, .int .i64 1, .slice none 0 0, .slice none 0 0, .slice (some ⟨k, 0, none⟩) 3 3] 55)) = w4 at BQ4 Y4 O4 l4 ⊢
  have x0 := (X.out.below BQ4.out (Nat.le_refl _)).cell (i := 0) (v := .int .i64 2) rfl
  have x1 := (X.out.below BQ4.out (Nat.le_refl _)).cell (i := 1) (v := .int .i64 7) rfl
  have x2 := (X.out.below BQ4.out (Nat.le_refl _)).cell (i := 2) (v := .slice (some ⟨b2, 0, none⟩) 32 32) rfl
  have x3 := (X.out.below BQ4.out (Nat.le_refl _)).cell (i := 3) (v := .int .i64 7) rfl
  have x4 := (X.out.below BQ4.out (Nat.le_refl _)).cell (i := 4) (v := .slice (some ⟨z2, 0, none⟩) 16 16) rfl
  have x5 := (X.out.below BQ4.out (Nat.le_refl _)).cell (i := 5) (v := .int .i64 10) rfl
  have x6 := (X.out.below BQ4.out (Nat.le_refl _)).cell (i := 6) (v := .int .i64 1) rfl
  have x7 := (X.out.below BQ4.out (Nat.le_refl _)).cell (i := 7) (v := .slice (some ⟨t, 0, none⟩) 0 0) rfl
  have x8 := (X.out.below BQ4.out (Nat.le_refl _)).cell (i := 8) (v := .slice (some ⟨s, 0, none⟩) 0 0) rfl
  have x9 := (X.out.below BQ4.out (Nat.le_refl _)).cell (i := 9) (v := .slice (some ⟨k2, 0, none⟩) 3 3) rfl
  have y0 := Y4.out.cell (i := 0) (v := .int .i64 2) rfl
  have y1 := Y4.out.cell (i := 1) (v := .int .i64 7) rfl
  have y2 := Y4.out.cell (i := 2) (v := .slice (some ⟨b, 0, none⟩) 32 32) rfl
  have y3 := Y4.out.cell (i := 3) (v := .int .i64 7) rfl
  have y4 := Y4.out.cell (i := 4) (v := .slice (some ⟨z, 0, none⟩) 16 16) rfl
  have y5 := Y4.out.cell (i := 5) (v := .int .i64 10) rfl
  have y6 := Y4.out.cell (i := 6) (v := .int .i64 1) rfl
  have y7 := Y4.out.cell (i := 7) (v := .slice none 0 0) rfl
  have y8 := Y4.out.cell (i := 8) (v := .slice none 0 0) rfl
  have y9 := Y4.out.cell (i := 9) (v := .slice (some ⟨k, 0, none⟩) 3 3) rfl
  go_wp2_with fail
  refine (eqDeskNew O4.out.1.rd O4.out.2.1.rd O4.out.2.2.rd (Q.out.1.below BQ4.out (Nat.le_refl _)) (Q.out.2.1.below BQ4.out (Nat.le_refl _)) (Q.out.2.2.1.below BQ4.out (Nat.le_refl _)) (Q.out.2.2.2.1.below BQ4.out (Nat.le_refl _)) (Q.out.2.2.2.2.below BQ4.out (Nat.le_refl _))).mono ?_
  rintro e w5 ⟨rfl, hb⟩
  have Y5 := Lib.hid (Y4.out.below hb (Nat.le_refl _))
  have O5 := Lib.hid (And.intro (O4.out.1.below hb (Nat.le_refl _)) (And.intro (O4.out.2.1.below hb (Nat.le_refl _)) (O4.out.2.2.below hb (Nat.le_refl _))))
  have BQ5 := Lib.hid (BQ4.out.trans (hb.mono BQ4.out.size))
  have l5 := hb.size
  clear hb Y4 O4 BQ4 x0 x1 x2 x3 x4 x5 x6 x7 x8 x9 y0 y1 y2 y3 y4 y5 y6 y7 y8 y9
  have y0 := Y5.out.cell (i := 0) (v := .int .i64 2) rfl
  have y1 := Y5.out.cell (i := 1) (v := .int .i64 7) rfl
  have y2 := Y5.out.cell (i := 2) (v := .slice (some ⟨b, 0, none⟩) 32 32) rfl
  have y3 := Y5.out.cell (i := 3) (v := .int .i64 7) rfl
  have y4 := Y5.out.cell (i := 4) (v := .slice (some ⟨z, 0, none⟩) 16 16) rfl
  have y5 := Y5.out.cell (i := 5) (v := .int .i64 10) rfl
  have y6 := Y5.out.cell (i := 6) (v := .int .i64 1) rfl
  have y7 := Y5.out.cell (i := 7) (v := .slice none 0 0) rfl
  have y8 := Y5.out.cell (i := 8) (v := .slice none 0 0) rfl
  have y9 := Y5.out.cell (i := 9) (v := .slice (some ⟨k, 0, none⟩) 3 3) rfl
  go_wp2_with fail
  refine (markDeskNew O5.out.1 O5.out.2.1 O5.out.2.2 SP.out.1 SP.out.2.1 SP.out.2.2 (hi := w3.heap.size) (fun p hp => by simp at hp; subst hp; exact LB.out.1.2) (fun p hp => by simp at hp; subst hp; exact LB.out.2.1.2) (fun p hp => by simp at hp; subst hp; exact LB.out.2.2.2)).mono ?_
  rintro e w6 ⟨rfl, m1, m2, m3, ht⟩
  have Y6 := Lib.hid (Y5.out.turned ht (.inr (Nat.le_refl _)))
  have M6 := Lib.hid (And.intro m1.rd (And.intro m2.rd m3.rd))
  have BQ6 := Lib.hid (BQ5.out.trans (ht.below (Nat.le_refl _) BQ5.out.size))
  have l6 := ht.size
  clear ht m1 m2 m3 Y5 O5 BQ5 y0 y1 y2 y3 y4 y5 y6 y7 y8 y9
  have y0 := Y6.out.cell (i := 0) (v := .int .i64 2) rfl
  have y1 := Y6.out.cell (i := 1) (v := .int .i64 7) rfl
  have y2 := Y6.out.cell (i := 2) (v := .slice (some ⟨b, 0, none⟩) 32 32) rfl
  have y3 := Y6.out.cell (i := 3) (v := .int .i64 7) rfl
  have y4 := Y6.out.cell (i := 4) (v := .slice (some ⟨z, 0, none⟩) 16 16) rfl
  have y5 := Y6.out.cell (i := 5) (v := .int .i64 10) rfl
  have y6 := Y6.out.cell (i := 6) (v := .int .i64 1) rfl
  have y7 := Y6.out.cell (i := 7) (v := .slice none 0 0) rfl
  have y8 := Y6.out.cell (i := 8) (v := .slice none 0 0) rfl
  have y9 := Y6.out.cell (i := 9) (v := .slice (some ⟨k, 0, none⟩) 3 3) rfl
  go_wp2_with fail
  refine (heldDeskNew M6.out.1 M6.out.2.1 M6.out.2.2).mono ?_
  rintro e w7 ⟨rfl, hb⟩
  have Y7 := Lib.hid (Y6.out.below hb (Nat.le_refl _))
  have M7 := Lib.hid (And.intro (M6.out.1.below hb (Nat.le_refl _)) (And.intro (M6.out.2.1.below hb (Nat.le_refl _)) (M6.out.2.2.below hb (Nat.le_refl _))))
  have BQ7 := Lib.hid (BQ6.out.trans (hb.mono BQ6.out.size))
  have l7 := hb.size
  clear hb Y6 M6 BQ6 y0 y1 y2 y3 y4 y5 y6 y7 y8 y9
  go_wp2_with fail
  refine implNewDesk_any.mono ?_
  rintro e w8 ⟨b3, z3, k3, rfl, o1, o2, o3, -, -, -, hb⟩
  have h9 : Below w7.heap.size w7 (w8.alloc (.cells #[.int .i64 2, .int .i64 7, .slice (some ⟨b3, 0, none⟩) 32 32, .int .i64 7, .slice (some ⟨z3, 0, none⟩) 16 16, .int .i64 10, .int .i64 1, .slice none 0 0, .slice none 0 0, .slice (some ⟨k3, 0, none⟩) 3 3] 55)) := hb.alloc hb.size _
  have Y9 := Lib.hid (Y7.out.below h9 (Nat.le_refl _))
  have Z9 := Lib.hid (Blk.new w8 #[.int .i64 2, .int .i64 7, .slice (some ⟨b3, 0, none⟩) 32 32, .int .i64 7, .slice (some ⟨z3, 0, none⟩) 16 16, .int .i64 10, .int .i64 1, .slice none 0 0, .slice none 0 0, .slice (some ⟨k3, 0, none⟩) 3 3] 55)
  have M9 := Lib.hid (And.intro (M7.out.1.below h9 (Nat.le_refl _)) (And.intro (M7.out.2.1.below h9 (Nat.le_refl _)) (M7.out.2.2.below h9 (Nat.le_refl _))))
  have BQ9 := Lib.hid (BQ7.out.trans (h9.mono BQ7.out.size))
  have O9 := Lib.hid (And.intro (o1.alloc (.cells #[.int .i64 2, .int .i64 7, .slice (some ⟨b3, 0, none⟩) 32 32, .int .i64 7, .slice (some ⟨z3, 0, none⟩) 16 16, .int .i64 10, .int .i64 1, .slice none 0 0, .slice none 0 0, .slice (some ⟨k3, 0, none⟩) 3 3] 55)).rd (And.intro (o2.alloc (.cells #[.int .i64 2, .int .i64 7, .slice (some ⟨b3, 0, none⟩) 32 32, .int .i64 7, .slice (some ⟨z3, 0, none⟩) 16 16, .int .i64 10, .int .i64 1, .slice none 0 0, .slice none 0 0, .slice (some ⟨k3, 0, none⟩) 3 3] 55)).rd (o3.alloc (.cells #[.int .i64 2, .int .i64 7, .slice (some ⟨b3, 0, none⟩) 32 32, .int .i64 7, .slice (some ⟨z3, 0, none⟩) 16 16, .int .i64 10, .int .i64 1, .slice none 0 0, .slice none 0 0, .slice (some ⟨k3, 0, none⟩) 3 3] 55)).rd))
  clear hb h9 o1 o2 o3 Y7 M7 BQ7
  go_upto_region 14 with (fail)
  generalize (w8.alloc (.cells #[.int .i64 2, .int .i64 7, .slice (some ⟨b3, 0, none⟩) 32 32, .int .i64 7, .slice (some ⟨z3, 0, none⟩) 16 16, .int .i64 10, .int .i64 1, .slice none 0 0, .slice none 0 0, .slice (some ⟨k3, 0, none⟩) 3 3] 55)) = w9 at Y9 Z9 M9 BQ9 O9 ⊢
  have x0 := (X.out.below BQ9.out (Nat.le_refl _)).cell (i := 0) (v := .int .i64 2) rfl
  have x1 := (X.out.below BQ9.out (Nat.le_refl _)).cell (i := 1) (v := .int .i64 7) rfl
  have x2 := (X.out.below BQ9.out (Nat.le_refl _)).cell (i := 2) (v := .slice (some ⟨b2, 0, none⟩) 32 32) rfl
  have x3 := (X.out.below BQ9.out (Nat.le_refl _)).cell (i := 3) (v := .int .i64 7) rfl
  have x4 := (X.out.below BQ9.out (Nat.le_refl _)).cell (i := 4) (v := .slice (some ⟨z2, 0, none⟩) 16 16) rfl
  have x5 := (X.out.below BQ9.out (Nat.le_refl _)).cell (i := 5) (v := .int .i64 10) rfl
  have x6 := (X.out.below BQ9.out (Nat.le_refl _)).cell (i := 6) (v := .int .i64 1) rfl
  have x7 := (X.out.below BQ9.out (Nat.le_refl _)).cell (i := 7) (v := .slice (some ⟨t, 0, none⟩) 0 0) rfl
  have x8 := (X.out.below BQ9.out (Nat.le_refl _)).cell (i := 8) (v := .slice (some ⟨s, 0, none⟩) 0 0) rfl
  have x9 := (X.out.below BQ9.out (Nat.le_refl _)).cell (i := 9) (v := .slice (some ⟨k2, 0, none⟩) 3 3) rfl
  have u0 := Z9.out.cell (i := 0) (v := .int .i64 2) rfl
  have u1 := Z9.out.cell (i := 1) (v := .int .i64 7) rfl
  have u2 := Z9.out.cell (i := 2) (v := .slice (some ⟨b3, 0, none⟩) 32 32) rfl
  have u3 := Z9.out.cell (i := 3) (v := .int .i64 7) rfl
  have u4 := Z9.out.cell (i := 4) (v := .slice (some ⟨z3, 0, none⟩) 16 16) rfl
  have u5 := Z9.out.cell (i := 5) (v := .int .i64 10) rfl
  have u6 := Z9.out.cell (i := 6) (v := .int .i64 1) rfl
  have u7 := Z9.out.cell (i := 7) (v := .slice none 0 0) rfl
  have u8 := Z9.out.cell (i := 8) (v := .slice none 0 0) rfl
  have u9 := Z9.out.cell (i := 9) (v := .slice (some ⟨k3, 0, none⟩) 3 3) rfl
  go_wp2_with fail
  refine (eqDeskNew O9.out.1 O9.out.2.1 O9.out.2.2 (Q.out.1.below BQ9.out (Nat.le_refl _)) (Q.out.2.1.below BQ9.out (Nat.le_refl _)) (Q.out.2.2.1.below BQ9.out (Nat.le_refl _)) (Q.out.2.2.2.1.below BQ9.out (Nat.le_refl _)) (Q.out.2.2.2.2.below BQ9.out (Nat.le_refl _))).mono ?_
  rintro e w10 ⟨rfl, hb⟩
  have Y10 := Lib.hid (Y9.out.below hb (Nat.le_refl _))
  have M10 := Lib.hid (And.intro (M9.out.1.below hb (Nat.le_refl _)) (And.intro (M9.out.2.1.below hb (Nat.le_refl _)) (M9.out.2.2.below hb (Nat.le_refl _))))
  have BQ10 := Lib.hid (BQ9.out.trans (hb.mono BQ9.out.size))
  clear hb Y9 Z9 M9 BQ9 O9 x0 x1 x2 x3 x4 x5 x6 x7 x8 x9 u0 u1 u2 u3 u4 u5 u6 u7 u8 u9
  have y0 := Y10.out.cell (i := 0) (v := .int .i64 2) rfl
  have y1 := Y10.out.cell (i := 1) (v := .int .i64 7) rfl
  have y2 := Y10.out.cell (i := 2) (v := .slice (some ⟨b, 0, none⟩) 32 32) rfl
  have y3 := Y10.out.cell (i := 3) (v := .int .i64 7) rfl
  have y4 := Y10.out.cell (i := 4) (v := .slice (some ⟨z, 0, none⟩) 16 16) rfl
  have y5 := Y10.out.cell (i := 5) (v := .int .i64 10) rfl
  have y6 := Y10.out.cell (i := 6) (v := .int .i64 1) rfl
  have y7 := Y10.out.cell (i := 7) (v := .slice none 0 0) rfl
  have y8 := Y10.out.cell (i := 8) (v := .slice none 0 0) rfl
  have y9 := Y10.out.cell (i := 9) (v := .slice (some ⟨k, 0, none⟩) 3 3) rfl
  go_wp2_with fail
  refine (heldDeskNew M10.out.1 M10.out.2.1 M10.out.2.2).mono ?_
  rintro e w11 ⟨rfl, hb⟩
  have BB := Lib.hid (B.out.trans ((BQ10.out.trans (hb.mono BQ10.out.size)).mono B.out.size))
  clear hb y0 y1 y2 y3 y4 y5 y6 y7 y8 y9
  go_wp2
  go_ret
  exact ⟨rfl, BB.out⟩

end Go.Proofs.Ytofbnddmahjanaa
