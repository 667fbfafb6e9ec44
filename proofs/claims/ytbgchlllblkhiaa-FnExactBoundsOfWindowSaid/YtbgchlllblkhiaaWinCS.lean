/- CountWindow and BoundsOfWindow in the reference's text. -/
import Derived.Test.YtbgchlllblkhiaaWinB
namespace Go.Proofs.Ytbgchlllblkhiaa
open Go.RowKit

set_option maxRecDepth 4000 in
set_option maxHeartbeats 2000000 in
theorem specCount_any {ta sa : Option Addr} {tc sc : Nat} {ts ss : List Int} {L P t : Int} {w : World} (ht : Rd (Value.int .i64) w ta tc ts) (hs : Rd (Value.int .i64) w sa sc ss) :
    Calls Try.prog 47 #[winV L P ta ts.length tc sa ss.length sc, .int .i64 t] w fun e w' => e = .returned (.tuple #[.int .i64 (winR countV L P ts ss t), .bool (lateB L P ts ss t)]) ∧ Below w.heap.size w w' := by
  have hb0 : Below w.heap.size w (w.alloc (.cells #[.int .i64 L, .int .i64 P, .slice ta ts.length tc, .slice sa ss.length sc] 67)) := (Below.refl _ _).alloc (Nat.le_refl _) _
  obtain ⟨q0, q1, q2, q3⟩ := win_cells (w := w) (t := 67) (L := L) (P := P) (ta := ta) (tl := ts.length) (tc := tc) (sa := sa) (sl := ss.length) (sc := sc) (Below.refl _ _)
  have hw0 : WinAt (w.alloc (.cells #[.int .i64 L, .int .i64 P, .slice ta ts.length tc, .slice sa ss.length sc] 67)) w.heap.size 0 L P ta ts.length tc sa ss.length sc := ⟨q0, q1, q2, q3, by simp⟩
  have ht0 := ht.below hb0 (Nat.le_refl _)
  have hs0 := hs.below hb0 (Nat.le_refl _)
  have HW := Lib.hid hw0
  have HT := Lib.hid ht0
  have HS := Lib.hid hs0
  have HB := Lib.hid hb0
  clear q0 q1 q2 q3 hw0 ht0 hs0
  cases h : lateB L P ts ss t with
  | false =>
    go_enter Try.func47, Try.ntmps47
    go_wp2_with fail
    refine (l06Late_any HW.out HT.out HS.out).mono ?_
    rintro e w1 ⟨rfl, n, rfl⟩
    rw [h]
    go_wp2
    go_ret2
    exact ⟨by simp [winR, h], hb0.trans (below_of_drewN _ _ _)⟩
  | true =>
    obtain ⟨hv, t0, t1⟩ := late_parts h
    obtain ⟨l0, l1, _, _, hl, h4, _, _⟩ := winB_parts hv
    have HV := Lib.hid hv
    have H4 := Lib.hid h4
    have HL := Lib.hid h
    clear h4 hv
    go_enter Try.func47, Try.ntmps47
    go_wp2_with fail
    refine (l06Late_any HW.out HT.out HS.out).mono ?_
    rintro e w1 ⟨rfl, n, rfl⟩
    rw [h]
    have hbd := below_of_drewN (w.alloc (.cells #[.int .i64 L, .int .i64 P, .slice ta ts.length tc, .slice sa ss.length sc] 67)) n
    have HB1 := Lib.hid (hb0.trans (hbd _))
    have HW1 := Lib.hid (HW.out.below (hbd _) (Nat.le_refl _))
    have HT1 := Lib.hid (HT.out.drewN n)
    have HS1 := Lib.hid (HS.out.drewN n)
    generalize (w.alloc (.cells #[.int .i64 L, .int .i64 P, .slice ta ts.length tc, .slice sa ss.length sc] 67)).drewN n = w1 at HB1 HW1 HT1 HS1 ⊢
    clear hbd h HW HT HS hb0 HB
    go_wp2_with fail
    refine (l06Kept_any HW1.out HT1.out HS1.out hl H4.out t0 t1 l0 l1).mono ?_
    rintro e w2 ⟨a, c, a', c', rfl, _, oS, hb2⟩
    have hb3 := HB1.out.trans (hb2.mono HB1.out.size)
    rw [(keep_all HV.out _).1, (keep_all HV.out _).2] at *
    obtain ⟨S, hS⟩ : ∃ S, keptS ts ss (t - L) = S := ⟨_, rfl⟩
    have hSS : ss.drop (keptI ts (t - L)) = S := hS
    rw [hSS] at oS ⊢
    have hfst := fun h0 : 0 < S.length => size_first HV.out (t - L) (by rw [hS]; exact h0)
    rw [hS] at hfst
    have HSE := Lib.hid hS
    have HOS := Lib.hid oS
    have hb4 := hb3.alloc hb3.size (.cells #[.int .i64 L, .int .i64 P, .slice a (ts.drop (keptI ts (t - L))).length c, .slice a' S.length c'] 67)
    have HB4 := Lib.hid hb4
    have hmx := oS.cap.2
    have hcp := oS.cap.1
    generalize (ts.drop (keptI ts (t - L))).length = tl at HB4 ⊢
    clear hS hSS oS hb2 hb3 HW1 HT1 HS1 hb4 HB1
    by_cases h0 : S.length = 0
    · have hd : ((S.length : Int) == 0) = true := by simp [h0]
      have H0 := Lib.hid h0
      clear h0 hfst
      go_wp2
      go_ret2
      exact ⟨by simp [winR, HL.out, HSE.out, countV, H0.out], HB4.out⟩
    · have hd : ((S.length : Int) == 0) = false := beq_eq_false_iff_ne.2 (by omega)
      have hpos : 0 < S.length := by omega
      obtain ⟨x, hx⟩ : ∃ x, at0 S 0 = x := ⟨_, rfl⟩
      obtain ⟨x0, x1⟩ := hfst hpos
      rw [hx] at x0 x1
      have H0 := Lib.hid h0
      have HX := Lib.hid hx
      have oS := HOS.out.alloc (.cells #[.int .i64 L, .int .i64 P, .slice a tl c, .slice a' S.length c'] 67)
      have hcx := at0_cell' oS.rd hpos hx
      have hi0 := rd_idxAt oS.rd und_is siz_is 0 hpos 0 rfl
      have HSR := Lib.hid oS.rd
      clear h0 hfst hx oS
      go_wp2_with fail
      go_quiet ((go_at_call 108; exact l06Sum_quiet HSR.out))
      go_wp2
      go_ret2
      exact ⟨by simp [winR, HL.out, HSE.out, countV, H0.out, HX.out], HB4.out.trans (below_of_drewN _ _ _)⟩

set_option maxRecDepth 4000 in
set_option maxHeartbeats 2000000 in
theorem specBounds_any {ta sa : Option Addr} {tc sc : Nat} {ts ss : List Int} {L P t : Int} {w : World} (ht : Rd (Value.int .i64) w ta tc ts) (hs : Rd (Value.int .i64) w sa sc ss) :
    Calls Try.prog 51 #[winV L P ta ts.length tc sa ss.length sc, .int .i64 t] w fun e w' => e = .returned (.tuple #[.int .i64 (winR lowV L P ts ss t), .int .i64 (winR highV L P ts ss t), .bool (lateB L P ts ss t)]) ∧ Below w.heap.size w w' := by
  have hb0 : Below w.heap.size w (w.alloc (.cells #[.int .i64 L, .int .i64 P, .slice ta ts.length tc, .slice sa ss.length sc] 67)) := (Below.refl _ _).alloc (Nat.le_refl _) _
  obtain ⟨q0, q1, q2, q3⟩ := win_cells (w := w) (t := 67) (L := L) (P := P) (ta := ta) (tl := ts.length) (tc := tc) (sa := sa) (sl := ss.length) (sc := sc) (Below.refl _ _)
  have hw0 : WinAt (w.alloc (.cells #[.int .i64 L, .int .i64 P, .slice ta ts.length tc, .slice sa ss.length sc] 67)) w.heap.size 0 L P ta ts.length tc sa ss.length sc := ⟨q0, q1, q2, q3, by simp⟩
  have ht0 := ht.below hb0 (Nat.le_refl _)
  have hs0 := hs.below hb0 (Nat.le_refl _)
  have HW := Lib.hid hw0
  have HT := Lib.hid ht0
  have HS := Lib.hid hs0
  have HB := Lib.hid hb0
  clear q0 q1 q2 q3 hw0 ht0 hs0
  cases h : lateB L P ts ss t with
  | false =>
    go_enter Try.func51, Try.ntmps51
    go_wp2_with fail
    refine (l06Late_any HW.out HT.out HS.out).mono ?_
    rintro e w1 ⟨rfl, n, rfl⟩
    rw [h]
    go_wp2
    go_ret3
    exact ⟨by simp [winR, h], hb0.trans (below_of_drewN _ _ _)⟩
  | true =>
    obtain ⟨hv, t0, t1⟩ := late_parts h
    obtain ⟨l0, l1, _, _, hl, h4, _, _⟩ := winB_parts hv
    have HV := Lib.hid hv
    have H4 := Lib.hid h4
    have HL := Lib.hid h
    clear h4 hv
    go_enter Try.func51, Try.ntmps51
    go_wp2_with fail
    refine (l06Late_any HW.out HT.out HS.out).mono ?_
    rintro e w1 ⟨rfl, n, rfl⟩
    rw [h]
    have hbd := below_of_drewN (w.alloc (.cells #[.int .i64 L, .int .i64 P, .slice ta ts.length tc, .slice sa ss.length sc] 67)) n
    have HB1 := Lib.hid (hb0.trans (hbd _))
    have HW1 := Lib.hid (HW.out.below (hbd _) (Nat.le_refl _))
    have HT1 := Lib.hid (HT.out.drewN n)
    have HS1 := Lib.hid (HS.out.drewN n)
    generalize (w.alloc (.cells #[.int .i64 L, .int .i64 P, .slice ta ts.length tc, .slice sa ss.length sc] 67)).drewN n = w1 at HB1 HW1 HT1 HS1 ⊢
    clear hbd h HW HT HS hb0 HB
    go_wp2_with fail
    refine (l06Kept_any HW1.out HT1.out HS1.out hl H4.out t0 t1 l0 l1).mono ?_
    rintro e w2 ⟨a, c, a', c', rfl, _, oS, hb2⟩
    have hb3 := HB1.out.trans (hb2.mono HB1.out.size)
    rw [(keep_all HV.out _).1, (keep_all HV.out _).2] at *
    obtain ⟨S, hS⟩ : ∃ S, keptS ts ss (t - L) = S := ⟨_, rfl⟩
    have hSS : ss.drop (keptI ts (t - L)) = S := hS
    rw [hSS] at oS ⊢
    have hfst := fun h0 : 0 < S.length => size_first HV.out (t - L) (by rw [hS]; exact h0)
    rw [hS] at hfst
    have HSE := Lib.hid hS
    have HOS := Lib.hid oS
    have hb4 := hb3.alloc hb3.size (.cells #[.int .i64 L, .int .i64 P, .slice a (ts.drop (keptI ts (t - L))).length c, .slice a' S.length c'] 67)
    have HB4 := Lib.hid hb4
    have hmx := oS.cap.2
    have hcp := oS.cap.1
    generalize (ts.drop (keptI ts (t - L))).length = tl at HB4 ⊢
    clear hS hSS oS hb2 hb3 HW1 HT1 HS1 hb4 HB1
    by_cases h0 : S.length = 0
    · have hd : ((S.length : Int) == 0) = true := by simp [h0]
      have H0 := Lib.hid h0
      clear h0 hfst
      go_wp2
      go_ret3
      exact ⟨by simp [winR, HL.out, HSE.out, lowV, highV, H0.out], HB4.out⟩
    · have hd : ((S.length : Int) == 0) = false := beq_eq_false_iff_ne.2 (by omega)
      have hpos : 0 < S.length := by omega
      obtain ⟨x, hx⟩ : ∃ x, at0 S 0 = x := ⟨_, rfl⟩
      obtain ⟨x0, x1⟩ := hfst hpos
      rw [hx] at x0 x1
      have H0 := Lib.hid h0
      have HX := Lib.hid hx
      have oS := HOS.out.alloc (.cells #[.int .i64 L, .int .i64 P, .slice a tl c, .slice a' S.length c'] 67)
      have hcx := at0_cell' oS.rd hpos hx
      have hi0 := rd_idxAt oS.rd und_is siz_is 0 hpos 0 rfl
      have HSR := Lib.hid oS.rd
      clear h0 hfst hx oS
      go_wp2_with fail
      refine (l06Sum_any HSR.out).mono ?_
      rintro e w5 ⟨rfl, rfl⟩
      go_wp2
      go_ret3
      exact ⟨by simp [winR, HL.out, HSE.out, lowV, highV, H0.out, HX.out], HB4.out⟩

end Go.Proofs.Ytbgchlllblkhiaa
