/- CountWindow and BoundsOfWindow in the program's text. -/
import Derived.Test.YtbgchlllblkhiaaWinB
namespace Go.Proofs.Ytbgchlllblkhiaa
open Go.RowKit

set_option maxRecDepth 4000 in
set_option maxHeartbeats 2000000 in
theorem implCount_any {ta sa : Option Addr} {tc sc : Nat} {ts ss : List Int} {L P t : Int} {w : World} (ht : Rd (Value.int .i64) w ta tc ts) (hs : Rd (Value.int .i64) w sa sc ss) :
    Calls Try.prog 49 #[winV L P ta ts.length tc sa ss.length sc, .int .i64 t] w fun e w' => e = .returned (.tuple #[.int .i64 (winR countV L P ts ss t), .bool (lateB L P ts ss t)]) ∧ Below w.heap.size w w' := by
  have hb0 : Below w.heap.size w (w.alloc (.cells #[.int .i64 L, .int .i64 P, .slice ta ts.length tc, .slice sa ss.length sc] 67)) := (Below.refl _ _).alloc (Nat.le_refl _) _
  have HT := Lib.hid (ht.below hb0 (Nat.le_refl _))
  have HS := Lib.hid (hs.below hb0 (Nat.le_refl _))
  have HB := Lib.hid hb0
  cases h : lateB L P ts ss t with
  | false =>
    have HL := Lib.hid h
    go_enter Try.func49, Try.ntmps49
    go_wp2_with fail
    refine (kept_no HT.out HS.out HL.out).mono ?_
    rintro e w1 ⟨rfl, hb1⟩
    have hb2 := HB.out.trans (hb1.mono HB.out.size)
    have HB2 := Lib.hid (hb2.alloc hb2.size (.cells #[.int .i64 0, .int .i64 0, .slice none 0 0, .slice none 0 0] 67))
    clear hb0 hb1 hb2
    go_wp2
    go_ret2
    exact ⟨by simp [winR, HL.out], HB2.out⟩
  | true =>
    obtain ⟨hv, t0, t1⟩ := late_parts h
    have HV := Lib.hid hv
    have HL := Lib.hid h
    clear hv h
    go_enter Try.func49, Try.ntmps49
    go_wp2_with fail
    refine (kept_yes HT.out HS.out HL.out).mono ?_
    rintro e w2 ⟨a, c, a', c', rfl, _, oS, hb2⟩
    have hb3 := HB.out.trans (hb2.mono HB.out.size)
    obtain ⟨S, hS⟩ : ∃ S, keptS ts ss (t - L) = S := ⟨_, rfl⟩
    have hSS : ss.drop (keptI ts (t - L)) = S := hS
    rw [hSS] at oS ⊢
    have hfst := fun h0 : 0 < S.length => size_first HV.out (t - L) (by rw [hS]; exact h0)
    rw [hS] at hfst
    have HSE := Lib.hid hS
    have HOS := Lib.hid oS
    have hb4 := hb3.alloc hb3.size (.cells #[.int .i64 L, .int .i64 P, .slice a (ts.drop (keptI ts (t - L))).length c, .slice a' S.length c'] 67)
    have HB4 := Lib.hid hb4
    have hmx := oS.cap.2
    have hcp := oS.cap.1
    generalize (ts.drop (keptI ts (t - L))).length = tl at HB4 ⊢
    clear hS hSS oS hb2 hb3 hb4 hb0
    by_cases h0 : S.length = 0
    · have hd : ((S.length : Int) == 0) = true := by simp [h0]
      have H0 := Lib.hid h0
      clear h0 hfst
      go_wp2
      go_ret2
      exact ⟨by simp [winR, HL.out, HSE.out, countV, H0.out], HB4.out⟩
    · have hd : ((S.length : Int) == 0) = false := beq_eq_false_iff_ne.2 (by omega)
      have hpos : 0 < S.length := by omega
      obtain ⟨x, hx⟩ : ∃ x, at0 S 0 = x := ⟨_, rfl⟩
      obtain ⟨x0, x1⟩ := hfst hpos
      rw [hx] at x0 x1
      have H0 := Lib.hid h0
      have HX := Lib.hid hx
      have oS := HOS.out.alloc (.cells #[.int .i64 L, .int .i64 P, .slice a tl c, .slice a' S.length c'] 67)
      have hcx := at0_cell' oS.rd hpos hx
      have hi0 := rd_idxAt oS.rd und_is siz_is 0 hpos 0 rfl
      have HSR := Lib.hid oS.rd
      clear h0 hfst hx oS
      go_wp2_with fail
      go_quiet ((go_at_call 110; exact sumOf_quiet HSR.out))
      go_wp2
      go_ret2
      exact ⟨by simp [winR, HL.out, HSE.out, countV, H0.out, HX.out], HB4.out.trans (below_of_drewN _ _ _)⟩

set_option maxRecDepth 4000 in
set_option maxHeartbeats 2000000 in
theorem implBounds_any {ta sa : Option Addr} {tc sc : Nat} {ts ss : List Int} {L P t : Int} {w : World} (ht : Rd (Value.int .i64) w ta tc ts) (hs : Rd (Value.int .i64) w sa sc ss) :
    Calls Try.prog 52 #[winV L P ta ts.length tc sa ss.length sc, .int .i64 t] w fun e w' => e = .returned (.tuple #[.int .i64 (winR lowV L P ts ss t), .int .i64 (winR highV L P ts ss t), .bool (lateB L P ts ss t)]) ∧ Below w.heap.size w w' := by
  have hb0 : Below w.heap.size w (w.alloc (.cells #[.int .i64 L, .int .i64 P, .slice ta ts.length tc, .slice sa ss.length sc] 67)) := (Below.refl _ _).alloc (Nat.le_refl _) _
  have HT := Lib.hid (ht.below hb0 (Nat.le_refl _))
  have HS := Lib.hid (hs.below hb0 (Nat.le_refl _))
  have HB := Lib.hid hb0
  cases h : lateB L P ts ss t with
  | false =>
    have HL := Lib.hid h
    go_enter Try.func52, Try.ntmps52
    go_wp2_with fail
    refine (kept_no HT.out HS.out HL.out).mono ?_
    rintro e w1 ⟨rfl, hb1⟩
    have hb2 := HB.out.trans (hb1.mono HB.out.size)
    have HB2 := Lib.hid (hb2.alloc hb2.size (.cells #[.int .i64 0, .int .i64 0, .slice none 0 0, .slice none 0 0] 67))
    clear hb0 hb1 hb2
    go_wp2
    go_ret3
    exact ⟨by simp [winR, HL.out], HB2.out⟩
  | true =>
    obtain ⟨hv, t0, t1⟩ := late_parts h
    have HV := Lib.hid hv
    have HL := Lib.hid h
    clear hv h
    go_enter Try.func52, Try.ntmps52
    go_wp2_with fail
    refine (kept_yes HT.out HS.out HL.out).mono ?_
    rintro e w2 ⟨a, c, a', c', rfl, _, oS, hb2⟩
    have hb3 := HB.out.trans (hb2.mono HB.out.size)
    obtain ⟨S, hS⟩ : ∃ S, keptS ts ss (t - L) = S := ⟨_, rfl⟩
    have hSS : ss.drop (keptI ts (t - L)) = S := hS
    rw [hSS] at oS ⊢
    have hfst := fun h0 : 0 < S.length => size_first HV.out (t - L) (by rw [hS]; exact h0)
    rw [hS] at hfst
    have HSE := Lib.hid hS
    have HOS := Lib.hid oS
    have hb4 := hb3.alloc hb3.size (.cells #[.int .i64 L, .int .i64 P, .slice a (ts.drop (keptI ts (t - L))).length c, .slice a' S.length c'] 67)
    have HB4 := Lib.hid hb4
    have hmx := oS.cap.2
    have hcp := oS.cap.1
    generalize (ts.drop (keptI ts (t - L))).length = tl at HB4 ⊢
    clear hS hSS oS hb2 hb3 hb4 hb0
    by_cases h0 : S.length = 0
    · have hd : ((S.length : Int) == 0) = true := by simp [h0]
      have H0 := Lib.hid h0
      clear h0 hfst
      go_wp2
      go_ret3
      exact ⟨by simp [winR, HL.out, HSE.out, lowV, highV, H0.out], HB4.out⟩
    · have hd : ((S.length : Int) == 0) = false := beq_eq_false_iff_ne.2 (by omega)
      have hpos : 0 < S.length := by omega
      obtain ⟨x, hx⟩ : ∃ x, at0 S 0 = x := ⟨_, rfl⟩
      obtain ⟨x0, x1⟩ := hfst hpos
      rw [hx] at x0 x1
      have H0 := Lib.hid h0
      have HX := Lib.hid hx
      have oS := HOS.out.alloc (.cells #[.int .i64 L, .int .i64 P, .slice a tl c, .slice a' S.length c'] 67)
      have hcx := at0_cell' oS.rd hpos hx
      have hi0 := rd_idxAt oS.rd und_is siz_is 0 hpos 0 rfl
      have HSR := Lib.hid oS.rd
      clear h0 hfst hx oS
      go_wp2_with fail
      refine (sumOf_any HSR.out).mono ?_
      rintro e w5 ⟨rfl, rfl⟩
      go_wp2
      go_ret3
      exact ⟨by simp [winR, HL.out, HSE.out, lowV, highV, H0.out, HX.out], HB4.out⟩

end Go.Proofs.Ytbgchlllblkhiaa
