/- slices.SortStableFunc at []int64: a part turned. -/
import Derived.Test.YtihbckoldblpcaaStbR
namespace Go.Proofs.Ytihbckoldblpcaa
open Go.RowKit

set_option maxRecDepth 8000 in
set_option maxHeartbeats 2000000 in
theorem rotate_own {f : Value} {val : Int → Int} {w : World} {base : Nat} {a : Option Addr} {c : Nat} {ts A X Y B : List Int} {lo m hi : Nat}
    (ho : Own (vI val) 2 w base a c ts) (hn : ts.length ≤ 1048576) (he : ts = A ++ X ++ Y ++ B) (hA : A.length = lo) (hX : lo + X.length = m) (hY : m + Y.length = hi) (h1 : lo < m) (h2 : m < hi) :
    Calls Try.prog 172 #[.slice a ts.length c, .int .i64 lo, .int .i64 m, .int .i64 hi, f] w fun e w' =>
      e = .returned (.tuple #[]) ∧ Own (vI val) 2 w' base a c (A ++ Y ++ X ++ B) ∧ w.grownBy w' (a.map (·.block)) := by
  obtain ⟨n, hnn⟩ : ∃ n, ts.length = n := ⟨_, rfl⟩
  obtain ⟨us, hus⟩ : ∃ us, us = A ++ Y ++ X ++ B := ⟨_, rfl⟩
  have hul : us.length = n := by rw [hus, ← hnn, he]; simp; omega
  have hhn : hi ≤ n := by rw [← hnn, he]; simp; omega
  have HE := Lib.hid (show ∃ A' X' Y' B', ts = A' ++ X' ++ Y' ++ B' ∧ A'.length + X'.length = m ∧ X'.length = m - lo ∧ Y'.length = hi - m ∧ A' ++ Y' ++ X' ++ B' = us from ⟨A, X, Y, B, he, by omega, by omega, by omega, hus.symm⟩)
  have HO := Lib.hid ho
  have HN := Lib.hid hnn
  rw [hnn] at hn ⊢
  rw [← hus]
  clear ho he hA hX hY hnn hus
  have ew1 : IntKind.i64.wrap ((m : Int) - lo) = ((m - lo : Nat) : Int) := by rw [IntWalk.i64_in _ (by omega)]; omega
  have ew2 : IntKind.i64.wrap ((hi : Int) - m) = ((hi - m : Nat) : Int) := by rw [IntWalk.i64_in _ (by omega)]; omega
  go_enter Try.func172, Try.ntmps172
  go_wp2
  go_loopg [10, 11] (hi - lo) (fun g1 vi vj wr => ∃ (i j : Nat) (cs : List Int), vi = .int .i64 i ∧ vj = .int .i64 j ∧ 0 < i ∧ 0 < j ∧ i ≤ m ∧ m + j ≤ n ∧ i + j ≤ g1 ∧ Hid (cs.length = n) ∧ Hid (∃ A' X' Y' B', cs = A' ++ X' ++ Y' ++ B' ∧ A'.length + X'.length = m ∧ X'.length = i ∧ Y'.length = j ∧ A' ++ Y' ++ X' ++ B' = us) ∧ Own (vI val) 2 wr base a c cs ∧ w.grownBy wr (a.map (·.block)))
  case atStart => exact ⟨m - lo, hi - m, ts, rfl, rfl, by omega, by omega, by omega, by omega, by omega, HN, HE, HO.out, grown_refl _ _⟩
  case round =>
    obtain ⟨i, j, cs, rfl, rfl, hi0, hj0, him, hjn, hg1, HL, HS, ho, hg⟩ := hrel
    have HOC := Lib.hid ho
    have HG := Lib.hid hg
    clear ho hg
    by_cases hij : i = j
    · have hne : ((i : Int) != (j : Int)) = false := by simp; omega
      have hC : Calls Try.prog 174 #[.slice a n c, .int .i64 ((m - i : Nat) : Int), .int .i64 m, .int .i64 i, f] wr fun e w' =>
          e = .returned (.tuple #[]) ∧ Own (vI val) 2 w' base a c us ∧ wr.grownBy w' (a.map (·.block)) := by
        obtain ⟨A', X', Y', B', hcs, h3, h4, h5, h6⟩ := HS.out
        have := swapR_own (f := f) (P := X') (Q := []) (R := Y') (A := A') (B := B') (lo := m - i) (hi := m) (n := i) HOC.out (by rw [HL.out]; exact hn) (by rw [hcs]; simp) h4 (by omega) (by omega) (by simp; omega)
        rw [HL.out] at this
        refine this.mono ?_
        rintro e w' ⟨rfl, h7, h8⟩
        exact ⟨rfl, h7.cast (by rw [← h6]; simp), h8⟩
      have HC := Lib.hid hC
      have ew3 : IntKind.i64.wrap ((m : Int) - i) = ((m - i : Nat) : Int) := by rw [IntWalk.i64_in _ (by omega)]; omega
      clear hC
      subst hij
      go_wp2_with fail
      refine HC.out.mono ?_
      rintro e w1 ⟨rfl, ho1, hg1'⟩
      have HO1 := Lib.hid ho1
      have HG1 := Lib.hid (grown_trans HG.out hg1')
      clear ho1 hg1'
      go_wp2
      go_end0
      exact ⟨rfl, HO1.out, HG1.out⟩
    · have hne : ((i : Int) != (j : Int)) = true := by simp; omega
      by_cases hgt : j < i
      · have hd : (decide ((j : Int) < (i : Int))) = true := decide_eq_true (by omega)
        have hC : Calls Try.prog 174 #[.slice a n c, .int .i64 ((m - i : Nat) : Int), .int .i64 m, .int .i64 j, f] wr fun e w' =>
            e = .returned (.tuple #[]) ∧ ∃ ds, Own (vI val) 2 w' base a c ds ∧ wr.grownBy w' (a.map (·.block)) ∧ ds.length = n ∧ ∃ A' X' Y' B', ds = A' ++ X' ++ Y' ++ B' ∧ A'.length + X'.length = m ∧ X'.length = i - j ∧ Y'.length = j ∧ A' ++ Y' ++ X' ++ B' = us := by
          obtain ⟨A', X', Y', B', hcs, h3, h4, h5, h6⟩ := HS.out
          have hx := List.take_append_drop j X'
          have l1 : (X'.take j).length = j := by simp; omega
          have l2 : (X'.drop j).length = i - j := by simp; omega
          generalize X'.take j = X1 at hx l1
          generalize X'.drop j = X2 at hx l2
          subst hx
          have := swapR_own (f := f) (P := X1) (Q := X2) (R := Y') (A := A') (B := B') (lo := m - i) (hi := m) (n := j) HOC.out (by rw [HL.out]; exact hn) (by rw [hcs]; simp) l1 h5 (by omega) (by omega)
          rw [HL.out] at this
          refine this.mono ?_
          rintro e w' ⟨rfl, h7, h8⟩
          refine ⟨rfl, _, h7, h8, ?_, A' ++ Y', X2, X1, B', rfl, by simp; omega, l2, l1, by rw [← h6]; simp⟩
          rw [← HL.out, hcs]; simp; omega
        have HC := Lib.hid hC
        have ew3 : IntKind.i64.wrap ((m : Int) - i) = ((m - i : Nat) : Int) := by rw [IntWalk.i64_in _ (by omega)]; omega
        have ew4 : IntKind.i64.wrap ((i : Int) - j) = ((i - j : Nat) : Int) := by rw [IntWalk.i64_in _ (by omega)]; omega
        clear hC
        go_wp2_with fail
        refine HC.out.mono ?_
        rintro e w1 ⟨rfl, ds, ho1, hg1', hl1, hs1⟩
        have HO1 := Lib.hid ho1
        have HG1 := Lib.hid (grown_trans HG.out hg1')
        have HL1 := Lib.hid hl1
        have HS1 := Lib.hid hs1
        clear ho1 hg1' hl1 hs1 HC HS
        go_wp2
        go_roundg i
        case measure => omega
        case rel => exact ⟨i - j, j, ds, rfl, rfl, by omega, by omega, by omega, by omega, by omega, HL1, HS1, HO1.out, HG1.out⟩
      · have hd : (decide ((j : Int) < (i : Int))) = false := decide_eq_false (by omega)
        have hC : Calls Try.prog 174 #[.slice a n c, .int .i64 ((m - i : Nat) : Int), .int .i64 ((m + j - i : Nat) : Int), .int .i64 i, f] wr fun e w' =>
            e = .returned (.tuple #[]) ∧ ∃ ds, Own (vI val) 2 w' base a c ds ∧ wr.grownBy w' (a.map (·.block)) ∧ ds.length = n ∧ ∃ A' X' Y' B', ds = A' ++ X' ++ Y' ++ B' ∧ A'.length + X'.length = m ∧ X'.length = i ∧ Y'.length = j - i ∧ A' ++ Y' ++ X' ++ B' = us := by
          obtain ⟨A', X', Y', B', hcs, h3, h4, h5, h6⟩ := HS.out
          have hx := List.take_append_drop (j - i) Y'
          have l1 : (Y'.take (j - i)).length = j - i := by simp; omega
          have l2 : (Y'.drop (j - i)).length = i := by simp; omega
          generalize Y'.take (j - i) = Y1 at hx l1
          generalize Y'.drop (j - i) = Y2 at hx l2
          subst hx
          have := swapR_own (f := f) (P := X') (Q := Y1) (R := Y2) (A := A') (B := B') (lo := m - i) (hi := m + j - i) (n := i) HOC.out (by rw [HL.out]; exact hn) (by rw [hcs]; simp) h4 l2 (by omega) (by omega)
          rw [HL.out] at this
          refine this.mono ?_
          rintro e w' ⟨rfl, h7, h8⟩
          refine ⟨rfl, _, h7, h8, ?_, A', Y2, Y1, X' ++ B', by simp, by omega, l2, l1, by rw [← h6]; simp⟩
          rw [← HL.out, hcs]; simp; omega
        have HC := Lib.hid hC
        have ew3 : IntKind.i64.wrap ((m : Int) - i) = ((m - i : Nat) : Int) := by rw [IntWalk.i64_in _ (by omega)]; omega
        have ew5 : IntKind.i64.wrap ((m : Int) + j) = (m : Int) + j := IntWalk.i64_in _ (by omega)
        have ew6 : IntKind.i64.wrap ((m : Int) + j - i) = ((m + j - i : Nat) : Int) := by rw [IntWalk.i64_in _ (by omega)]; omega
        have ew4 : IntKind.i64.wrap ((j : Int) - i) = ((j - i : Nat) : Int) := by rw [IntWalk.i64_in _ (by omega)]; omega
        clear hC
        go_wp2_with fail
        refine HC.out.mono ?_
        rintro e w1 ⟨rfl, ds, ho1, hg1', hl1, hs1⟩
        have HO1 := Lib.hid ho1
        have HG1 := Lib.hid (grown_trans HG.out hg1')
        have HL1 := Lib.hid hl1
        have HS1 := Lib.hid hs1
        clear ho1 hg1' hl1 hs1 HC HS
        go_wp2
        go_roundg j
        case measure => omega
        case rel => exact ⟨i, j - i, ds, rfl, rfl, by omega, by omega, by omega, by omega, by omega, HL1, HS1, HO1.out, HG1.out⟩

end Go.Proofs.Ytihbckoldblpcaa
