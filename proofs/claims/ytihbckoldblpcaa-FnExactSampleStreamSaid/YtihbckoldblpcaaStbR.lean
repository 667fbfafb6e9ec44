/- slices.SortStableFunc at []int64: two ranges exchanged, a part turned. -/
import Derived.Test.YtihbckoldblpcaaStbW
namespace Go.Proofs.Ytihbckoldblpcaa
open Go.RowKit

/-- After k exchanges. -/
def exch (A P Q R B : List Int) (k : Nat) : List Int := A ++ (R.take k ++ P.drop k) ++ Q ++ (P.take k ++ R.drop k) ++ B
theorem exch_zero (A P Q R B : List Int) : exch A P Q R B 0 = A ++ P ++ Q ++ R ++ B := by simp [exch]
theorem exch_all {A P Q R B : List Int} {n : Nat} (hP : P.length = n) (hR : R.length = n) : exch A P Q R B n = A ++ R ++ Q ++ P ++ B := by
  unfold exch
  rw [List.take_of_length_le (by omega), List.take_of_length_le (by omega), List.drop_eq_nil_of_le (by omega), List.drop_eq_nil_of_le (by omega)]
  simp
theorem exch_len {A P Q R B : List Int} {n k : Nat} (hP : P.length = n) (hR : R.length = n) : (exch A P Q R B k).length = (A ++ P ++ Q ++ R ++ B).length := by
  unfold exch
  simp [List.length_append, List.length_take, List.length_drop]
  omega
theorem exch_at {A P Q R B : List Int} {n k : Nat} (hP : P.length = n) (hR : R.length = n) (hk : k < n) :
    at0 (exch A P Q R B k) (A.length + k) = at0 P k ∧ at0 (exch A P Q R B k) (A.length + n + Q.length + k) = at0 R k := by
  have e : exch A P Q R B k = (A ++ R.take k) ++ (P.drop k ++ (Q ++ (P.take k ++ (R.drop k ++ B)))) := by simp [exch, List.append_assoc]
  have e2 : exch A P Q R B k = (A ++ (R.take k ++ P.drop k) ++ Q ++ P.take k) ++ (R.drop k ++ B) := by simp [exch, List.append_assoc]
  constructor
  · rw [e, at0_app_r (by simp; omega)]
    have h0 : A.length + k - (A ++ R.take k).length = 0 := by simp; omega
    rw [h0, at0_app_l (by simp; omega)]
    unfold at0
    rw [List.getElem?_drop]; rfl
  · rw [e2, at0_app_r (by simp; omega)]
    have h0 : A.length + n + Q.length + k - (A ++ (R.take k ++ P.drop k) ++ Q ++ P.take k).length = 0 := by simp; omega
    rw [h0, at0_app_l (by simp; omega)]
    unfold at0
    rw [List.getElem?_drop]; rfl
theorem exch_step {A P Q R B : List Int} {n k : Nat} (hP : P.length = n) (hR : R.length = n) (hk : k < n) {x y : Int} (hx : at0 P k = x) (hy : at0 R k = y) :
    ((exch A P Q R B k).set (A.length + k) y).set (A.length + n + Q.length + k) x = exch A P Q R B (k + 1) := by
  have hPk : P.drop k = x :: P.drop (k + 1) := by
    rw [List.drop_eq_getElem_cons (by omega)]
    have : P[k] = x := by rw [← hx]; simp [at0, show k < P.length by omega]
    rw [this]
  have hRk : R.drop k = y :: R.drop (k + 1) := by
    rw [List.drop_eq_getElem_cons (by omega)]
    have : R[k] = y := by rw [← hy]; simp [at0, show k < R.length by omega]
    rw [this]
  have hPt : P.take (k + 1) = P.take k ++ [x] := by
    rw [List.take_add_one]
    have : P[k]? = some x := by rw [← hx]; simp [at0, show k < P.length by omega]
    rw [this]; rfl
  have hRt : R.take (k + 1) = R.take k ++ [y] := by
    rw [List.take_add_one]
    have : R[k]? = some y := by rw [← hy]; simp [at0, show k < R.length by omega]
    rw [this]; rfl
  have e : exch A P Q R B k = (A ++ R.take k) ++ (x :: (P.drop (k + 1) ++ (Q ++ (P.take k ++ (y :: (R.drop (k + 1) ++ B)))))) := by
    simp [exch, List.append_assoc, hPk, hRk]
  rw [e, List.set_append_right _ _ (by simp; omega)]
  have h0 : A.length + k - (A ++ R.take k).length = 0 := by simp; omega
  rw [h0, List.set_cons_zero]
  have e2 : (A ++ R.take k) ++ (y :: (P.drop (k + 1) ++ (Q ++ (P.take k ++ (y :: (R.drop (k + 1) ++ B)))))) = (A ++ (R.take k ++ (y :: P.drop (k + 1))) ++ Q ++ P.take k) ++ (y :: (R.drop (k + 1) ++ B)) := by simp [List.append_assoc]
  rw [e2, List.set_append_right _ _ (by simp; omega)]
  have h1 : A.length + n + Q.length + k - (A ++ (R.take k ++ (y :: P.drop (k + 1))) ++ Q ++ P.take k).length = 0 := by simp; omega
  rw [h1, List.set_cons_zero]
  simp [exch, List.append_assoc, hPt, hRt]

set_option maxRecDepth 8000 in
set_option maxHeartbeats 2000000 in
theorem swapR_own {f : Value} {val : Int → Int} {w : World} {base : Nat} {a : Option Addr} {c : Nat} {ts A P Q R B : List Int} {lo hi n : Nat}
    (ho : Own (vI val) 2 w base a c ts) (hn : ts.length ≤ 1048576) (he : ts = A ++ P ++ Q ++ R ++ B) (hP : P.length = n) (hR : R.length = n) (hA : A.length = lo) (hQ : lo + n + Q.length = hi) :
    Calls Try.prog 174 #[.slice a ts.length c, .int .i64 lo, .int .i64 hi, .int .i64 n, f] w fun e w' =>
      e = .returned (.tuple #[]) ∧ Own (vI val) 2 w' base a c (A ++ R ++ Q ++ P ++ B) ∧ w.grownBy w' (a.map (·.block)) := by
  obtain ⟨m, hm⟩ : ∃ m, ts.length = m := ⟨_, rfl⟩
  have hlen : ∀ k, (exch A P Q R B k).length = m := fun k => by rw [exch_len hP hR, ← he, hm]
  have hlm : hi + n ≤ m := by rw [← hm, he]; simp; omega
  have hlh : lo + n ≤ hi := by omega
  have HE := Lib.hid (And.intro (And.intro hP hR) (And.intro hA hQ))
  have HO : Hid (Own (vI val) 2 w base a c (exch A P Q R B 0)) := Lib.hid (ho.cast (by rw [exch_zero, he]))
  have HL := Lib.hid hlen
  rw [hm] at hn ⊢
  clear ho he hP hR hA hQ hm hlen
  go_enter Try.func174, Try.ntmps174
  go_wp2
  go_loopg [10] n (fun g1 vi wr => ∃ k : Nat, vi = .int .i64 k ∧ k ≤ n ∧ n - k ≤ g1 ∧ Own (vI val) 2 wr base a c (exch A P Q R B k) ∧ w.grownBy wr (a.map (·.block)))
  case atStart => exact ⟨0, rfl, by omega, by omega, HO.out, grown_refl _ _⟩
  case round =>
    obtain ⟨k, rfl, hk, hg1, ho, hg⟩ := hrel
    by_cases hlt : k < n
    · have hltz : (k : Int) < (n : Int) := by omega
      obtain ⟨wk, hwk⟩ : ∃ wi : World, wi = wr := ⟨_, rfl⟩
      rw [← hwk]
      rw [← hwk] at ho hg
      have hat := exch_at (A := A) (Q := Q) (B := B) HE.out.1.1 HE.out.1.2 hlt
      obtain ⟨x, hx⟩ : ∃ x, at0 P k = x := ⟨_, rfl⟩
      obtain ⟨y, hy⟩ : ∃ x, at0 R k = x := ⟨_, rfl⟩
      have hst := exch_step (A := A) (Q := Q) (B := B) HE.out.1.1 HE.out.1.2 hlt hx hy
      rw [HE.out.2.1] at hat hst
      rw [HE.out.2.2] at hat hst
      rw [hx, hy] at hat
      have hixk := ownI_idx ho und_is siz_is (lo + k) (by rw [HL.out]; omega) ((lo : Int) + k) (by omega)
      have hixp := ownI_idx ho und_is siz_is (hi + k) (by rw [HL.out]; omega) ((hi : Int) + k) (by omega)
      rw [HL.out] at hixk hixp
      have ew1 : IntKind.i64.wrap ((lo : Int) + k) = (lo : Int) + k := IntWalk.i64_in _ (by omega)
      have ew2 : IntKind.i64.wrap ((hi : Int) + k) = (hi : Int) + k := IntWalk.i64_in _ (by omega)
      have hck := ownI_cell ho (p := lo + k) (by rw [HL.out]; omega) hat.1
      have hcp := ownI_cell ho (p := hi + k) (by rw [HL.out]; omega) hat.2
      have hsw := swp2_of ho (p := lo + k) (q := hi + k) (by rw [HL.out]; omega) (by rw [HL.out]; omega) hst
      have hfk := hsw.fp
      obtain ⟨v2, hcp2⟩ := hsw.c2
      have hfp2 := hsw.fq
      have HSW := Lib.hid hsw.own
      have HGW2 := Lib.hid (grown_trans hg hsw.grown)
      clear hsw ho hg hat hst hwk hx hy
      go_wp2_with fail
      go_region
      all_goals go_wp2
      go_roundg (n - (k + 1))
      case measure => omega
      case rel => exact ⟨k + 1, by go_num, by omega, Nat.le_refl _, HSW.out, HGW2.out⟩
    · have hltz : ¬ (k : Int) < (n : Int) := by omega
      have HOK := Lib.hid ho
      have HG := Lib.hid hg
      obtain rfl : k = n := by omega
      clear ho hg
      go_wp2
      go_end0
      exact ⟨rfl, HOK.out.cast (by rw [exch_all HE.out.1.1 HE.out.1.2]; simp), HG.out⟩

end Go.Proofs.Ytihbckoldblpcaa
