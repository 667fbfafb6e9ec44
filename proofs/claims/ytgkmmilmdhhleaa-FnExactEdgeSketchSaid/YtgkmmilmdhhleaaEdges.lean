/- areEdges, in both texts. -/
import Derived.Test.YtgkmmilmdhhleaaWith
namespace Go.Proofs.Ytgkmmilmdhhleaa
open Go.RowKit

/-- The two ends of edge j differ. -/
def apartB (xs : List Int) (j : Nat) : Bool := xs[2 * j]?.getD 0 != xs[2 * j + 1]?.getD 0
def edgesB (n : Int) (xs : List Int) : Bool :=
  inR n 2 32 && decide (xs.length % 2 = 0) && decide (xs.length ≤ 128) && xs.all (fun x => inR x 0 (n - 1)) && (List.range (xs.length / 2)).all (apartB xs)

theorem apart_all {xs : List Int} (h : ∀ j, j < xs.length / 2 → apartB xs j = true) : (List.range (xs.length / 2)).all (apartB xs) = true := by
  rw [List.all_eq_true]; intro j hj; exact h j (by simpa using hj)
theorem apart_not {xs : List Int} {j : Nat} (hj : j < xs.length / 2) (h : apartB xs j = false) : (List.range (xs.length / 2)).all (apartB xs) = false := by
  rw [List.all_eq_false]; exact ⟨j, by simpa using hj, by simp [h]⟩

set_option maxHeartbeats 1000000 in
theorem areEdges_any {a : Option Addr} {c : Nat} {xs : List Int} {n : Int} {w : World} (hr : Rd (Value.int .i64) w a c xs) :
    Calls Try.prog 77 #[.int .i64 n, .slice a xs.length c] w fun e w' => e = .returned (.bool (edgesB n xs)) ∧ Below w.heap.size w w' := by
  have hln := hr.len
  cases h1 : inR n 2 32 with
  | false =>
    go_enter Try.func77, Try.ntmps77
    go_wp2_with fail
    refine (within_any _ _ _ _).mono ?_
    rintro e w1 ⟨rfl, rfl⟩
    go_wp2
    go_ret
    exact ⟨ret_bool (by simp [edgesB, h1]), Below.refl _ _⟩
  | true =>
    have hn := (inR_eq _ _ _).1 h1
    have hn1 := hn.1
    have hn2 := hn.2
    clear hn
    by_cases h2 : xs.length % 2 = 0
    · have d2 : ((xs.length : Int) % 2 != 0) = false := by simp; omega
      have H2 := Lib.hid h2
      have hev : xs.length < 2 * (xs.length / 2) + 1 := by omega
      clear h2
      by_cases h3 : xs.length ≤ 128
      · have h3' : (xs.length : Int) ≤ 128 := by omega
        cases h4 : xs.all (fun x => inR x 0 (n - 1)) with
        | false =>
          go_enter Try.func77, Try.ntmps77
          go_wp2_with fail
          refine (within_any _ _ _ _).mono ?_
          rintro e w1 ⟨rfl, rfl⟩
          go_wp2_with fail
          refine (areWithin_any a c xs _ _ _ hr).mono ?_
          rintro e w2 ⟨rfl, hb2⟩
          rw [h4]
          go_wp2
          go_ret
          exact ⟨ret_bool (by simp only [edgesB, h4]; simp), hb2⟩
        | true =>
          have H4 := Lib.hid h4
          have H1 := Lib.hid h1
          go_enter Try.func77, Try.ntmps77
          go_wp2_with fail
          refine (within_any _ _ _ _).mono ?_
          rintro e w1 ⟨rfl, rfl⟩
          go_wp2_with fail
          refine (areWithin_any a c xs _ _ _ hr).mono ?_
          rintro e w2 ⟨rfl, hb2⟩
          rw [h4]
          clear h4
          go_wp2_with fail
          clear h1 d2
          go_loopw [5] (fun i wr => ∃ k : Nat, k ≤ xs.length / 2 ∧ i = .int .i64 ((2 * k : Nat) : Int) ∧ (∀ j, j < k → apartB xs j = true) ∧ Below w.heap.size w wr) (fun i _ => xs.length - (intOf i).toNat)
          case atStart => exact ⟨0, Nat.zero_le _, rfl, by intro j hj; omega, hb2⟩
          case round =>
            obtain ⟨k, hk, rfl, h0, hb⟩ := hrel
            have H0 := Lib.hid h0
            clear h0 hb2
            by_cases hlt : k < xs.length / 2
            · have hk1 : 2 * k + 1 < xs.length := by omega
              have hxr := hr.below hb (Nat.le_refl _)
              have hi0 := rd_idxAt hxr und_is siz_is (2 * k) (by omega) (2 * (k : Int)) (by omega)
              have hi1 := rd_idxAt hxr und_is siz_is (2 * k + 1) (by omega) (2 * (k : Int) + 1) (by omega)
              have hc0 := hxr.cell (2 * k) (by omega)
              have hc1 := hxr.cell (2 * k + 1) (by omega)
              have ew : IntKind.i64.wrap (2 * (k : Int) + 1) = 2 * (k : Int) + 1 := IntWalk.i64_in _ (by omega)
              obtain ⟨x, hx⟩ : ∃ s, xs[2 * k]?.getD 0 = s := ⟨_, rfl⟩
              obtain ⟨y, hy⟩ : ∃ s, xs[2 * k + 1]?.getD 0 = s := ⟨_, rfl⟩
              have hd : (default : Int) = 0 := rfl
              rw [hd, hx] at hc0
              rw [hd, hy] at hc1
              clear hd
              have HA : Hid (apartB xs k = (x != y)) := by show _ = _; simp [apartB, hx, hy]
              clear hx hy
              by_cases hxy : x = y
              · have d3 : (x == y) = true := by simp [hxy]
                have HX := Lib.hid hxy
                clear hxy
                go_wp2_with fail
                go_quiet (fail)
                go_wp2
                go_ret
                refine ⟨ret_bool ?_, hb.trans (below_of_drewN _ _ _)⟩
                have := apart_not hlt (by rw [HA.out, HX.out]; simp)
                simp [edgesB, this]
              · have d3 : (x == y) = false := by simp [hxy]
                have HX := Lib.hid hxy
                clear hxy
                go_wp2_with fail
                go_quiet (fail)
                go_wp2
                go_roundw
                case rel => exact ⟨k + 1, by omega, by go_num, by
                  intro j hj
                  by_cases e : j = k
                  · rw [e, HA.out]; simpa using HX.out
                  · exact H0.out j (by omega), hb.trans (below_of_drewN _ _ _)⟩
                case measure => simp [intOf]; omega
            · have hkk : k = xs.length / 2 := by omega
              have hge : (xs.length : Int) ≤ ((2 * k : Nat) : Int) := by omega
              have HK := Lib.hid hkk
              clear hkk
              go_wp2
              go_ret
              refine ⟨ret_bool ?_, hb⟩
              have h5 := apart_all (xs := xs) (by rw [← HK.out]; exact H0.out)
              have h6 := H4.out
              have h7 := H2.out
              simp only [edgesB, H1.out, h5, h6, h7]
              simp [h3]
      · have h3' : (128 : Int) < (xs.length : Int) := by omega
        go_enter Try.func77, Try.ntmps77
        go_wp2_with fail
        refine (within_any _ _ _ _).mono ?_
        rintro e w1 ⟨rfl, rfl⟩
        go_wp2
        go_ret
        exact ⟨ret_bool (by simp [edgesB, h3]), Below.refl _ _⟩
    · have d2 : ((xs.length : Int) % 2 != 0) = true := by simp; omega
      have H2 := Lib.hid h2
      clear h2
      go_enter Try.func77, Try.ntmps77
      go_wp2_with fail
      refine (within_any _ _ _ _).mono ?_
      rintro e w1 ⟨rfl, rfl⟩
      go_wp2
      go_ret
      exact ⟨ret_bool (by have := H2.out; simp [edgesB, this]), Below.refl _ _⟩

end Go.Proofs.Ytgkmmilmdhhleaa
