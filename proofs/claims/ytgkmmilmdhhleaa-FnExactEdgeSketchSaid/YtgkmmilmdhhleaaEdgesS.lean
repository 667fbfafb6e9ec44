/- The edges in the reference's text. -/
import Derived.Test.YtgkmmilmdhhleaaEdges
namespace Go.Proofs.Ytgkmmilmdhhleaa
open Go.RowKit

theorem l00In_quiet {x lo hi : Int} {w : World} {n : Nat} : Calls Try.prog 72 #[.int .i64 x, .int .i64 lo, .int .i64 hi] (w.drewN n) fun e w'' => e = .returned (.bool (inR x lo hi)) ∧ ∃ m, w'' = w.drewN m :=
  (l00In_any x lo hi _).mono fun _ _ ⟨he, hw⟩ => ⟨he, n, hw.symm⟩

theorem all_pairs {p : Int → Bool} {xs : List Int} (hev : xs.length % 2 = 0) (h : ∀ j, j < xs.length / 2 → p (xs[2 * j]?.getD 0) = true ∧ p (xs[2 * j + 1]?.getD 0) = true) : xs.all p = true := by
  rw [List.all_eq_true]
  intro x hx
  obtain ⟨i, hi, rfl⟩ := List.getElem_of_mem hx
  have := h (i / 2) (by omega)
  rcases Nat.mod_two_eq_zero_or_one i with e | e
  · have e2 : 2 * (i / 2) = i := by omega
    rw [e2] at this
    simpa [hi] using this.1
  · have e2 : 2 * (i / 2) + 1 = i := by omega
    rw [e2] at this
    simpa [hi] using this.2
theorem not_all {p : Int → Bool} {xs : List Int} {i : Nat} (hi : i < xs.length) (h : p (xs[i]?.getD 0) = false) : xs.all p = false := by
  rw [List.all_eq_false]
  refine ⟨xs[i], List.getElem_mem hi, ?_⟩
  simp [hi] at h
  simp [h]

set_option maxHeartbeats 1000000 in
theorem l07Edges_any {a : Option Addr} {c : Nat} {xs : List Int} {n : Int} {w : World} (hr : Rd (Value.int .i64) w a c xs) :
    Calls Try.prog 71 #[.int .i64 n, .slice a xs.length c] w fun e w' => e = .returned (.bool (edgesB n xs)) ∧ Below w.heap.size w w' := by
  have hln := hr.len
  cases h1 : inR n 2 32 with
  | false =>
    go_enter Try.func71, Try.ntmps71
    go_wp2_with fail
    refine (l00In_any _ _ _ _).mono ?_
    rintro e w1 ⟨rfl, rfl⟩
    go_wp2
    go_ret
    exact ⟨ret_bool (by simp [edgesB, h1]), Below.refl _ _⟩
  | true =>
    have hn := (inR_eq _ _ _).1 h1
    have hn1 := hn.1
    have hn2 := hn.2
    clear hn
    by_cases h2 : xs.length % 2 = 0
    · have d2 : ((xs.length : Int) % 2 != 0) = false := by simp; omega
      have H2 := Lib.hid h2
      have hev : xs.length < 2 * (xs.length / 2) + 1 := by omega
      clear h2
      by_cases h3 : xs.length ≤ 128
      · have h3' : (xs.length : Int) ≤ 128 := by omega
        have H1 := Lib.hid h1
        go_enter Try.func71, Try.ntmps71
        go_wp2_with fail
        refine (l00In_any _ _ _ _).mono ?_
        rintro e w1 ⟨rfl, rfl⟩
        go_wp2_with fail
        clear h1 d2
        have en : IntKind.i64.wrap (n - 1) = n - 1 := IntWalk.i64_in _ (by omega)
        go_loopw [5] (fun i wr => ∃ k : Nat, k ≤ xs.length / 2 ∧ i = .int .i64 ((2 * k : Nat) : Int) ∧ (∀ j, j < k → inR (xs[2 * j]?.getD 0) 0 (n - 1) = true ∧ inR (xs[2 * j + 1]?.getD 0) 0 (n - 1) = true ∧ apartB xs j = true) ∧ Below w.heap.size w wr) (fun i _ => xs.length - (intOf i).toNat)
        case atStart => exact ⟨0, Nat.zero_le _, rfl, by intro j hj; omega, Below.refl _ _⟩
        case round =>
          obtain ⟨k, hk, rfl, h0, hb⟩ := hrel
          have H0 := Lib.hid h0
          clear h0
          by_cases hlt : k < xs.length / 2
          · have hk1 : 2 * k + 1 < xs.length := by omega
            have hxr := hr.below hb (Nat.le_refl _)
            have hi0 := rd_idxAt hxr und_is siz_is (2 * k) (by omega) (2 * (k : Int)) (by omega)
            have hi1 := rd_idxAt hxr und_is siz_is (2 * k + 1) (by omega) (2 * (k : Int) + 1) (by omega)
            have hc0 := hxr.cell (2 * k) (by omega)
            have hc1 := hxr.cell (2 * k + 1) (by omega)
            have ew : IntKind.i64.wrap (2 * (k : Int) + 1) = 2 * (k : Int) + 1 := IntWalk.i64_in _ (by omega)
            obtain ⟨x, hx⟩ : ∃ s, xs[2 * k]?.getD 0 = s := ⟨_, rfl⟩
            obtain ⟨y, hy⟩ : ∃ s, xs[2 * k + 1]?.getD 0 = s := ⟨_, rfl⟩
            have hd : (default : Int) = 0 := rfl
            rw [hd, hx] at hc0
            rw [hd, hy] at hc1
            clear hd
            have HX := Lib.hid hx
            have HY := Lib.hid hy
            clear hx hy
            cases hix : inR x 0 (n - 1) with
            | false =>
              have HA : Hid (edgesB n xs = false) := by show _ = _; unfold edgesB; rw [not_all (p := fun x => inR x 0 (n - 1)) (i := 2 * k) (by omega) (by rw [HX.out]; exact hix)]; simp
              go_wp2_with fail
              go_quiet ((go_at_call 72; exact l00In_quiet))
              go_wp2
              go_ret
              exact ⟨ret_bool (by rw [HA.out]), hb.trans (below_of_drewN _ _ _)⟩
            | true =>
              cases hiy : inR y 0 (n - 1) with
              | false =>
                have HA : Hid (edgesB n xs = false) := by show _ = _; unfold edgesB; rw [not_all (p := fun x => inR x 0 (n - 1)) (i := 2 * k + 1) (by omega) (by rw [HY.out]; exact hiy)]; simp
                go_wp2_with fail
                go_quiet ((go_at_call 72; exact l00In_quiet))
                go_wp2
                go_ret
                exact ⟨ret_bool (by rw [HA.out]), hb.trans (below_of_drewN _ _ _)⟩
              | true =>
                have HP : Hid (apartB xs k = (x != y)) := by show _ = _; simp [apartB, HX.out, HY.out]
                by_cases hxy : x = y
                · have d3 : (x == y) = true := by simp [hxy]
                  have HA : Hid (edgesB n xs = false) := by show _ = _; unfold edgesB; rw [apart_not hlt (by rw [HP.out, hxy]; simp)]; simp
                  clear hxy
                  go_wp2_with fail
                  go_quiet ((go_at_call 72; exact l00In_quiet))
                  go_wp2
                  go_ret
                  exact ⟨ret_bool (by rw [HA.out]), hb.trans (below_of_drewN _ _ _)⟩
                · have d3 : (x == y) = false := by simp [hxy]
                  have HXY := Lib.hid hxy
                  have HIX := Lib.hid hix
                  have HIY := Lib.hid hiy
                  clear hxy
                  go_wp2_with fail
                  go_quiet ((go_at_call 72; exact l00In_quiet))
                  go_wp2
                  go_roundw
                  case rel => exact ⟨k + 1, by omega, by go_num, by
                    intro j hj
                    by_cases e : j = k
                    · rw [e, HP.out, HX.out, HY.out]; exact ⟨HIX.out, HIY.out, by simpa using HXY.out⟩
                    · exact H0.out j (by omega), hb.trans (below_of_drewN _ _ _)⟩
                  case measure => simp [intOf]; omega
          · have hkk : k = xs.length / 2 := by omega
            have hge : (xs.length : Int) ≤ ((2 * k : Nat) : Int) := by omega
            have HK := Lib.hid hkk
            clear hkk
            go_wp2
            go_ret
            refine ⟨ret_bool ?_, hb⟩
            have h4 : ∀ j, j < xs.length / 2 → inR (xs[2 * j]?.getD 0) 0 (n - 1) = true ∧ inR (xs[2 * j + 1]?.getD 0) 0 (n - 1) = true ∧ apartB xs j = true := by rw [← HK.out]; exact H0.out
            have h5 := apart_all (xs := xs) (fun j hj => (h4 j hj).2.2)
            have h6 := all_pairs (p := fun x => inR x 0 (n - 1)) H2.out (fun j hj => ⟨(h4 j hj).1, (h4 j hj).2.1⟩)
            have h7 := H2.out
            unfold edgesB
            rw [H1.out, h5, h6, h7]
            simp [h3]
      · have h3' : (128 : Int) < (xs.length : Int) := by omega
        go_enter Try.func71, Try.ntmps71
        go_wp2_with fail
        refine (l00In_any _ _ _ _).mono ?_
        rintro e w1 ⟨rfl, rfl⟩
        go_wp2
        go_ret
        exact ⟨ret_bool (by simp [edgesB, h3]), Below.refl _ _⟩
    · have d2 : ((xs.length : Int) % 2 != 0) = true := by simp; omega
      have H2 := Lib.hid h2
      clear h2
      go_enter Try.func71, Try.ntmps71
      go_wp2_with fail
      refine (l00In_any _ _ _ _).mono ?_
      rintro e w1 ⟨rfl, rfl⟩
      go_wp2
      go_ret
      exact ⟨ret_bool (by have := H2.out; simp [edgesB, this]), Below.refl _ _⟩

end Go.Proofs.Ytgkmmilmdhhleaa
