/- EdgeIn: both texts tell the first level at which there is an edge. -/
import Derived.Test.YtfecdmenliohhaaQFo10
set_option linter.unusedVariables false
set_option linter.unusedSimpArgs false
namespace Go.Proofs.Ytfecdmenliohhaa
open Go.RowKit

/-- The edge of level l, if there is one. -/
def edgeAt (xs : List Int) (n : Int) (l : Nat) : Option (Int × Int) :=
  let s := xs[3 * l]?.getD 0
  let t := xs[3 * l + 1]?.getD 0
  let u := xs[3 * l + 2]?.getD 0
  if (s = 1 ∨ s = -1) ∧ 0 ≤ t * s ∧ t * s < n * n ∧ t * s / n < t * s % n ∧ u * s = t * t then some (t * s / n, t * s % n) else none

def edgeOf (xs : List Int) (n : Int) : Option (Int × Int) := (List.range 16).findSome? (edgeAt xs n)

theorem edgeOf_some {xs : List Int} {n : Int} {l : Nat} {r : Int × Int} (hl : l < 16) (h0 : ∀ j, j < l → edgeAt xs n j = none) (h : edgeAt xs n l = some r) : edgeOf xs n = some r := by
  unfold edgeOf
  rw [List.findSome?_eq_some_iff]
  refine ⟨List.range l, l, (List.range' (l + 1) (15 - l)), ?_, h, ?_⟩
  · rw [List.range_eq_range', List.range_eq_range']
    have : List.range' 0 16 = List.range' 0 (l + (1 + (15 - l))) := by congr 1; omega
    rw [this, List.range'_append.symm]
    simp [List.range'_succ, Nat.add_comm 1]
  · intro x hx; exact h0 x (by simpa using hx)
theorem edgeOf_none {xs : List Int} {n : Int} (h0 : ∀ j, j < 16 → edgeAt xs n j = none) : edgeOf xs n = none := by
  unfold edgeOf
  rw [List.findSome?_eq_none_iff]
  intro x hx; exact h0 x (by simpa using hx)

/-- Two numbers and whether there is an edge. -/
def edgeV (r : Option (Int × Int)) : Value := match r with
  | some (a, b) => .tuple #[.int .i64 a, .int .i64 b, .bool true]
  | none => .tuple #[.int .i64 0, .int .i64 0, .bool false]

def edgeIn (xs : List Int) (n : Int) : Option (Int × Int) := if sums xs && inR n 2 32 then edgeOf xs n else none

/-- What is known of a level's three numbers. -/
theorem sums_lvl {xs : List Int} (h : sums xs = true) {l : Nat} (hl : l < 16) : 3 * l + 2 < xs.length ∧ -1000000000000 ≤ xs[3 * l]?.getD 0 ∧ xs[3 * l]?.getD 0 ≤ 1000000000000 ∧ -1000000000000 ≤ xs[3 * l + 1]?.getD 0 ∧ xs[3 * l + 1]?.getD 0 ≤ 1000000000000 ∧ -1000000000000 ≤ xs[3 * l + 2]?.getD 0 ∧ xs[3 * l + 2]?.getD 0 ≤ 1000000000000 := by
  have hlen : xs.length = 48 := by simp [sums] at h; exact h.1
  have b0 := sums_bd h (k := 3 * l) (by omega)
  have b1 := sums_bd h (k := 3 * l + 1) (by omega)
  have b2 := sums_bd h (k := 3 * l + 2) (by omega)
  rw [List.getElem?_eq_getElem (by omega), List.getElem?_eq_getElem (by omega), List.getElem?_eq_getElem (by omega)]
  simp only [Option.getD_some]
  omega

/-- What a level tells, by its sign. -/
theorem edgeAt_pos {xs : List Int} {n : Int} {l : Nat} {v u : Int} (hs : xs[3 * l]?.getD 0 = 1) (ht : xs[3 * l + 1]?.getD 0 = v) (hu : xs[3 * l + 2]?.getD 0 = u) :
    edgeAt xs n l = if 0 ≤ v ∧ v < n * n ∧ v / n < v % n ∧ u = v * v then some (v / n, v % n) else none := by
  unfold edgeAt
  simp only [hs, ht, hu]
  simp
theorem edgeAt_neg {xs : List Int} {n : Int} {l : Nat} {v u : Int} (hs : xs[3 * l]?.getD 0 = -1) (ht : xs[3 * l + 1]?.getD 0 = -v) (hu : xs[3 * l + 2]?.getD 0 = -u) :
    edgeAt xs n l = if 0 ≤ v ∧ v < n * n ∧ v / n < v % n ∧ u = v * v then some (v / n, v % n) else none := by
  unfold edgeAt
  simp only [hs, ht, hu]
  simp [Int.neg_mul_neg]
theorem edgeAt_not {xs : List Int} {n : Int} {l : Nat} (h1 : ¬ xs[3 * l]?.getD 0 = 1) (h2 : ¬ xs[3 * l]?.getD 0 = -1) : edgeAt xs n l = none := by
  unfold edgeAt
  simp [h1, h2]

theorem lt_succ_none {xs : List Int} {n : Int} {k : Nat} (h0 : ∀ j, j < k → edgeAt xs n j = none) (h : edgeAt xs n k = none) : ∀ j, j < k + 1 → edgeAt xs n j = none := by
  intro j hj
  by_cases e : j = k
  · rw [e]; exact h
  · exact h0 j (by omega)

theorem sqE_bd {n : Int} (h1 : 2 ≤ n) (h2 : n ≤ 32) : 4 ≤ n * n ∧ n * n ≤ 1024 := by
  have a : n * n ≤ 32 * 32 := Int.mul_le_mul h2 h2 (by omega) (by omega)
  have b : 2 * 2 ≤ n * n := Int.mul_le_mul h1 h1 (by omega) (by omega)
  omega
theorem sq_bd2 {v : Int} (h1 : 0 ≤ v) (h2 : v < 1024) : 0 ≤ v * v ∧ v * v ≤ 1048576 := by
  have a : v * v ≤ 1024 * 1024 := Int.mul_le_mul (by omega) (by omega) h1 (by omega)
  exact ⟨Int.mul_nonneg h1 h1, by omega⟩

set_option maxHeartbeats 2000000 in
theorem implEdgeIn_yes {a : Option Addr} {c : Nat} {xs : List Int} {n : Int} {w : World} (hr : Rd (Value.int .i64) w a c xs) (h1 : sums xs = true) (h2 : inR n 2 32 = true) :
    Calls Try.prog 14 #[.slice a xs.length c, .int .i64 n] w fun e w' => e = .returned (edgeV (edgeOf xs n)) ∧ Below w.heap.size w w' := by
  have hn := (inR_eq _ _ _).1 h2
  have hn1 := hn.1
  have hn2 := hn.2
  have hN := sqE_bd hn1 hn2
  obtain ⟨N, hNe⟩ : ∃ N, N = n * n := ⟨_, rfl⟩
  rw [← hNe] at hN
  have hN1 := hN.1
  have hN2 := hN.2
  have e1 : wrap64 (n * n) = N := by rw [IntWalk.wrap64_in]; exact hNe.symm; omega
  have HN := Lib.hid hNe
  have H1 := Lib.hid h1
  clear hn hN hNe
  go_enter Try.func14, Try.ntmps14
  go_wp2_with fail
  refine (isEdgeSketch_any a c xs _ hr).mono ?_
  rintro e w1 ⟨rfl, hb1⟩
  go_wp2_with fail
  refine (within_any _ _ _ _).mono ?_
  rintro e w2 ⟨rfl, rfl⟩
  go_wp2_with fail
  clear h1 h2
  go_loopw [7, 8, 9, 10, 11, 12, 21] (fun _ _ _ _ _ _ i wr => ∃ k : Nat, k ≤ 16 ∧ i = .int .i64 k ∧ (∀ j, j < k → edgeAt xs n j = none) ∧ Below w.heap.size w wr) (fun _ _ _ _ _ _ i _ => 16 - (intOf i).toNat)
  case atStart => exact ⟨0, Nat.zero_le _, rfl, by intro j hj; omega, hb1⟩
  case round =>
    obtain ⟨k, hk, rfl, h0, hb⟩ := hrel
    have H0 := Lib.hid h0
    clear h0 hb1
    by_cases hlt : k < 16
    · have hxr := hr.below hb (Nat.le_refl _)
      have hl := sums_lvl H1.out hlt
      have hi0 := rd_idxAt hxr und_is siz_is (3 * k) (by omega) (3 * (k : Int)) (by omega)
      have hi1 := rd_idxAt hxr und_is siz_is (3 * k + 1) (by omega) (3 * (k : Int) + 1) (by omega)
      have hi2 := rd_idxAt hxr und_is siz_is (3 * k + 2) (by omega) (3 * (k : Int) + 2) (by omega)
      have hc0 := hxr.cell (3 * k) (by omega)
      have hc1 := hxr.cell (3 * k + 1) (by omega)
      have hc2 := hxr.cell (3 * k + 2) (by omega)
      have ew1 : IntKind.i64.wrap (3 * (k : Int)) = 3 * (k : Int) := IntWalk.i64_in _ (by omega)
      have ew2 : IntKind.i64.wrap (3 * (k : Int) + 1) = 3 * (k : Int) + 1 := IntWalk.i64_in _ (by omega)
      have ew3 : IntKind.i64.wrap (3 * (k : Int) + 2) = 3 * (k : Int) + 2 := IntWalk.i64_in _ (by omega)
      obtain ⟨s, hs⟩ : ∃ s, xs[3 * k]?.getD 0 = s := ⟨_, rfl⟩
      obtain ⟨t, ht⟩ : ∃ s, xs[3 * k + 1]?.getD 0 = s := ⟨_, rfl⟩
      obtain ⟨u, hu⟩ : ∃ s, xs[3 * k + 2]?.getD 0 = s := ⟨_, rfl⟩
      have hd : (default : Int) = 0 := rfl
      rw [hd, hs] at hc0
      rw [hd, ht] at hc1
      rw [hd, hu] at hc2
      clear hd
      rw [hs, ht, hu] at hl
      obtain ⟨hl0, hs1, hs2, ht1, ht2, hu1, hu2⟩ := hl
      have HS := Lib.hid hs
      have HT := Lib.hid ht
      have HU := Lib.hid hu
      clear hs ht hu
      by_cases hs1 : s = 1 ∨ s = -1
      · rcases hs1 with rfl | rfl
        · obtain ⟨v, rfl⟩ : ∃ v, v = t := ⟨_, rfl⟩
          have HE : Hid _ := edgeAt_pos HS.out HT.out HU.out (n := n)
          clear HS HT HU
          obtain ⟨V2, hV2⟩ : ∃ V2, V2 = v * v := ⟨_, rfl⟩
          have HV2 := Lib.hid hV2
          have hn0 : 0 < n := by omega
          have hnn : 1 ≤ n := by omega
          by_cases hvr : 0 ≤ v ∧ v < N
          · have hv0 := hvr.1
            have hv1 := hvr.2
            have hV := sq_bd2 hv0 (by omega)
            rw [← hV2] at hV
            have e3 : wrap64 (v * v) = V2 := by rw [← hV2]; exact IntWalk.wrap64_in _ (by omega)
            have e4 : IntKind.i64.wrap (v * v) = V2 := by rw [← hV2]; exact IntWalk.i64_in _ (by omega)
            have e5 : wrap64 (-v * -v) = V2 := by rw [Int.neg_mul_neg]; exact e3
            have hin : inR v 0 (N - 1) = true := by rw [inR_eq]; omega
            clear hV hV2 hvr
            by_cases hq : v / n < v % n
            · by_cases hu : u = V2
              · have hu' : (u == V2) = true := by simp [hu]
                have HR : Hid (edgeAt xs n k = some (v / n, v % n)) := by show _ = _; rw [HE.out, if_pos]; exact ⟨hv0, by rw [← HN.out]; exact hv1, hq, by rw [hu]; exact HV2.out⟩
                clear hu
                go_wp2_with fail
                go_quiet (fail)
                go_wp2_with fail
                refine (within_any _ _ _ _).mono ?_
                rintro e w2 ⟨rfl, rfl⟩
                go_wp2_with fail
                go_quiet (fail)
                go_wp2
                go_ret3
                exact ⟨by rw [edgeOf_some hlt H0.out HR.out]; rfl, hb.trans (below_of_drewN _ _ _)⟩
              · have hu' : (u == V2) = false := by simp [hu]
                have HR : Hid (edgeAt xs n k = none) := by show _ = _; rw [HE.out, if_neg]; rintro ⟨_, _, _, h4⟩; exact hu (by rw [h4]; exact HV2.out.symm)
                clear hu
                go_wp2_with fail
                go_quiet (fail)
                go_wp2_with fail
                refine (within_any _ _ _ _).mono ?_
                rintro e w2 ⟨rfl, rfl⟩
                go_wp2_with fail
                go_quiet (fail)
                go_wp2
                go_roundw
                case rel => exact ⟨k + 1, by omega, by go_num, lt_succ_none H0.out HR.out, hb.trans (below_of_drewN _ _ _)⟩
                case measure => simp [intOf]; omega
            · have hq' : decide (v / n < v % n) = false := by simpa using hq
              have HR : Hid (edgeAt xs n k = none) := by show _ = _; rw [HE.out, if_neg]; rintro ⟨_, _, h4, _⟩; exact hq h4
              go_wp2_with fail
              go_quiet (fail)
              go_wp2_with fail
              refine (within_any _ _ _ _).mono ?_
              rintro e w2 ⟨rfl, rfl⟩
              go_wp2_with fail
              go_quiet (fail)
              go_wp2
              go_roundw
              case rel => exact ⟨k + 1, by omega, by go_num, lt_succ_none H0.out HR.out, hb.trans (below_of_drewN _ _ _)⟩
              case measure => simp [intOf]; omega
          · have hin : inR v 0 (N - 1) = false := by rw [Bool.eq_false_iff, Ne, inR_eq]; omega
            have HR : Hid (edgeAt xs n k = none) := by show _ = _; rw [HE.out, if_neg]; rintro ⟨h1, h2, _, _⟩; rw [← HN.out] at h2; exact hvr ⟨h1, h2⟩
            clear hvr hV2
            go_wp2_with fail
            go_quiet (fail)
            go_wp2_with fail
            refine (within_any _ _ _ _).mono ?_
            rintro e w2 ⟨rfl, rfl⟩
            go_wp2
            go_roundw
            case rel => exact ⟨k + 1, by omega, by go_num, lt_succ_none H0.out HR.out, hb.trans (below_of_drewN _ _ _)⟩
            case measure => simp [intOf]; omega
        · obtain ⟨v, rfl⟩ : ∃ v, t = -v := ⟨-t, by omega⟩
          obtain ⟨u, rfl⟩ : ∃ v, u = -v := ⟨-u, by omega⟩
          have HE : Hid _ := edgeAt_neg HS.out HT.out HU.out (n := n)
          clear HS HT HU
          obtain ⟨V2, hV2⟩ : ∃ V2, V2 = v * v := ⟨_, rfl⟩
          have HV2 := Lib.hid hV2
          have hn0 : 0 < n := by omega
          have hnn : 1 ≤ n := by omega
          by_cases hvr : 0 ≤ v ∧ v < N
          · have hv0 := hvr.1
            have hv1 := hvr.2
            have hV := sq_bd2 hv0 (by omega)
            rw [← hV2] at hV
            have e3 : wrap64 (v * v) = V2 := by rw [← hV2]; exact IntWalk.wrap64_in _ (by omega)
            have e4 : IntKind.i64.wrap (v * v) = V2 := by rw [← hV2]; exact IntWalk.i64_in _ (by omega)
            have e5 : wrap64 (-v * -v) = V2 := by rw [Int.neg_mul_neg]; exact e3
            have hin : inR v 0 (N - 1) = true := by rw [inR_eq]; omega
            clear hV hV2 hvr
            by_cases hq : v / n < v % n
            · by_cases hu : u = V2
              · have hu' : (u == V2) = true := by simp [hu]
                have HR : Hid (edgeAt xs n k = some (v / n, v % n)) := by show _ = _; rw [HE.out, if_pos]; exact ⟨hv0, by rw [← HN.out]; exact hv1, hq, by rw [hu]; exact HV2.out⟩
                clear hu
                go_wp2_with fail
                go_quiet (fail)
                go_wp2_with fail
                refine (within_any _ _ _ _).mono ?_
                rintro e w2 ⟨rfl, rfl⟩
                go_wp2_with fail
                go_quiet (fail)
                go_wp2
                go_ret3
                exact ⟨by rw [edgeOf_some hlt H0.out HR.out]; rfl, hb.trans (below_of_drewN _ _ _)⟩
              · have hu' : (u == V2) = false := by simp [hu]
                have HR : Hid (edgeAt xs n k = none) := by show _ = _; rw [HE.out, if_neg]; rintro ⟨_, _, _, h4⟩; exact hu (by rw [h4]; exact HV2.out.symm)
                clear hu
                go_wp2_with fail
                go_quiet (fail)
                go_wp2_with fail
                refine (within_any _ _ _ _).mono ?_
                rintro e w2 ⟨rfl, rfl⟩
                go_wp2_with fail
                go_quiet (fail)
                go_wp2
                go_roundw
                case rel => exact ⟨k + 1, by omega, by go_num, lt_succ_none H0.out HR.out, hb.trans (below_of_drewN _ _ _)⟩
                case measure => simp [intOf]; omega
            · have hq' : decide (v / n < v % n) = false := by simpa using hq
              have HR : Hid (edgeAt xs n k = none) := by show _ = _; rw [HE.out, if_neg]; rintro ⟨_, _, h4, _⟩; exact hq h4
              go_wp2_with fail
              go_quiet (fail)
              go_wp2_with fail
              refine (within_any _ _ _ _).mono ?_
              rintro e w2 ⟨rfl, rfl⟩
              go_wp2_with fail
              go_quiet (fail)
              go_wp2
              go_roundw
              case rel => exact ⟨k + 1, by omega, by go_num, lt_succ_none H0.out HR.out, hb.trans (below_of_drewN _ _ _)⟩
              case measure => simp [intOf]; omega
          · have hin : inR v 0 (N - 1) = false := by rw [Bool.eq_false_iff, Ne, inR_eq]; omega
            have HR : Hid (edgeAt xs n k = none) := by show _ = _; rw [HE.out, if_neg]; rintro ⟨h1, h2, _, _⟩; rw [← HN.out] at h2; exact hvr ⟨h1, h2⟩
            clear hvr hV2
            go_wp2_with fail
            go_quiet (fail)
            go_wp2_with fail
            refine (within_any _ _ _ _).mono ?_
            rintro e w2 ⟨rfl, rfl⟩
            go_wp2
            go_roundw
            case rel => exact ⟨k + 1, by omega, by go_num, lt_succ_none H0.out HR.out, hb.trans (below_of_drewN _ _ _)⟩
            case measure => simp [intOf]; omega
      · have d1 : (s != 1) = true := by simp; omega
        have d2 : (s != -1) = true := by simp; omega
        have HN : Hid (edgeAt xs n k = none) := edgeAt_not (by rw [HS.out]; omega) (by rw [HS.out]; omega)
        clear hs1 HS HT HU
        go_wp2_with fail
        go_quiet (fail)
        go_wp2
        go_roundw
        case rel => exact ⟨k + 1, by omega, by go_num, lt_succ_none H0.out HN.out, hb.trans (below_of_drewN _ _ _)⟩
        case measure => simp [intOf]; omega
    · obtain rfl : k = 16 := by omega
      go_wp2
      go_ret3
      exact ⟨by rw [edgeOf_none H0.out]; rfl, hb⟩

set_option maxHeartbeats 2000000 in
theorem specEdgeIn_yes {a : Option Addr} {c : Nat} {xs : List Int} {n : Int} {w : World} (hr : Rd (Value.int .i64) w a c xs) (h1 : sums xs = true) (h2 : inR n 2 32 = true) :
    Calls Try.prog 15 #[.slice a xs.length c, .int .i64 n] w fun e w' => e = .returned (edgeV (edgeOf xs n)) ∧ Below w.heap.size w w' := by
  have hn := (inR_eq _ _ _).1 h2
  have hn1 := hn.1
  have hn2 := hn.2
  have hN := sqE_bd hn1 hn2
  obtain ⟨N, hNe⟩ : ∃ N, N = n * n := ⟨_, rfl⟩
  rw [← hNe] at hN
  have hN1 := hN.1
  have hN2 := hN.2
  have e1 : wrap64 (n * n) = N := by rw [IntWalk.wrap64_in]; exact hNe.symm; omega
  have HN := Lib.hid hNe
  have H1 := Lib.hid h1
  clear hn hN hNe
  go_enter Try.func15, Try.ntmps15
  go_wp2_with fail
  refine (l07Sums_any a c xs _ hr).mono ?_
  rintro e w1 ⟨rfl, rfl⟩
  go_wp2_with fail
  refine (l00In_any _ _ _ _).mono ?_
  rintro e w2 ⟨rfl, rfl⟩
  go_wp2_with fail
  clear h1 h2
  go_loopw [7, 8, 9] (fun i _ _ wr => ∃ k : Nat, k ≤ 16 ∧ i = .int .i64 k ∧ (∀ j, j < k → edgeAt xs n j = none) ∧ Below w.heap.size w wr) (fun i _ _ _ => 16 - (intOf i).toNat)
  case atStart => exact ⟨0, Nat.zero_le _, rfl, by intro j hj; omega, Below.refl _ _⟩
  case round =>
    obtain ⟨k, hk, rfl, h0, hb⟩ := hrel
    have H0 := Lib.hid h0
    clear h0
    by_cases hlt : k < 16
    · have hxr := hr.below hb (Nat.le_refl _)
      have hl := sums_lvl H1.out hlt
      have hi0 := rd_idxAt hxr und_is siz_is (3 * k) (by omega) (3 * (k : Int)) (by omega)
      have hi1 := rd_idxAt hxr und_is siz_is (3 * k + 1) (by omega) (3 * (k : Int) + 1) (by omega)
      have hi2 := rd_idxAt hxr und_is siz_is (3 * k + 2) (by omega) (3 * (k : Int) + 2) (by omega)
      have hc0 := hxr.cell (3 * k) (by omega)
      have hc1 := hxr.cell (3 * k + 1) (by omega)
      have hc2 := hxr.cell (3 * k + 2) (by omega)
      have ew1 : IntKind.i64.wrap (3 * (k : Int)) = 3 * (k : Int) := IntWalk.i64_in _ (by omega)
      have ew2 : IntKind.i64.wrap (3 * (k : Int) + 1) = 3 * (k : Int) + 1 := IntWalk.i64_in _ (by omega)
      have ew3 : IntKind.i64.wrap (3 * (k : Int) + 2) = 3 * (k : Int) + 2 := IntWalk.i64_in _ (by omega)
      obtain ⟨s, hs⟩ : ∃ s, xs[3 * k]?.getD 0 = s := ⟨_, rfl⟩
      obtain ⟨t, ht⟩ : ∃ s, xs[3 * k + 1]?.getD 0 = s := ⟨_, rfl⟩
      obtain ⟨u, hu⟩ : ∃ s, xs[3 * k + 2]?.getD 0 = s := ⟨_, rfl⟩
      have hd : (default : Int) = 0 := rfl
      rw [hd, hs] at hc0
      rw [hd, ht] at hc1
      rw [hd, hu] at hc2
      clear hd
      rw [hs, ht, hu] at hl
      obtain ⟨hl0, hs1, hs2, ht1, ht2, hu1, hu2⟩ := hl
      have HS := Lib.hid hs
      have HT := Lib.hid ht
      have HU := Lib.hid hu
      clear hs ht hu
      by_cases hs1 : s = 1 ∨ s = -1
      · rcases hs1 with rfl | rfl
        · obtain ⟨v, rfl⟩ : ∃ v, v = t := ⟨_, rfl⟩
          have HE : Hid _ := edgeAt_pos HS.out HT.out HU.out (n := n)
          clear HS HT HU
          obtain ⟨V2, hV2⟩ : ∃ V2, V2 = v * v := ⟨_, rfl⟩
          have HV2 := Lib.hid hV2
          have hn0 : 0 < n := by omega
          have hnn : 1 ≤ n := by omega
          by_cases hv0 : 0 ≤ v
          · have dv : decide (v < 0) = false := by simp; omega
            by_cases hv1 : v < N
            · have dN : decide (N ≤ v) = false := by simp; omega
              have hV := sq_bd2 hv0 (by omega)
              rw [← hV2] at hV
              have e3 : wrap64 (v * v) = V2 := by rw [← hV2]; exact IntWalk.wrap64_in _ (by omega)
              have e4 : IntKind.i64.wrap (v * v) = V2 := by rw [← hV2]; exact IntWalk.i64_in _ (by omega)
              have e6 : IntKind.i64.wrap (n * n) = N := by rw [HN.out]; exact IntWalk.i64_in _ (by rw [← HN.out]; omega)
              clear hV hV2
              by_cases hq : v / n < v % n
              · have dq : decide (v % n ≤ v / n) = false := by simp; omega
                by_cases hu : u = V2
                · have hu' : (u != V2) = false := by simp [hu]
                  have HR : Hid (edgeAt xs n k = some (v / n, v % n)) := by show _ = _; rw [HE.out, if_pos]; exact ⟨hv0, by rw [← HN.out]; exact hv1, hq, by rw [hu]; exact HV2.out⟩
                  clear hu
                  go_wp2_with fail
                  go_quiet (fail)
                  go_wp2_with fail
                  go_quiet (fail)
                  go_wp2
                  go_ret3
                  exact ⟨by rw [edgeOf_some hlt H0.out HR.out]; rfl, hb.trans ((below_of_drewN _ _ _).trans (below_of_drewN _ _ _))⟩
                · have hu' : (u != V2) = true := by simp [hu]
                  have HR : Hid (edgeAt xs n k = none) := by show _ = _; rw [HE.out, if_neg]; rintro ⟨_, _, _, h4⟩; exact hu (by rw [h4]; exact HV2.out.symm)
                  clear hu
                  go_wp2_with fail
                  go_quiet (fail)
                  go_wp2
                  go_roundw
                  case rel => exact ⟨k + 1, by omega, by go_num, lt_succ_none H0.out HR.out, hb.trans (below_of_drewN _ _ _)⟩
                  case measure => simp [intOf]; omega
              · have HR : Hid (edgeAt xs n k = none) := by show _ = _; rw [HE.out, if_neg]; rintro ⟨_, _, h4, _⟩; exact hq h4
                have dq : decide (v % n ≤ v / n) = true := by simp; omega
                go_wp2_with fail
                go_quiet (fail)
                go_wp2
                go_roundw
                case rel => exact ⟨k + 1, by omega, by go_num, lt_succ_none H0.out HR.out, hb.trans (below_of_drewN _ _ _)⟩
                case measure => simp [intOf]; omega
            · have HR : Hid (edgeAt xs n k = none) := by show _ = _; rw [HE.out, if_neg]; rintro ⟨_, h2, _, _⟩; rw [← HN.out] at h2; exact hv1 h2
              have e6 : IntKind.i64.wrap (n * n) = N := by rw [HN.out]; exact IntWalk.i64_in _ (by rw [← HN.out]; omega)
              have dN : decide (N ≤ v) = true := by simp; omega
              clear hV2
              go_wp2_with fail
              go_quiet (fail)
              go_wp2
              go_roundw
              case rel => exact ⟨k + 1, by omega, by go_num, lt_succ_none H0.out HR.out, hb.trans (below_of_drewN _ _ _)⟩
              case measure => simp [intOf]; omega
          · have HR : Hid (edgeAt xs n k = none) := by show _ = _; rw [HE.out, if_neg]; rintro ⟨h1, _, _, _⟩; exact hv0 h1
            have dv : decide (v < 0) = true := by simp; omega
            clear hV2
            go_wp2_with fail
            go_quiet (fail)
            go_wp2
            go_roundw
            case rel => exact ⟨k + 1, by omega, by go_num, lt_succ_none H0.out HR.out, hb.trans (below_of_drewN _ _ _)⟩
            case measure => simp [intOf]; omega
        · obtain ⟨v, rfl⟩ : ∃ v, t = -v := ⟨-t, by omega⟩
          obtain ⟨u, rfl⟩ : ∃ v, u = -v := ⟨-u, by omega⟩
          have HE : Hid _ := edgeAt_neg HS.out HT.out HU.out (n := n)
          clear HS HT HU
          obtain ⟨V2, hV2⟩ : ∃ V2, V2 = v * v := ⟨_, rfl⟩
          have HV2 := Lib.hid hV2
          have hn0 : 0 < n := by omega
          have hnn : 1 ≤ n := by omega
          by_cases hv0 : 0 ≤ v
          · have dv : decide (v < 0) = false := by simp; omega
            by_cases hv1 : v < N
            · have dN : decide (N ≤ v) = false := by simp; omega
              have hV := sq_bd2 hv0 (by omega)
              rw [← hV2] at hV
              have e3 : wrap64 (v * v) = V2 := by rw [← hV2]; exact IntWalk.wrap64_in _ (by omega)
              have e4 : IntKind.i64.wrap (v * v) = V2 := by rw [← hV2]; exact IntWalk.i64_in _ (by omega)
              have e6 : IntKind.i64.wrap (n * n) = N := by rw [HN.out]; exact IntWalk.i64_in _ (by rw [← HN.out]; omega)
              clear hV hV2
              by_cases hq : v / n < v % n
              · have dq : decide (v % n ≤ v / n) = false := by simp; omega
                by_cases hu : u = V2
                · have hu' : (u != V2) = false := by simp [hu]
                  have HR : Hid (edgeAt xs n k = some (v / n, v % n)) := by show _ = _; rw [HE.out, if_pos]; exact ⟨hv0, by rw [← HN.out]; exact hv1, hq, by rw [hu]; exact HV2.out⟩
                  clear hu
                  go_wp2_with fail
                  go_quiet (fail)
                  go_wp2_with fail
                  go_quiet (fail)
                  go_wp2
                  go_ret3
                  exact ⟨by rw [edgeOf_some hlt H0.out HR.out]; rfl, hb.trans ((below_of_drewN _ _ _).trans (below_of_drewN _ _ _))⟩
                · have hu' : (u != V2) = true := by simp [hu]
                  have HR : Hid (edgeAt xs n k = none) := by show _ = _; rw [HE.out, if_neg]; rintro ⟨_, _, _, h4⟩; exact hu (by rw [h4]; exact HV2.out.symm)
                  clear hu
                  go_wp2_with fail
                  go_quiet (fail)
                  go_wp2
                  go_roundw
                  case rel => exact ⟨k + 1, by omega, by go_num, lt_succ_none H0.out HR.out, hb.trans (below_of_drewN _ _ _)⟩
                  case measure => simp [intOf]; omega
              · have HR : Hid (edgeAt xs n k = none) := by show _ = _; rw [HE.out, if_neg]; rintro ⟨_, _, h4, _⟩; exact hq h4
                have dq : decide (v % n ≤ v / n) = true := by simp; omega
                go_wp2_with fail
                go_quiet (fail)
                go_wp2
                go_roundw
                case rel => exact ⟨k + 1, by omega, by go_num, lt_succ_none H0.out HR.out, hb.trans (below_of_drewN _ _ _)⟩
                case measure => simp [intOf]; omega
            · have HR : Hid (edgeAt xs n k = none) := by show _ = _; rw [HE.out, if_neg]; rintro ⟨_, h2, _, _⟩; rw [← HN.out] at h2; exact hv1 h2
              have e6 : IntKind.i64.wrap (n * n) = N := by rw [HN.out]; exact IntWalk.i64_in _ (by rw [← HN.out]; omega)
              have dN : decide (N ≤ v) = true := by simp; omega
              clear hV2
              go_wp2_with fail
              go_quiet (fail)
              go_wp2
              go_roundw
              case rel => exact ⟨k + 1, by omega, by go_num, lt_succ_none H0.out HR.out, hb.trans (below_of_drewN _ _ _)⟩
              case measure => simp [intOf]; omega
          · have HR : Hid (edgeAt xs n k = none) := by show _ = _; rw [HE.out, if_neg]; rintro ⟨h1, _, _, _⟩; exact hv0 h1
            have dv : decide (v < 0) = true := by simp; omega
            clear hV2
            go_wp2_with fail
            go_quiet (fail)
            go_wp2
            go_roundw
            case rel => exact ⟨k + 1, by omega, by go_num, lt_succ_none H0.out HR.out, hb.trans (below_of_drewN _ _ _)⟩
            case measure => simp [intOf]; omega
      · have d1 : (s != 1) = true := by simp; omega
        have d2 : (s != -1) = true := by simp; omega
        have HN : Hid (edgeAt xs n k = none) := edgeAt_not (by rw [HS.out]; omega) (by rw [HS.out]; omega)
        clear hs1 HS HT HU
        go_wp2
        go_roundw
        case rel => exact ⟨k + 1, by omega, by go_num, lt_succ_none H0.out HN.out, hb⟩
        case measure => simp [intOf]; omega
    · obtain rfl : k = 16 := by omega
      go_wp2
      go_ret3
      exact ⟨by rw [edgeOf_none H0.out]; rfl, hb⟩

theorem edgeIn_len {xs : List Int} {n : Int} (h : (sums xs && inR n 2 32) = false) : edgeIn xs n = none := by simp [edgeIn, h]

theorem implEdgeIn_any {a : Option Addr} {c : Nat} {xs : List Int} {n : Int} {w : World} (hr : Rd (Value.int .i64) w a c xs) :
    Calls Try.prog 14 #[.slice a xs.length c, .int .i64 n] w fun e w' => e = .returned (edgeV (edgeIn xs n)) ∧ Below w.heap.size w w' := by
  cases h1 : sums xs with
  | false =>
    have he : edgeIn xs n = none := edgeIn_len (by simp [h1])
    go_enter Try.func14, Try.ntmps14
    go_wp2_with fail
    refine (isEdgeSketch_any a c xs _ hr).mono ?_
    rintro e w1 ⟨rfl, hb1⟩
    go_wp2
    go_ret3
    exact ⟨by rw [he]; rfl, hb1⟩
  | true =>
    cases h2 : inR n 2 32 with
    | false =>
      have he : edgeIn xs n = none := edgeIn_len (by simp [h2])
      go_enter Try.func14, Try.ntmps14
      go_wp2_with fail
      refine (isEdgeSketch_any a c xs _ hr).mono ?_
      rintro e w1 ⟨rfl, hb1⟩
      go_wp2_with fail
      refine (within_any _ _ _ _).mono ?_
      rintro e w2 ⟨rfl, rfl⟩
      go_wp2
      go_ret3
      exact ⟨by rw [he]; rfl, hb1⟩
    | true =>
      have he : edgeIn xs n = edgeOf xs n := by simp [edgeIn, h1, h2]
      rw [he]
      exact implEdgeIn_yes hr h1 h2

theorem specEdgeIn_any {a : Option Addr} {c : Nat} {xs : List Int} {n : Int} {w : World} (hr : Rd (Value.int .i64) w a c xs) :
    Calls Try.prog 15 #[.slice a xs.length c, .int .i64 n] w fun e w' => e = .returned (edgeV (edgeIn xs n)) ∧ Below w.heap.size w w' := by
  cases h1 : sums xs with
  | false =>
    have he : edgeIn xs n = none := edgeIn_len (by simp [h1])
    go_enter Try.func15, Try.ntmps15
    go_wp2_with fail
    refine (l07Sums_any a c xs _ hr).mono ?_
    rintro e w1 ⟨rfl, rfl⟩
    go_wp2
    go_ret3
    exact ⟨by rw [he]; rfl, Below.refl _ _⟩
  | true =>
    cases h2 : inR n 2 32 with
    | false =>
      have he : edgeIn xs n = none := edgeIn_len (by simp [h2])
      go_enter Try.func15, Try.ntmps15
      go_wp2_with fail
      refine (l07Sums_any a c xs _ hr).mono ?_
      rintro e w1 ⟨rfl, rfl⟩
      go_wp2_with fail
      refine (l00In_any _ _ _ _).mono ?_
      rintro e w2 ⟨rfl, rfl⟩
      go_wp2
      go_ret3
      exact ⟨by rw [he]; rfl, Below.refl _ _⟩
    | true =>
      have he : edgeIn xs n = edgeOf xs n := by simp [edgeIn, h1, h2]
      rw [he]
      exact specEdgeIn_yes hr h1 h2

/-- The three results, written out. -/
theorem edgeV_eq (r : Option (Int × Int)) : edgeV r = .tuple #[.int .i64 (r.getD (0, 0)).1, .int .i64 (r.getD (0, 0)).2, .bool r.isSome] := by cases r <;> rfl

theorem implEdgeIn_t {a : Option Addr} {c : Nat} {xs : List Int} {n : Int} {w : World} (hr : Rd (Value.int .i64) w a c xs) :
    Calls Try.prog 14 #[.slice a xs.length c, .int .i64 n] w fun e w' => e = .returned (.tuple #[.int .i64 ((edgeIn xs n).getD (0, 0)).1, .int .i64 ((edgeIn xs n).getD (0, 0)).2, .bool (edgeIn xs n).isSome]) ∧ Below w.heap.size w w' := by
  rw [← edgeV_eq]; exact implEdgeIn_any hr
theorem specEdgeIn_t {a : Option Addr} {c : Nat} {xs : List Int} {n : Int} {w : World} (hr : Rd (Value.int .i64) w a c xs) :
    Calls Try.prog 15 #[.slice a xs.length c, .int .i64 n] w fun e w' => e = .returned (.tuple #[.int .i64 ((edgeIn xs n).getD (0, 0)).1, .int .i64 ((edgeIn xs n).getD (0, 0)).2, .bool (edgeIn xs n).isSome]) ∧ Below w.heap.size w w' := by
  rw [← edgeV_eq]; exact specEdgeIn_any hr

end Go.Proofs.Ytfecdmenliohhaa
