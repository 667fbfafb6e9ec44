/- ValidWindow in the program's text: the walk. -/
import Derived.Test.YtockifchghllhaaDoorWinL
namespace Go.Proofs.YtockifchghllhaaDoor
open Go.RowKit

/-- A window's value. -/
abbrev winV (L P : Int) (ta : Option Addr) (tl tc : Nat) (sa : Option Addr) (sl sc : Nat) : Value := .agg #[.int .i64 L, .int .i64 P, .slice ta tl tc, .slice sa sl sc]
abbrev winC (L P : Int) (ta : Option Addr) (tl tc : Nat) (sa : Option Addr) (sl sc : Nat) : Array Value := #[.int .i64 L, .int .i64 P, .slice ta tl tc, .slice sa sl sc]

theorem win_cells {w w2 : World} {L P : Int} {ta sa : Option Addr} {tl tc sl sc : Nat} {t : TypeId} (hb : Below (w.heap.size + 1) (w.alloc (.cells (winC L P ta tl tc sa sl sc) t)) w2) :
    w2.cell? ⟨w.heap.size, 0, none⟩ = some (.int .i64 L) ∧ w2.cell? ⟨w.heap.size, 1, none⟩ = some (.int .i64 P) ∧ w2.cell? ⟨w.heap.size, 2, none⟩ = some (.slice ta tl tc) ∧ w2.cell? ⟨w.heap.size, 3, none⟩ = some (.slice sa sl sc) := by
  refine ⟨?_, ?_, ?_, ?_⟩
  all_goals
    rw [hb.cell (by simp), World.cell?_alloc_at _ _ _ _ rfl]
    rfl

set_option maxRecDepth 4000 in
set_option maxHeartbeats 2000000 in
theorem validWindow_any {ta sa : Option Addr} {tc sc : Nat} {ts ss : List Int} {L P : Int} {w : World} (ht : Rd (Value.int .i64) w ta tc ts) (hs : Rd (Value.int .i64) w sa sc ss) :
    Calls Tryd.prog 79 #[winV L P ta ts.length tc sa ss.length sc] w fun e w' => e = .returned (.bool (winB L P ts ss)) ∧ Below w.heap.size w w' := by
  have hlt := ht.len
  have hls := hs.len
  have hb0 : Below w.heap.size w (w.alloc (.cells (winC L P ta ts.length tc sa ss.length sc) 56)) := (Below.refl _ _).alloc (Nat.le_refl _) _
  cases h1 : inR L 1 1000000 with
  | false =>
    go_enter Tryd.func79, Tryd.ntmps79
    go_wp2_with fail
    refine (within_any _ _ _ _).mono ?_
    rintro e w1 ⟨rfl, rfl⟩
    go_wp2
    go_ret
    exact ⟨ret_bool (winB_L h1).symm, hb0⟩
  | true =>
  cases h2 : inR P 1 16 with
  | false =>
    go_enter Tryd.func79, Tryd.ntmps79
    go_wp2_with fail
    refine (within_any _ _ _ _).mono ?_
    rintro e w1 ⟨rfl, rfl⟩
    rw [h1]
    go_wp2_with fail
    refine (within_any _ _ _ _).mono ?_
    rintro e w1 ⟨rfl, rfl⟩
    go_wp2
    go_ret
    exact ⟨ret_bool (winB_P h2).symm, hb0⟩
  | true =>
  by_cases h3 : ts.length ≤ 128
  case neg =>
    have h3' : 128 < ts.length := by omega
    go_enter Tryd.func79, Tryd.ntmps79
    go_wp2_with fail
    refine (within_any _ _ _ _).mono ?_
    rintro e w1 ⟨rfl, rfl⟩
    rw [h1]
    go_wp2_with fail
    refine (within_any _ _ _ _).mono ?_
    rintro e w1 ⟨rfl, rfl⟩
    rw [h2]
    go_wp2
    go_ret
    exact ⟨ret_bool (winB_long h3).symm, hb0⟩
  case pos =>
  have hn3 : decide (128 < (ts.length : Int)) = false := by simp; omega
  by_cases h4 : ss.length = ts.length
  case neg =>
    have h4' : ((ss.length : Int) != (ts.length : Int)) = true := by simp; omega
    have H4 := Lib.hid h4
    clear h4
    go_enter Tryd.func79, Tryd.ntmps79
    go_wp2_with fail
    refine (within_any _ _ _ _).mono ?_
    rintro e w1 ⟨rfl, rfl⟩
    rw [h1]
    go_wp2_with fail
    refine (within_any _ _ _ _).mono ?_
    rintro e w1 ⟨rfl, rfl⟩
    rw [h2]
    go_wp2
    go_ret
    exact ⟨ret_bool (winB_len H4.out).symm, hb0⟩
  case pos =>
  have h4' : ((ss.length : Int) != (ts.length : Int)) = false := by simp [h4]
  have H4 := Lib.hid h4
  clear h4
  cases h5 : (List.range ts.length).all (timeOk ts) with
  | false =>
    go_enter Tryd.func79, Tryd.ntmps79
    go_wp2_with fail
    refine (within_any _ _ _ _).mono ?_
    rintro e w1 ⟨rfl, rfl⟩
    rw [h1]
    go_wp2_with fail
    refine (within_any _ _ _ _).mono ?_
    rintro e w1 ⟨rfl, rfl⟩
    rw [h2]
    go_wp2_with fail
    refine (areTimes_any (ht.below hb0 (Nat.le_refl _))).mono ?_
    rintro e w2 ⟨rfl, hb2⟩
    rw [h5]
    go_wp2
    go_ret
    exact ⟨ret_bool (winB_times h5).symm, hb0.trans (hb2.mono (by simp))⟩
  | true =>
  have H1 := Lib.hid h1
  have H2 := Lib.hid h2
  have H5 := Lib.hid h5
  obtain ⟨hP1, hP2⟩ := (inR_eq _ _ _).1 h2
  go_enter Tryd.func79, Tryd.ntmps79
  go_wp2_with fail
  refine (within_any _ _ _ _).mono ?_
  rintro e w1 ⟨rfl, rfl⟩
  rw [h1]
  go_wp2_with fail
  refine (within_any _ _ _ _).mono ?_
  rintro e w1 ⟨rfl, rfl⟩
  rw [h2]
  go_wp2_with fail
  refine (areTimes_any (ht.below hb0 (Nat.le_refl _))).mono ?_
  rintro e w2 ⟨rfl, hb2⟩
  rw [h5]
  obtain ⟨c0, c1, c2, c3⟩ := win_cells (hb2.mono (by simp))
  have hB : Below w.heap.size w w2 := hb0.trans (hb2.mono (by simp))
  have hsr := hs.below hB (Nat.le_refl _)
  clear h1 h2 h5 hb0 hb2
  go_wp2_with fail
  go_loop [3, 4, 5, 40] (fun r _ _ i => ∃ (k : Nat) (R : Int), k ≤ ss.length ∧ i = .int .i64 k ∧ r = .int .i64 R ∧ 0 ≤ R ∧ R ≤ k ∧ Hid (runK ss k = R) ∧ Hid (∀ j, j < k → sizeOk P ss j = true)) (fun _ _ _ i => ss.length - (intOf i).toNat)
  case atStart => exact ⟨0, 0, Nat.zero_le _, rfl, rfl, by omega, by omega, by show _ = _; rfl, by show ∀ j, _; intro j hj; omega⟩
  case round =>
    obtain ⟨k, R, hk, rfl, rfl, hR0, hR1, HR, HA⟩ := hrel
    by_cases hlt : k < ss.length
    · have hix := hsr.idx und_is siz_is
      obtain ⟨s, hss⟩ : ∃ x, at0 ss k = x := ⟨_, rfl⟩
      have hcx := at0_cell hsr hlt hss
      have HS := Lib.hid hss
      clear hss
      cases hin : inR s 1 1048576 with
      | false =>
        have hp := isPow_out hin
        go_wp2_with fail
        refine (within_any _ _ _ _).mono ?_
        rintro e w1 ⟨rfl, rfl⟩
        rw [hin]
        go_wp2
        go_ret
        exact ⟨ret_bool (winB_size (by rw [← H4.out]; exact hlt) (sizeOk_pow HS.out hp)).symm, hB⟩
      | true =>
      obtain ⟨hs1, hs2⟩ := (inR_eq _ _ _).1 hin
      have hpt := pow_test hs1 hs2
      cases hp : isPow s with
      | false =>
        rw [hp] at hpt
        go_wp2_with fail
        refine (within_any _ _ _ _).mono ?_
        rintro e w1 ⟨rfl, rfl⟩
        rw [hin]
        go_wp2
        go_ret
        exact ⟨ret_bool (winB_size (by rw [← H4.out]; exact hlt) (sizeOk_pow HS.out hp)).symm, hB⟩
      | true =>
      rw [hp] at hpt
      by_cases hk0 : k = 0
      · subst hk0
        have hi0 := rd_idxAt hsr und_is siz_is 0 hlt 0 rfl
        clear hix
        go_wp2_with fail
        refine (within_any _ _ _ _).mono ?_
        rintro e w1 ⟨rfl, rfl⟩
        rw [hin]
        go_wp2
        go_round
        case rel =>
          refine ⟨1, 1, hlt, rfl, rfl, by omega, by omega, runK_zero ss, ?_⟩
          show ∀ j, _
          intro j hj
          obtain rfl : j = 0 := by omega
          exact sizeOk_first HS.out hp hP1
        case measure => simp [intOf]; omega
      · obtain ⟨m, rfl⟩ : ∃ m, k = m + 1 := ⟨k - 1, by omega⟩
        obtain ⟨p, hpp⟩ : ∃ x, at0 ss m = x := ⟨_, rfl⟩
        have hcp := at0_cell hsr (by omega) hpp
        have hi0 := rd_idxAt hsr und_is siz_is (m + 1) hlt ((m : Int) + 1) (by omega)
        have hi1 := rd_idxAt hsr und_is siz_is m (by omega) (m : Int) rfl
        have HP := Lib.hid hpp
        have HI := Lib.hid hp
        clear hix hpp hk0 hp
        have hKT : m + 1 < ts.length := by rw [← H4.out]; exact hlt
        rcases Int.lt_trichotomy s p with hsp | hsp | hsp
        · have hne : (s != p) = true := by simp; omega
          have HSP := Lib.hid hsp
          go_wp2_with fail
          refine (within_any _ _ _ _).mono ?_
          rintro e w1 ⟨rfl, rfl⟩
          rw [hin]
          go_wp2
          go_round
          case rel =>
            have hr := runK_less HS.out HP.out HSP.out
            refine ⟨m + 1 + 1, 1, hlt, rfl, rfl, by omega, by omega, hr, ?_⟩
            show ∀ j, _
            intro j hj
            by_cases h : j = m + 1
            · subst h; exact sizeOk_next HS.out HP.out HI.out (by have := HSP.out; omega) (by rw [hr]; omega)
            · exact HA.out j (by omega)
          case measure => simp [intOf]; omega
        · have hne : (s != p) = false := by simp [hsp]
          have HSP := Lib.hid hsp
          have hns : ¬ p < s := by omega
          clear hsp
          by_cases hrun : R + 1 ≤ P + 1
          · go_wp2_with fail
            refine (within_any _ _ _ _).mono ?_
            rintro e w1 ⟨rfl, rfl⟩
            rw [hin]
            go_wp2
            go_round
            case rel =>
              have hr := (runK_eq HS.out HP.out HSP.out).trans (by rw [HR.out])
              refine ⟨m + 1 + 1, R + 1, hlt, rfl, rfl, by omega, by omega, hr, ?_⟩
              show ∀ j, _
              intro j hj
              by_cases h : j = m + 1
              · subst h; exact sizeOk_next HS.out HP.out HI.out (by have := HSP.out; omega) (by rw [hr]; omega)
              · exact HA.out j (by omega)
            case measure => simp [intOf]; omega
          · go_wp2_with fail
            refine (within_any _ _ _ _).mono ?_
            rintro e w1 ⟨rfl, rfl⟩
            rw [hin]
            go_wp2
            go_ret
            have hr := (runK_eq HS.out HP.out HSP.out).trans (by rw [HR.out])
            exact ⟨ret_bool (winB_size hKT (sizeOk_run (by rw [hr]; omega))).symm, hB⟩
        · have hne : (s != p) = true := by simp; omega
          have HSP := Lib.hid hsp
          go_wp2_with fail
          refine (within_any _ _ _ _).mono ?_
          rintro e w1 ⟨rfl, rfl⟩
          rw [hin]
          go_wp2
          go_ret
          exact ⟨ret_bool (winB_size hKT (sizeOk_gt HS.out HP.out HSP.out)).symm, hB⟩
    · obtain rfl : k = ss.length := by omega
      go_wp2
      go_ret
      exact ⟨ret_bool (winB_yes H1.out H2.out h3 H4.out H5.out (by rw [← H4.out]; exact HA.out)).symm, hB⟩

end Go.Proofs.YtockifchghllhaaDoor
