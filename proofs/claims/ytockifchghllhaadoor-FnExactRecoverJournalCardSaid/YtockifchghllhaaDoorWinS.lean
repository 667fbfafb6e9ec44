/- The reference's windows: what is valid. -/
import Derived.Test.YtockifchghllhaaDoorWinL
namespace Go.Proofs.YtockifchghllhaaDoor
open Go.RowKit

theorem l00In_q {x lo hi : Int} {w : World} {n : Nat} : Calls Tryd.prog 92 #[.int .i64 x, .int .i64 lo, .int .i64 hi] (w.drewN n) fun e w'' => e = .returned (.bool (inR x lo hi)) ∧ ∃ m, w'' = w.drewN m :=
  (l00In_any _ _ _ _).mono fun _ _ ⟨he, hw⟩ => ⟨he, n, hw.symm⟩
theorem at0_cell' {w : World} {a : Option Addr} {c : Nat} {xs : List Int} (hr : Rd (Value.int .i64) w a c xs) {k : Nat} (hk : k < xs.length) {x : Int} (hx : at0 xs k = x) : w.cell? (elt a k) = some (.int .i64 x) := by
  rw [hr.cell k hk, ← hx]; rfl
theorem drewN_more' {w wr : World} (h : ∃ n, wr = w.drewN n) (m : Nat) : ∃ n, wr.drewN m = w.drewN n := by
  obtain ⟨n, rfl⟩ := h
  exact ⟨_, World.drewN_drewN _ _ _⟩

/-- A window in memory. -/
structure WinAt (w : World) (b o : Nat) (L P : Int) (ta : Option Addr) (tl tc : Nat) (sa : Option Addr) (sl sc : Nat) : Prop where
  c0 : w.cell? ⟨b, o, none⟩ = some (.int .i64 L)
  c1 : w.cell? ⟨b, o + 1, none⟩ = some (.int .i64 P)
  c2 : w.cell? ⟨b, o + 2, none⟩ = some (.slice ta tl tc)
  c3 : w.cell? ⟨b, o + 3, none⟩ = some (.slice sa sl sc)
  lt : b < w.heap.size
theorem WinAt.below {w w' : World} {b o : Nat} {L P : Int} {ta : Option Addr} {tl tc : Nat} {sa : Option Addr} {sl sc : Nat} (h : WinAt w b o L P ta tl tc sa sl sc) {B : Nat} (hb : Below B w w') (hB : w.heap.size ≤ B) : WinAt w' b o L P ta tl tc sa sl sc := by
  have hl := h.lt
  refine ⟨?_, ?_, ?_, ?_, Nat.lt_of_lt_of_le hl hb.size⟩
  · rw [hb.cell (by simp; omega)]; exact h.c0
  · rw [hb.cell (by simp; omega)]; exact h.c1
  · rw [hb.cell (by simp; omega)]; exact h.c2
  · rw [hb.cell (by simp; omega)]; exact h.c3

set_option maxRecDepth 4000 in
set_option maxHeartbeats 4000000 in
theorem l06Is_any {b o : Nat} {ta sa : Option Addr} {tc sc : Nat} {ts ss : List Int} {L P : Int} {w : World} (hw : WinAt w b o L P ta ts.length tc sa ss.length sc) (ht : Rd (Value.int .i64) w ta tc ts) (hs : Rd (Value.int .i64) w sa sc ss) :
    Calls Tryd.prog 77 #[.pointer (some ⟨b, o, none⟩)] w fun e w' => e = .returned (.bool (winB L P ts ss)) ∧ ∃ n, w' = w.drewN n := by
  have hlt := ht.len
  have hls := hs.len
  have HW := Lib.hid hw
  obtain ⟨d0, d1, d2, d3, _⟩ := hw
  cases h1 : inR L 1 1000000 with
  | false =>
    go_enter Tryd.func77, Tryd.ntmps77
    go_wp2_with fail
    go_quiet ((go_at_call 92; exact l00In_q))
    go_wp2
    go_ret
    exact ⟨ret_bool (winB_L h1).symm, _, rfl⟩
  | true =>
  cases h2 : inR P 1 16 with
  | false =>
    go_enter Tryd.func77, Tryd.ntmps77
    go_wp2_with fail
    go_quiet ((go_at_call 92; exact l00In_q))
    go_wp2
    go_ret
    exact ⟨ret_bool (winB_P h2).symm, _, rfl⟩
  | true =>
  by_cases h3 : ts.length ≤ 128
  case neg =>
    have h3' : decide (128 < (ts.length : Int)) = true := by simp; omega
    have h3'' : 128 < ts.length := by omega
    go_enter Tryd.func77, Tryd.ntmps77
    go_wp2_with fail
    go_quiet ((go_at_call 92; exact l00In_q))
    go_wp2
    go_ret
    exact ⟨ret_bool (winB_long h3).symm, _, rfl⟩
  case pos =>
  have hn3 : decide (128 < (ts.length : Int)) = false := by simp; omega
  by_cases h4 : ss.length = ts.length
  case neg =>
    have h4' : ((ss.length : Int) != (ts.length : Int)) = true := by simp; omega
    have H4 := Lib.hid h4
    clear h4
    go_enter Tryd.func77, Tryd.ntmps77
    go_wp2_with fail
    go_quiet ((go_at_call 92; exact l00In_q))
    go_wp2
    go_ret
    exact ⟨ret_bool (winB_len H4.out).symm, _, rfl⟩
  case pos =>
  have h4' : ((ss.length : Int) != (ts.length : Int)) = false := by simp [h4]
  have H4 := Lib.hid h4
  clear h4
  have H1 := Lib.hid h1
  have H2 := Lib.hid h2
  obtain ⟨hP1, hP2⟩ := (inR_eq _ _ _).1 h2
  go_enter Tryd.func77, Tryd.ntmps77
  go_wp2_with fail
  go_quiet ((go_at_call 92; exact l00In_q))
  rw [h1, h2]
  clear h1 h2
  have hN0 : ∃ n, w.drewN nq = w.drewN n := ⟨_, rfl⟩
  generalize w.drewN nq = w1 at hN0 ⊢
  have HN0 := Lib.hid hN0
  clear hN0 d0 d1 d2 d3 h4'
  have hls2 : ss.length ≤ 128 := by rw [H4.out]; exact h3
  go_wp2_with fail
  go_loopw [3, 4] (fun r i wr => ∃ (k : Nat) (R : Int), k ≤ ts.length ∧ i = .int .i64 k ∧ r = .int .i64 R ∧ 0 ≤ R ∧ R ≤ k ∧ Hid (runK ss k = R) ∧ Hid (∀ j, j < k → sizeOk P ss j = true ∧ timeOk ts j = true) ∧ Hid (∃ n, wr = w.drewN n)) (fun _ i _ => ts.length - (intOf i).toNat)
  case atStart => exact ⟨0, 0, Nat.zero_le _, rfl, rfl, by omega, by omega, by show _ = _; rfl, by show ∀ j, _; intro j hj; omega, HN0⟩
  case round =>
    obtain ⟨k, R, hk, rfl, rfl, hR0, hR1, HR, HA, HN⟩ := hrel
    clear HN0
    have hbr : Below w.heap.size w wr := by obtain ⟨n, hn⟩ := HN.out; rw [hn]; exact below_of_drewN _ _ _
    have htr := ht.below hbr (Nat.le_refl _)
    have hsr := hs.below hbr (Nat.le_refl _)
    obtain ⟨c0, c1, c2, c3, _⟩ := HW.out.below hbr (Nat.le_refl _)
    clear hbr hn3
    by_cases hlt : k < ts.length
    · obtain ⟨t, htt⟩ : ∃ x, at0 ts k = x := ⟨_, rfl⟩
      obtain ⟨s, hss⟩ : ∃ x, at0 ss k = x := ⟨_, rfl⟩
      have hks : k < ss.length := by rw [H4.out]; exact hlt
      have hct := at0_cell' htr hlt htt
      have hcs := at0_cell' hsr hks hss
      have HT := Lib.hid htt
      have HS := Lib.hid hss
      clear htt hss
      by_cases hk0 : k = 0
      · subst hk0
        obtain rfl : R = 0 := by omega
        have hi0 := rd_idxAt htr und_is siz_is 0 hlt 0 rfl
        have hi1 := rd_idxAt hsr und_is siz_is 0 hks 0 rfl
        cases hin : inR t 0 1000000 with
        | false =>
          go_wp2_with fail
          go_quiet ((first | (go_at_call 109; exact l06Time_quiet) | (go_at_call 104; exact l04Power_quiet)))
          go_wp2
          go_ret
          exact ⟨ret_bool (winB_time hlt (timeOk_out HT.out hin)).symm, drewN_more' HN.out _⟩
        | true =>
        cases hp : isPow s with
        | false =>
          go_wp2_with fail
          go_quiet ((first | (go_at_call 109; exact l06Time_quiet) | (go_at_call 104; exact l04Power_quiet)))
          go_wp2
          go_ret
          exact ⟨ret_bool (winB_size hlt (sizeOk_pow HS.out hp)).symm, drewN_more' HN.out _⟩
        | true =>
          have HP := Lib.hid hp
          go_wp2_with fail
          go_quiet ((first | (go_at_call 109; exact l06Time_quiet) | (go_at_call 104; exact l04Power_quiet)))
          go_wp2_with fail
          go_quiet (fail)
          go_wp2_with fail
          go_quiet (fail)
          go_wp2
          go_roundw
          case rel =>
            refine ⟨1, 1, hlt, rfl, rfl, by omega, by omega, runK_zero ss, ?_, ?_⟩
            · show ∀ j, _
              intro j hj
              obtain rfl : j = 0 := by omega
              exact ⟨sizeOk_first HS.out HP.out hP1, timeOk_first HT.out hin⟩
            · show ∃ n, _
              first | exact drewN_more' HN.out _ | exact drewN_more' (drewN_more' HN.out _) _ | exact drewN_more' (drewN_more' (drewN_more' HN.out _) _) _
          case measure => simp [intOf]; omega
      · obtain ⟨m, rfl⟩ : ∃ m, k = m + 1 := ⟨k - 1, by omega⟩
        obtain ⟨p, hpp⟩ : ∃ x, at0 ss m = x := ⟨_, rfl⟩
        obtain ⟨u, huu⟩ : ∃ x, at0 ts m = x := ⟨_, rfl⟩
        have hcp := at0_cell' hsr (by omega) hpp
        have hcu := at0_cell' htr (by omega) huu
        have hi0 := rd_idxAt hsr und_is siz_is (m + 1) hks ((m : Int) + 1) (by omega)
        have hi1 := rd_idxAt hsr und_is siz_is m (by omega) (m : Int) rfl
        have hi2 := rd_idxAt htr und_is siz_is (m + 1) hlt ((m : Int) + 1) (by omega)
        have hi3 := rd_idxAt htr und_is siz_is m (by omega) (m : Int) rfl
        have ew : IntKind.i64.wrap (m : Int) = (m : Int) := IntWalk.i64_in _ (by omega)
        have HP := Lib.hid hpp
        have HU := Lib.hid huu
        clear hpp huu hk0
        cases hin : inR t 0 1000000 with
        | false =>
          go_wp2_with fail
          go_quiet ((first | (go_at_call 109; exact l06Time_quiet) | (go_at_call 104; exact l04Power_quiet)))
          go_wp2
          go_ret
          exact ⟨ret_bool (winB_time hlt (timeOk_out HT.out hin)).symm, drewN_more' HN.out _⟩
        | true =>
        by_cases htu : t < u
        case pos =>
          have HTU := Lib.hid htu
          go_wp2_with fail
          go_quiet ((first | (go_at_call 109; exact l06Time_quiet) | (go_at_call 104; exact l04Power_quiet)))
          go_wp2
          go_ret
          exact ⟨ret_bool (winB_time hlt (timeOk_lt HT.out HU.out HTU.out)).symm, drewN_more' HN.out _⟩
        case neg =>
        have htd : decide (t < u) = false := by simpa using htu
        have HTU := Lib.hid htu
        clear htu
        cases hp : isPow s with
        | false =>
          go_wp2_with fail
          go_quiet ((first | (go_at_call 109; exact l06Time_quiet) | (go_at_call 104; exact l04Power_quiet)))
          go_wp2
          go_ret
          exact ⟨ret_bool (winB_size hlt (sizeOk_pow HS.out hp)).symm, drewN_more' HN.out _⟩
        | true =>
        have HI := Lib.hid hp
        have HIN := Lib.hid hin
        have htok : timeOk ts (m + 1) = true := timeOk_next HT.out HU.out hin (by have := HTU.out; omega)
        have HTOK := Lib.hid htok
        clear htok
        rcases Int.lt_trichotomy s p with hsp | hsp | hsp
        · have hd1 : decide (p < s) = false := by simp; omega
          have hd2 : decide (s < p) = true := by simp; omega
          have HSP := Lib.hid hsp
          go_wp2_with fail
          go_quiet ((first | (go_at_call 109; exact l06Time_quiet) | (go_at_call 104; exact l04Power_quiet)))
          go_wp2_with fail
          go_quiet (fail)
          go_wp2_with fail
          go_quiet (fail)
          go_wp2
          go_roundw
          case rel =>
            have hr := runK_less HS.out HP.out HSP.out
            refine ⟨m + 1 + 1, 1, hlt, by go_num, rfl, by omega, by omega, hr, ?_, ?_⟩
            · show ∀ j, _
              intro j hj
              by_cases h : j = m + 1
              · subst h; exact ⟨sizeOk_next HS.out HP.out HI.out (by have := HSP.out; omega) (by rw [hr]; omega), HTOK.out⟩
              · exact HA.out j (by omega)
            · show ∃ n, _
              first | exact drewN_more' HN.out _ | exact drewN_more' (drewN_more' HN.out _) _ | exact drewN_more' (drewN_more' (drewN_more' HN.out _) _) _
          case measure => simp [intOf]; omega
        · have hd1 : decide (p < s) = false := by simp; omega
          have hd2 : decide (s < p) = false := by simp; omega
          have HSP := Lib.hid hsp
          clear hsp
          by_cases hrun : R + 1 ≤ P + 1
          · go_wp2_with fail
            go_quiet ((first | (go_at_call 109; exact l06Time_quiet) | (go_at_call 104; exact l04Power_quiet)))
            go_wp2_with fail
            go_quiet (fail)
            go_wp2_with fail
            go_quiet (fail)
            go_wp2
            go_roundw
            case rel =>
              have hr := (runK_eq HS.out HP.out HSP.out).trans (by rw [HR.out])
              refine ⟨m + 1 + 1, R + 1, hlt, by go_num, rfl, by omega, by omega, hr, ?_, ?_⟩
              · show ∀ j, _
                intro j hj
                by_cases h : j = m + 1
                · subst h; exact ⟨sizeOk_next HS.out HP.out HI.out (by have := HSP.out; omega) (by rw [hr]; omega), HTOK.out⟩
                · exact HA.out j (by omega)
              · show ∃ n, _
                first | exact drewN_more' HN.out _ | exact drewN_more' (drewN_more' HN.out _) _ | exact drewN_more' (drewN_more' (drewN_more' HN.out _) _) _
            case measure => simp [intOf]; omega
          · go_wp2_with fail
            go_quiet ((first | (go_at_call 109; exact l06Time_quiet) | (go_at_call 104; exact l04Power_quiet)))
            go_wp2_with fail
            go_quiet (fail)
            go_wp2_with fail
            go_quiet (fail)
            go_wp2
            go_ret
            have hr := (runK_eq HS.out HP.out HSP.out).trans (by rw [HR.out])
            refine ⟨ret_bool (winB_size hlt (sizeOk_run (by rw [hr]; omega))).symm, ?_⟩
            first | exact drewN_more' HN.out _ | exact drewN_more' (drewN_more' HN.out _) _ | exact drewN_more' (drewN_more' (drewN_more' HN.out _) _) _
        · have hd1 : decide (p < s) = true := by simp; omega
          have HSP := Lib.hid hsp
          go_wp2_with fail
          go_quiet ((first | (go_at_call 109; exact l06Time_quiet) | (go_at_call 104; exact l04Power_quiet)))
          go_wp2_with fail
          go_quiet (fail)
          go_wp2
          go_ret
          refine ⟨ret_bool (winB_size hlt (sizeOk_gt HS.out HP.out HSP.out)).symm, ?_⟩
          first | exact drewN_more' HN.out _ | exact drewN_more' (drewN_more' HN.out _) _ | exact drewN_more' (drewN_more' (drewN_more' HN.out _) _) _
    · obtain rfl : k = ts.length := by omega
      go_wp2
      go_ret
      refine ⟨ret_bool (winB_yes H1.out H2.out h3 H4.out ?_ fun j hj => (HA.out j hj).1).symm, HN.out⟩
      rw [List.all_eq_true]
      intro j hj
      exact (HA.out j (by simpa using hj)).2
end Go.Proofs.YtockifchghllhaaDoor
