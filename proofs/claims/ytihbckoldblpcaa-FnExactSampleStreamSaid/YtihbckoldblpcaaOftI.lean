/- OftenInWindow's number of one window, in the program's text. -/
import Derived.Test.YtihbckoldblpcaaSortC
import Derived.Test.YtihbckoldblpcaaCut
import Derived.Test.YtihbckoldblpcaaWinI
import Derived.IntWalk
import Derived.Laws.Small
namespace Go.Proofs.Ytihbckoldblpcaa
open Go.RowKit

theorem oft_go {ys : List Int} {k : Nat} (h : (oft ys k).2 < runK ys (k + 1)) : oft ys (k + 1) = (at0 ys k, runK ys (k + 1)) := by rw [oft, if_pos h]
theorem oft_stay {ys : List Int} {k : Nat} (h : ¬ (oft ys k).2 < runK ys (k + 1)) : oft ys (k + 1) = oft ys k := by rw [oft, if_neg h]

set_option maxRecDepth 8000 in
set_option maxHeartbeats 2000000 in
theorem often1_any {a : Option Addr} {c : Nat} {xs : List Int} {w : World} (hr : Rd (Value.int .i64) w a c xs) (hn : xs.length ≤ 1048576) (hne : xs ≠ []) :
    Calls Try.prog 75 #[.slice a xs.length c] w fun e w' => e = .returned (.int .i64 (oftR (srt xs))) ∧ Below w.heap.size w w' := by
  obtain ⟨ys, hys⟩ : ∃ ys, srt xs = ys := ⟨_, rfl⟩
  rw [hys]
  go_enter Try.func75, Try.ntmps75
  go_wp2_with fail
  refine (clonei_any _ _ _ _ hr hn).mono ?_
  rintro e w1 ⟨a1, c1, rfl, ho1, hb1⟩
  go_wp2_with fail
  refine (sorti_own ho1 hn hne).mono ?_
  rintro e w2 ⟨rfl, ho2, hg2⟩
  have HB := Lib.hid (hb1.trans (grown_belowOwn ho1 hg2 (Nat.le_refl _) hb1.size))
  have hl : xs.length = ys.length := by rw [← hys, srt_len]
  rw [hys] at ho2
  have HN := Lib.hid (And.intro hn hne)
  have hpos : 0 < ys.length := by rw [← hl]; exact List.length_pos_iff.2 hne
  have hn : ys.length ≤ 1048576 := by omega
  rw [hl]
  have HR := Lib.hid ho2.rd
  have hix := ho2.rd.idx und_is siz_is
  have hi0 := rd_idxAt ho2.rd und_is siz_is 0 hpos 0 rfl
  obtain ⟨z, hz⟩ : ∃ z, at0 ys 0 = z := ⟨_, rfl⟩
  have hc0 := at0_cell ho2.rd hpos hz
  have HZ := Lib.hid hz
  clear hr hne hb1 ho1 ho2 hg2 hys hl hz
  go_wp2_with fail
  clear hc0
  go_loop [4, 5, 6, 18] (fun b m r i => ∃ (k : Nat) (B M R : Int), k ≤ ys.length ∧ i = .int .i64 k ∧ b = .int .i64 B ∧ m = .int .i64 M ∧ r = .int .i64 R ∧ 0 ≤ R ∧ R ≤ k ∧ Hid (oft ys k = (B, M)) ∧ Hid (runK ys k = R)) (fun _ _ _ i => ys.length - (intOf i).toNat)
  case atStart => exact ⟨0, z, 0, 0, Nat.zero_le _, rfl, rfl, rfl, rfl, by omega, by omega, Lib.hid (by rw [← HZ.out]; rfl), Lib.hid rfl⟩
  case round =>
    obtain ⟨k, B, M, R, hk, rfl, rfl, rfl, rfl, hR0, hR1, HO, HK⟩ := hrel
    by_cases hlt : k < ys.length
    · obtain ⟨x, hx⟩ : ∃ x, at0 ys k = x := ⟨_, rfl⟩
      have hcx := at0_cell HR.out hlt hx
      have HX := Lib.hid hx
      clear hx
      -- the run behind this number
      have hrun : ∃ R2 : Int, 0 ≤ R2 ∧ R2 ≤ k ∧ runK ys (k + 1) = R2 + 1 ∧ ((k = 0 ∧ R2 = R) ∨ (0 < k ∧ (if at0 ys k = at0 ys (k - 1) then R2 = R else R2 = 0))) := by
        by_cases h0 : k = 0
        · subst h0
          refine ⟨0, by omega, by omega, by rw [runK_zero]; rfl, .inl ⟨rfl, ?_⟩⟩
          have := HK.out
          simp [runK] at this
          omega
        · by_cases he : at0 ys k = at0 ys (k - 1)
          · exact ⟨R, hR0, hR1, by rw [runK_same (by omega) he, HK.out], .inr ⟨by omega, by rw [if_pos he]⟩⟩
          · exact ⟨0, by omega, by omega, by rw [runK_new he]; rfl, .inr ⟨by omega, by rw [if_neg he]⟩⟩
      obtain ⟨R2, h20, h21, hru, hway⟩ := hrun
      have HRU := Lib.hid hru
      have hMO : ∀ B' M', (if M < R2 + 1 then (B' = x ∧ M' = R2 + 1) else (B' = B ∧ M' = M)) → oft ys (k + 1) = (B', M') := by
        intro B' M' h
        have hM : (oft ys k).2 = M := by rw [HO.out]
        split at h
        · rename_i hlt2
          rw [oft_go (by rw [hM, hru]; exact hlt2), hru, HX.out, h.1, h.2]
        · rename_i hlt2
          rw [oft_stay (by rw [hM, hru]; exact hlt2), HO.out, h.1, h.2]
      have HMO := Lib.hid hMO
      clear hru hMO
      have ew : IntKind.i64.wrap (R2 + 1) = R2 + 1 := IntWalk.i64_in _ (by omega)
      have ewk : IntKind.i64.wrap ((k : Int) + 1) = (k : Int) + 1 := IntWalk.i64_in _ (by omega)
      have hend : ∀ B' M', oft ys (k + 1) = (B', M') → True := fun _ _ _ => trivial
      by_cases hM : M < R2 + 1
      · have HR2 := HMO.out x (R2 + 1) (by rw [if_pos hM]; exact ⟨rfl, rfl⟩)
        have HR3 := Lib.hid HR2
        have hdm : decide (M < R2 + 1) = true := by simpa using hM
        clear HR2 hend
        rcases hway with ⟨h0, he⟩ | ⟨h0, he⟩
        · subst h0 he
          go_wp2
          go_round
          case rel => exact ⟨1, x, _, _, by omega, by go_num, rfl, rfl, rfl, by omega, by omega, HR3, HRU⟩
          case measure => simp [intOf]; omega
        · have hd0 : decide ((0 : Int) < (k : Int)) = true := by simp; omega
          have hdn : decide (0 < k) = true := by simp; omega
          have hixp := rd_idxAt HR.out und_is siz_is (k - 1) (by omega) ((k : Int) - 1) (by omega)
          obtain ⟨y, hy⟩ : ∃ x, at0 ys (k - 1) = x := ⟨_, rfl⟩
          have hcy := at0_cell HR.out (by omega) hy
          rw [HX.out, hy] at he
          have ewm : IntKind.i64.wrap ((k : Int) - 1) = (k : Int) - 1 := IntWalk.i64_in _ (by omega)
          by_cases hxy : x = y
          · rw [if_pos hxy] at he
            subst he
            have hbn : (x != y) = false := by simp [hxy]
            have HXY := Lib.hid hxy
            clear hxy hy
            go_wp2
            go_round
            case rel => exact ⟨k + 1, x, _, _, by omega, by go_num, rfl, rfl, rfl, by omega, by omega, HR3, HRU⟩
            case measure => simp [intOf]; omega
          · rw [if_neg hxy] at he
            subst he
            have hbn : (x != y) = true := by simpa using hxy
            have HXY := Lib.hid hxy
            clear hxy hy
            go_wp2
            go_round
            case rel => exact ⟨k + 1, x, _, _, by omega, by go_num, rfl, rfl, rfl, by omega, by omega, HR3, HRU⟩
            case measure => simp [intOf]; omega
      · have HR2 := HMO.out B M (by rw [if_neg hM]; exact ⟨rfl, rfl⟩)
        have HR3 := Lib.hid HR2
        have hdm : decide (M < R2 + 1) = false := by simpa using hM
        clear HR2 hend
        rcases hway with ⟨h0, he⟩ | ⟨h0, he⟩
        · subst h0 he
          go_wp2
          go_round
          case rel => exact ⟨1, B, _, _, by omega, by go_num, rfl, rfl, rfl, by omega, by omega, HR3, HRU⟩
          case measure => simp [intOf]; omega
        · have hd0 : decide ((0 : Int) < (k : Int)) = true := by simp; omega
          have hdn : decide (0 < k) = true := by simp; omega
          have hixp := rd_idxAt HR.out und_is siz_is (k - 1) (by omega) ((k : Int) - 1) (by omega)
          obtain ⟨y, hy⟩ : ∃ x, at0 ys (k - 1) = x := ⟨_, rfl⟩
          have hcy := at0_cell HR.out (by omega) hy
          rw [HX.out, hy] at he
          have ewm : IntKind.i64.wrap ((k : Int) - 1) = (k : Int) - 1 := IntWalk.i64_in _ (by omega)
          by_cases hxy : x = y
          · rw [if_pos hxy] at he
            subst he
            have hbn : (x != y) = false := by simp [hxy]
            have HXY := Lib.hid hxy
            clear hxy hy
            go_wp2
            go_round
            case rel => exact ⟨k + 1, B, _, _, by omega, by go_num, rfl, rfl, rfl, by omega, by omega, HR3, HRU⟩
            case measure => simp [intOf]; omega
          · rw [if_neg hxy] at he
            subst he
            have hbn : (x != y) = true := by simpa using hxy
            have HXY := Lib.hid hxy
            clear hxy hy
            go_wp2
            go_round
            case rel => exact ⟨k + 1, B, _, _, by omega, by go_num, rfl, rfl, rfl, by omega, by omega, HR3, HRU⟩
            case measure => simp [intOf]; omega
    · have hk' : k = ys.length := by omega
      subst hk'
      go_wp2
      go_ret
      exact ⟨ret_int (by show B = (oft ys ys.length).1; rw [HO.out]), HB.out⟩

theorem lastOnes_any {a : Option Addr} {c : Nat} {xs : List Int} {i : Nat} {L : Int} {w : World} (hr : Rd (Value.int .i64) w a c xs) (hi : i < xs.length) (hn : xs.length ≤ 1048576) (hL : 1 ≤ L ∧ L ≤ 128) :
    Calls Try.prog 114 #[.slice a xs.length c, .int .i64 i, .int .i64 L] w fun e w' => ∃ a2 c2, e = .returned (.slice a2 (lastL xs L i).length c2) ∧ Rd (Value.int .i64) w a2 c2 (lastL xs L i) ∧ w = w' := by
  obtain ⟨lo, hlo⟩ : ∃ lo : Nat, ((i : Int) - L + 1).toNat = lo := ⟨_, rfl⟩
  obtain ⟨zs, hzs⟩ : ∃ zs, lastL xs L i = zs := ⟨_, rfl⟩
  obtain ⟨a2, c2, hrun, hrd⟩ := hr.midRun (P := Try.prog) und_is siz_is (lo := lo) (hi := i + 1) (by omega) (by omega)
  have hzs2 : (xs.take (i + 1)).drop lo = zs := by rw [← hzs]; unfold lastL; rw [hlo]
  have hlen : i + 1 - lo = zs.length := by rw [← hzs2]; simp; omega
  rw [hzs]
  have HRD : Hid (Rd (Value.int .i64) w a2 c2 zs) := Lib.hid (hzs2 ▸ hrd w hr)
  have HL := Lib.hid hlen
  have e1 : IntKind.i64.wrap ((i : Int) - L) = (i : Int) - L := IntWalk.i64_in _ (by omega)
  have e2 : IntKind.i64.wrap ((i : Int) - L + 1) = (i : Int) - L + 1 := IntWalk.i64_in _ (by omega)
  have e3 : IntKind.i64.wrap ((i : Int) + 1) = (i : Int) + 1 := IntWalk.i64_in _ (by omega)
  have hmax : ∀ w', (Builtin.max_ #[3, 3] 3 #[.int .i64 0, .int .i64 ((i : Int) - L + 1)]).run Try.prog w' = .ok (.int .i64 (lo : Int)) w' := by
    intro w'
    rw [run_max_int2]
    have : (if (i : Int) - L + 1 > 0 then (i : Int) - L + 1 else 0) = (lo : Int) := by split <;> omega
    rw [this]
  have hrun2 : ∀ w' : World, (Instr.sliceAt 37 (.slice a xs.length c) (some (.int .i64 (lo : Int))) (some (.int .i64 ((i : Int) + 1))) none).run Try.prog w' = .ok (.slice a2 (i + 1 - lo) c2) w' := by
    have e : ((i : Int) + 1) = ((i + 1 : Nat) : Int) := by omega
    rw [e]; exact hrun
  clear hrd hlo hlen hrun hzs hzs2
  go_enter Try.func114, Try.ntmps114
  go_wp2
  go_ret
  exact ⟨a2, c2, by rw [HL.out]; rfl, HRD.out, rfl⟩

end Go.Proofs.Ytihbckoldblpcaa
