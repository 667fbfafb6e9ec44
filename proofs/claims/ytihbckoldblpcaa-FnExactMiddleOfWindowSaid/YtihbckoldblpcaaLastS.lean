/- OftenInWindow in the reference's text. -/
import Derived.Test.YtihbckoldblpcaaLast
import Derived.Test.YtihbckoldblpcaaSorted
import Derived.Test.YtihbckoldblpcaaSketchS
import Derived.Test.YtihbckoldblpcaaWinS
namespace Go.Proofs.Ytihbckoldblpcaa
open Go.RowKit

set_option maxRecDepth 8000 in
set_option maxHeartbeats 2000000 in
theorem l06List_any {a : Option Addr} {c : Nat} {xs : List Int} {L : Int} {w : World} (hr : Rd (Value.int .i64) w a c xs) :
    Calls Try.prog 54 #[.slice a xs.length c, .int .i64 L] w fun e w' => e = .returned (.bool (lstB L xs)) ∧ w = w' := by
  have hln := hr.len
  go_enter Try.func54, Try.ntmps54
  go_wp2
  go_loop [5] (fun i => ∃ k : Nat, k ≤ xs.length ∧ i = .int .i64 k ∧ Hid (∀ x ∈ xs.take k, inR x (-1000000) 1000000 = true)) (fun i => xs.length - (intOf i).toNat)
  case atStart => exact ⟨0, Nat.zero_le _, rfl, Lib.hid (by simp)⟩
  case round =>
    obtain ⟨k, hk, rfl, HP⟩ := hrel
    by_cases hlt : k < xs.length
    · have hix := hr.idx und_is siz_is
      obtain ⟨x, hx⟩ : ∃ x, at0 xs k = x := ⟨_, rfl⟩
      have hcx := at0_cell hr hlt hx
      have hgx : xs[k] = x := by rw [← hx]; simp [at0, hlt]
      have HX := Lib.hid hgx
      have ewk : IntKind.i64.wrap ((k : Int) + 1) = (k : Int) + 1 := IntWalk.i64_in _ (by omega)
      clear hx hgx
      cases hin : inR x (-1000000) 1000000 with
      | false =>
        have hf : lstB L xs = false := by
          have : xs.all (fun x => inR x (-1000000) 1000000) = false := by
            rw [List.all_eq_false]
            exact ⟨xs[k], List.getElem_mem hlt, by rw [HX.out, hin]; simp⟩
          unfold lstB; rw [this]; simp
        have HF := Lib.hid hf
        clear hf
        go_wp2_with fail
        refine (l00In_any _ _ _ _).mono ?_
        rintro e w1 ⟨rfl, rfl⟩
        rw [hin]
        go_wp2
        go_ret
        exact ⟨ret_bool HF.out.symm, rfl⟩
      | true =>
        have hs : ∀ y ∈ xs.take (k + 1), inR y (-1000000) 1000000 = true := by
          intro y hy
          rw [List.take_succ_eq_append_getElem hlt, List.mem_append] at hy
          rcases hy with hy | hy
          · exact HP.out y hy
          · rw [List.mem_singleton] at hy
            rw [hy, HX.out, hin]
        have HS := Lib.hid hs
        clear hs
        go_wp2_with fail
        refine (l00In_any _ _ _ _).mono ?_
        rintro e w1 ⟨rfl, rfl⟩
        rw [hin]
        go_wp2
        go_round
        case rel => exact ⟨k + 1, by omega, by go_num, HS⟩
        case measure => simp [intOf]; omega
    · have hall : xs.all (fun x => inR x (-1000000) 1000000) = true := by
        rw [List.all_eq_true]
        intro x hx
        exact HP.out x (by rw [List.take_of_length_le (by omega)]; exact hx)
      have hl : lstB L xs = (inR xs.length 1 128 && inR L 1 128) := by unfold lstB; rw [hall]; simp
      have HL := Lib.hid hl
      clear hall hl
      by_cases h1 : 1 ≤ xs.length
      · have hd : decide ((1 : Int) ≤ (xs.length : Int)) = true := by simp; omega
        have hdn : decide (1 ≤ xs.length) = true := by simp; omega
        have hdn2 : decide (0 < xs.length) = true := by simp; omega
        by_cases h2 : xs.length ≤ 128
        · have hd2 : decide ((xs.length : Int) ≤ 128) = true := by simp; omega
          have hd2n : decide (xs.length ≤ 128) = true := by simp; omega
          have he : inR xs.length 1 128 = true := by simp [inR]; omega
          have HE := Lib.hid he
          clear he
          go_wp2_with fail
          refine (l00In_any _ _ _ _).mono ?_
          rintro e w1 ⟨rfl, rfl⟩
          go_wp2
          go_ret
          exact ⟨ret_bool (by rw [HL.out, HE.out]; rfl), rfl⟩
        · have hd2 : decide ((xs.length : Int) ≤ 128) = false := by simp; omega
          have hd2n : decide (xs.length ≤ 128) = false := by simp; omega
          have he : inR xs.length 1 128 = false := by simp [inR]; omega
          have HE := Lib.hid he
          clear he
          go_wp2
          go_ret
          exact ⟨ret_bool (by rw [HL.out, HE.out]; rfl), rfl⟩
      · have hd : decide ((1 : Int) ≤ (xs.length : Int)) = false := decide_eq_false (by omega)
        have hdn : decide (1 ≤ xs.length) = false := decide_eq_false (by omega)
        have hdn2 : decide (0 < xs.length) = false := decide_eq_false (by omega)
        have he : inR xs.length 1 128 = false := by simp [inR]; omega
        have HE := Lib.hid he
        clear he
        go_wp2
        go_ret
        exact ⟨ret_bool (by rw [HL.out, HE.out]; rfl), rfl⟩

theorem l06Last_any {a : Option Addr} {c : Nat} {xs : List Int} {i : Nat} {L : Int} {w : World} (hr : Rd (Value.int .i64) w a c xs) (hi : i < xs.length) (hn : xs.length ≤ 1048576) (hL : 1 ≤ L ∧ L ≤ 128) :
    Calls Try.prog 56 #[.slice a xs.length c, .int .i64 i, .int .i64 L] w fun e w' => ∃ a2 c2, e = .returned (.slice a2 (lastL xs L i).length c2) ∧ Rd (Value.int .i64) w a2 c2 (lastL xs L i) ∧ w = w' := by
  obtain ⟨lo, hlo⟩ : ∃ lo : Nat, ((i : Int) - L + 1).toNat = lo := ⟨_, rfl⟩
  obtain ⟨zs, hzs⟩ : ∃ zs, lastL xs L i = zs := ⟨_, rfl⟩
  obtain ⟨a2, c2, hrun, hrd⟩ := hr.midRun (P := Try.prog) und_is siz_is (lo := lo) (hi := i + 1) (by omega) (by omega)
  have hzs2 : (xs.take (i + 1)).drop lo = zs := by rw [← hzs]; unfold lastL; rw [hlo]
  have hlen : i + 1 - lo = zs.length := by rw [← hzs2]; simp; omega
  rw [hzs]
  have HRD : Hid (Rd (Value.int .i64) w a2 c2 zs) := Lib.hid (hzs2 ▸ hrd w hr)
  have HL := Lib.hid hlen
  have e1 : IntKind.i64.wrap ((i : Int) - L) = (i : Int) - L := IntWalk.i64_in _ (by omega)
  have e2 : IntKind.i64.wrap ((i : Int) - L + 1) = (i : Int) - L + 1 := IntWalk.i64_in _ (by omega)
  have e3 : IntKind.i64.wrap ((i : Int) + 1) = (i : Int) + 1 := IntWalk.i64_in _ (by omega)
  have hmx : max (0 : Int) ((i : Int) - L + 1) = (lo : Int) := by omega
  have HMX := Lib.hid hmx
  have hrun2 : ∀ w' : World, (Instr.sliceAt 37 (.slice a xs.length c) (some (.int .i64 (lo : Int))) (some (.int .i64 ((i : Int) + 1))) none).run Try.prog w' = .ok (.slice a2 (i + 1 - lo) c2) w' := by
    have e : ((i : Int) + 1) = ((i + 1 : Nat) : Int) := by omega
    rw [e]; exact hrun
  clear hrd hlo hlen hrun hzs hzs2 hmx
  go_enter Try.func56, Try.ntmps56
  go_wp2_with fail
  refine l00Max_any.mono ?_
  rintro e w1 ⟨rfl, rfl⟩
  rw [HMX.out]
  go_wp2
  go_ret
  exact ⟨a2, c2, by rw [HL.out]; rfl, HRD.out, rfl⟩

end Go.Proofs.Ytihbckoldblpcaa
