/- Bands: the reference's text. -/
import Derived.Test.YtofbnddmahjanaaBandI
namespace Go.Proofs.Ytofbnddmahjanaa
open Go.RowKit

theorem pre_snoc {X Y : List Bool} {p k : Nat} (hp : p ≤ k) (h1 : k < X.length) (h2 : k < Y.length) :
    decide ((X.drop p).take (k + 1 - p) = (Y.drop p).take (k + 1 - p)) = (decide ((X.drop p).take (k - p) = (Y.drop p).take (k - p)) && (X[k]?.getD false == Y[k]?.getD false)) := by
  have e : k + 1 - p = (k - p) + 1 := by omega
  have e2 : p + (k - p) = k := by omega
  rw [e, List.take_add_one, List.take_add_one, List.getElem?_drop, List.getElem?_drop, e2, List.getElem?_eq_getElem h1, List.getElem?_eq_getElem h2]
  simp only [Option.toList_some, Option.getD_some]
  have key : ((X.drop p).take (k - p) ++ [X[k]] = (Y.drop p).take (k - p) ++ [Y[k]]) ↔ ((X.drop p).take (k - p) = (Y.drop p).take (k - p) ∧ X[k] = Y[k]) := by
    constructor
    · intro h
      have := List.append_inj' h rfl
      exact ⟨this.1, by simpa using this.2⟩
    · rintro ⟨h3, h4⟩
      rw [h3, h4]
  by_cases h3 : (X.drop p).take (k - p) = (Y.drop p).take (k - p) <;> by_cases h4 : X[k] = Y[k] <;> simp_all

set_option maxRecDepth 8000 in
set_option maxHeartbeats 4000000 in
theorem l07Band_any {a1 a2 : Option Addr} {c1 c2 : Nat} {X Y : List Bool} {n W m : Nat} {w : World} (hx : Rd Value.bool w a1 c1 X) (hy : Rd Value.bool w a2 c2 Y) (hX : Hid (X.length = n)) (hY : Hid (Y.length = n)) (hn : n ≤ 32) (hW : 1 ≤ W) (hWn : W ≤ n) (hm : Hid (n = m * W)) :
    Calls Try.prog 61 #[.slice a1 n c1, .slice a2 n c2, .int .i64 (W : Int)] w fun e w' => e = .returned (.bool (bandTo X Y W m)) ∧ ∃ d, w' = w.drewN d := by
  have hix := hx.idx und_bs siz_bs
  have hiy := hy.idx und_bs siz_bs
  rw [hX.out] at hix
  rw [hY.out] at hiy
  have HR := Lib.hid (And.intro hx hy)
  clear hx hy
  go_enter Try.func61, Try.ntmps61
  go_wp2
  go_loopw [7, 8, 9] (fun t _ _ wr => ∃ (q p : Nat), t = .int .i64 p ∧ p ≤ n ∧ Hid (p = q * W ∧ q ≤ m) ∧ Hid (bandTo X Y W q = false) ∧ Hid (∃ d, wr = w.drewN d)) (fun t _ _ _ => n - (intOf t).toNat)
  case atStart => exact ⟨0, 0, rfl, Nat.zero_le _, by show _ ∧ _; simp, by show _ = _; rfl, by show ∃ d, _; exact ⟨0, rfl⟩⟩
  case round =>
    obtain ⟨q, p, rfl, hpn, HQ, HF, HD⟩ := hrel
    obtain ⟨wa, rfl⟩ : ∃ wa : World, wa = wr := ⟨_, rfl⟩
    by_cases hl3 : p < n
    · have hst : q < m ∧ p + W ≤ n := by
        have := band_step (j := q) (m := m) (W := W) (by rw [← HQ.out.1, ← hm.out]; exact hl3)
        refine ⟨this.1, ?_⟩
        rw [HQ.out.1, hm.out]; exact this.2
      have hpW : p + W ≤ n := hst.2
      have HST := Lib.hid hst
      clear hst
      go_wp2_with fail
      go_loopw [8, 9] (fun s t wr => ∃ (k : Nat) (b : Bool), p ≤ k ∧ k ≤ p + W ∧ s = .bool b ∧ t = .int .i64 k ∧ Hid (b = decide ((X.drop p).take (k - p) = (Y.drop p).take (k - p))) ∧ Hid (∃ d, wr = w.drewN d)) (fun _ t _ => p + W - (intOf t).toNat)
      case atStart => exact ⟨p, true, Nat.le_refl _, by omega, rfl, rfl, by show _ = _; simp, HD⟩
      case round =>
        obtain ⟨k, b, hk1, hk2, rfl, rfl, HS, HE⟩ := hrel
        obtain ⟨wq, rfl⟩ : ∃ wq : World, wq = wr := ⟨_, rfl⟩
        by_cases hlk : k < p + W
        · have hbq : Below w.heap.size w wq := by obtain ⟨d, hd⟩ := HE.out; rw [hd]; exact below_of_drewN _ _ _
          have hcx := (HR.out.1.below hbq (Nat.le_refl _)).cell k (by rw [hX.out]; omega)
          have hcy := (HR.out.2.below hbq (Nat.le_refl _)).cell k (by rw [hY.out]; omega)
          have hsn := pre_snoc (X := X) (Y := Y) hk1 (by rw [hX.out]; omega) (by rw [hY.out]; omega)
          rw [← HS.out] at hsn
          have e0 : (default : Bool) = false := rfl
          rw [e0] at hcx hcy
          generalize X[k]?.getD false = x at hcx hsn
          generalize Y[k]?.getD false = y at hcy hsn
          have HSN := Lib.hid hsn
          have hkn : k < n := by omega
          clear hsn hbq e0
          cases b with
          | true =>
            go_wp2_with fail
            go_quiet (fail)
            have HD2 : Hid (∃ d, wq.drewN nq = w.drewN d) := by
              obtain ⟨d, hd⟩ := HE.out
              exact Lib.hid ⟨d + nq, by rw [hd, World.drewN_drewN]⟩
            clear hcx hcy
            go_wp2
            go_roundw
            case rel => exact ⟨k + 1, _, by omega, by omega, rfl, by go_num, by show _ = _; rw [HSN.out]; simp, HD2⟩
            case measure => simp [intOf]; omega
          | false =>
            go_wp2_with fail
            go_quiet (fail)
            have HD2 : Hid (∃ d, wq.drewN nq = w.drewN d) := by
              obtain ⟨d, hd⟩ := HE.out
              exact Lib.hid ⟨d + nq, by rw [hd, World.drewN_drewN]⟩
            clear hcx hcy
            go_wp2
            go_roundw
            case rel => exact ⟨k + 1, _, by omega, by omega, rfl, by go_num, by show _ = _; rw [HSN.out]; simp, HD2⟩
            case measure => simp [intOf]; omega
        · obtain rfl : k = p + W := by omega
          have hb : b = decide (bandOf X W q = bandOf Y W q) := by
            rw [HS.out, Nat.add_sub_cancel_left]; unfold bandOf; rw [← HQ.out.1]
          have HB := Lib.hid hb
          clear hb
          cases b with
          | true =>
            go_wp2
            go_ret
            exact ⟨ret_bool (bandTo_yes HB.out.symm HST.out.1).symm, HE.out⟩
          | false =>
            go_wp2
            go_roundw
            case rel => exact ⟨q + 1, p + W, by go_num, hpW, by show _ ∧ _; refine ⟨?_, HST.out.1⟩; rw [HQ.out.1, Nat.add_mul, Nat.one_mul], by show _ = _; exact bandTo_succ_no HF.out HB.out.symm, HE⟩
            case measure => simp [intOf]; omega
    · have hqm : q = m := band_end hW HQ.out.2 (by rw [← HQ.out.1, ← hm.out]; exact hl3)
      have HQM : Hid (bandTo X Y W m = false) := Lib.hid (by rw [← hqm]; exact HF.out)
      clear hqm
      go_wp2
      go_ret
      exact ⟨ret_bool HQM.out.symm, HD.out⟩

end Go.Proofs.Ytofbnddmahjanaa
