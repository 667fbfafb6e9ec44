/- impl.CountExactly: walked, valid arguments. -/
import Derived.Test.YtncbkbfkdgggkaaQWn40
import Derived.Test.YtncbkbfkdgggkaaQWn30
import Derived.Test.YtncbkbfkdgggkaaQWn5
namespace Go.Proofs.Ytncbkbfkdgggkaa
open Go.RowKit
attribute [local go_sem ↓] Go.wp_at_zero Go.wp_at_succ

theorem cexN_le (tm : List Int) (bs : List Bool) (c t : Int) : ∀ k, cexN tm bs c t k ≤ k
  | 0 => Nat.le_refl _
  | k + 1 => by
    have := cexN_le tm bs c t k
    unfold cexN
    split <;> omega

set_option maxRecDepth 20000 in
set_option maxHeartbeats 2000000 in
theorem implCex_any {a b : Option Addr} {c d n : Nat} {tm : List Int} {bs : List Bool} {t L : Int} {w : World} (hr : Rd (Value.int .i64) w a c tm) (hb : Rd Value.bool w b d bs) (hl : tm.length = n) (hl2 : bs.length = n) (h1 : 1 ≤ n) (h2 : n ≤ 128) (hT : (List.range n).all (timeOk tm) = true) (ht : 0 ≤ t ∧ t ≤ 1000000) (hL : 1 ≤ L ∧ L ≤ 1000000) :
    Calls Try.prog 10 #[.slice a n c, .slice b n d, .int .i64 t, .int .i64 L] w fun e w' => e = .returned (.tuple #[.int .i64 (cexN tm bs (t - L) t n : Int), .bool true]) ∧ Below w.heap.size w w' := by
  have hA := areTimes_any hr
  rw [hl, hT] at hA
  have HA := Lib.hid hA
  have HR := Lib.hid (And.intro hr hl)
  have HB := Lib.hid (And.intro hb hl2)
  have i1 : inR ((n : Nat) : Int) 1 128 = true := (inR_eq _ _ _).2 ⟨by omega, by omega⟩
  have i2 : inR t 0 1000000 = true := (inR_eq _ _ _).2 ht
  have i3 : inR L 1 1000000 = true := (inR_eq _ _ _).2 hL
  have hne : ((n : Int) != (n : Int)) = false := by simp
  clear hr hb hA hT hl hl2
  go_enter Try.func10, Try.ntmps10
  go_wp2_with fail
  refine (isStream_any).mono ?_
  rintro e w1 ⟨rfl, rfl⟩
  rw [i1]
  go_wp2_with fail
  refine HA.out.mono ?_
  rintro e w2 ⟨rfl, b2⟩
  have HB2 := Lib.hid b2
  clear b2 HA
  go_wp2_with fail
  refine isTime_any.mono ?_
  rintro e w3 ⟨rfl, rfl⟩
  rw [i2]
  go_wp2_with fail
  refine (within_any _ _ _ _).mono ?_
  rintro e w3 ⟨rfl, rfl⟩
  rw [i3]
  go_wp2_with fail
  clear i1 i2 i3 hne
  have es : IntKind.i64.wrap (t - L) = t - L := IntWalk.i64_in _ (by omega)
  go_loopw [10, 41] (fun cv iv wr => ∃ k : Nat, k ≤ n ∧ iv = .int .i64 (k : Int) ∧ cv = .int .i64 (cexN tm bs (t - L) t k : Int) ∧ Hid (Below w.heap.size w wr)) (fun _ iv _ => n - (intOf iv).toNat)
  case atStart => exact ⟨0, Nat.zero_le _, rfl, rfl, HB2⟩
  case round =>
    clear HB2
    obtain ⟨k, hk, rfl, rfl, HW⟩ := hrel
    by_cases hlt : k < n
    · have hlz : (k : Int) < (n : Int) := by omega
      obtain ⟨wk, rfl⟩ : ∃ z : World, z = wr := ⟨_, rfl⟩
      have ek : IntKind.i64.wrap ((k : Int) + 1) = (k : Int) + 1 := IntWalk.i64_in _ (by omega)
      have rt := HR.out.1.below HW.out (Nat.le_refl _)
      have ixt := fun w' : World => rt.idx und_is siz_is w' k (by rw [HR.out.2]; exact hlt)
      rw [HR.out.2] at ixt
      have rb := HB.out.1.below HW.out (Nat.le_refl _)
      have ixb := fun w' : World => rb.idx und_bs siz_bs w' k (by rw [HB.out.2]; exact hlt)
      rw [HB.out.2] at ixb
      have clb := rb.cell k (by rw [HB.out.2]; exact hlt)
      obtain ⟨x, hx⟩ : ∃ x, at0 tm k = x := ⟨_, rfl⟩
      have clt := at0_cell rt (by rw [HR.out.2]; exact hlt) hx
      have hcn : cexN tm bs (t - L) t (k + 1) = cexN tm bs (t - L) t k + if bs[k]?.getD default && (decide (t - L < at0 tm k) && decide (at0 tm k ≤ t)) then 1 else 0 := rfl
      rw [hx] at hcn
      have hle := cexN_le tm bs (t - L) t k
      generalize cexN tm bs (t - L) t k = q at *
      generalize bs[k]?.getD default = bit at *
      have HCN := Lib.hid hcn
      have ec : IntKind.i64.wrap ((q : Int) + 1) = (q : Int) + 1 := IntWalk.i64_in _ (by omega)
      clear rt rb hx hcn
      cases bit with
      | false =>
        go_wp2
        go_roundw
        case rel => exact ⟨k + 1, by omega, by go_num, by rw [HCN.out]; rfl, HW⟩
        case measure => simp [intOf]; omega
      | true =>
        by_cases g1 : t - L < x
        · by_cases g2 : x ≤ t
          · have d1 : decide (x > t - L) = true := decide_eq_true g1
            go_wp2
            go_roundw
            case rel => exact ⟨k + 1, by omega, by go_num, by rw [HCN.out, decide_eq_true g1, decide_eq_true g2]; simp, HW⟩
            case measure => simp [intOf]; omega
          · have d1 : decide (x > t - L) = true := decide_eq_true g1
            go_wp2
            go_roundw
            case rel => exact ⟨k + 1, by omega, by go_num, by rw [HCN.out, decide_eq_true g1, decide_eq_false g2]; simp, HW⟩
            case measure => simp [intOf]; omega
        · have d1 : decide (x > t - L) = false := decide_eq_false g1
          go_wp2
          go_roundw
          case rel => exact ⟨k + 1, by omega, by go_num, by rw [HCN.out, decide_eq_false g1]; simp, HW⟩
          case measure => simp [intOf]; omega
    · obtain rfl : k = n := by omega
      have hlz : ¬ (k : Int) < (k : Int) := by omega
      go_wp2
      go_ret2
      exact ⟨rfl, HW.out⟩

end Go.Proofs.Ytncbkbfkdgggkaa
