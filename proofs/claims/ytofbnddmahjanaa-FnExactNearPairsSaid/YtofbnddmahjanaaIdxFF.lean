/- slices.IndexFunc and slices.ContainsFunc at [][]float32, for whatever closure. -/
import Derived.Test.YtofbnddmahjanaaNestF
namespace Go.Proofs.Ytofbnddmahjanaa
open Go.RowKit

set_option maxHeartbeats 400000 in
theorem indexFuncff_any (a : Option Addr) (c : Nat) (xs : List Hd) (ps : List Bool) (w : World) (F : Nat) (caps : Array Value) (hF : ∀ (vs : Array Value) (w : World), (callFunc F vs).run Try.prog w = .ok (.enter F vs) w) (hl : ps.length = xs.length) (hr : Rd hdV w a c xs)
    (hclo : ∀ k (h : k < ps.length) wr, Below w.heap.size w wr → Calls Try.prog F (#[hdV (xs[k]?.getD default)] ++ caps) wr fun e w' => e = .returned (.bool ps[k]) ∧ Below wr.heap.size wr w') :
    Calls Try.prog 151 #[.slice a ps.length c, .func (.func F) #[] caps] w fun e w' => e = .returned (.int .i64 (idxOf id ps)) ∧ Below w.heap.size w w' := by
  have hln := hr.len
  rw [← hl] at hln
  have HL := Lib.hid hl
  clear hl
  go_enter Try.func151, Try.ntmps151
  go_wp2
  go_loopw [5, 8] (fun _ i wr => ∃ k : Nat, k ≤ ps.length ∧ i = .int .i64 k ∧ Hid (∀ x ∈ ps.take k, id x = false) ∧ Below w.heap.size w wr) (fun _ i _ => ps.length - (intOf i).toNat)
  case atStart => exact ⟨0, Nat.zero_le _, rfl, by show ∀ x ∈ _, _; simp, Below.refl _ _⟩
  case round =>
    obtain ⟨k, hk, rfl, HP, hb⟩ := hrel
    have HC : Hid (∀ k (h : k < ps.length) wr, Below w.heap.size w wr → Calls Try.prog F (#[hdV (xs[k]?.getD default)] ++ caps) wr fun e w' => e = .returned (.bool ps[k]) ∧ Below wr.heap.size wr w') := hclo
    clear hclo
    by_cases hlt : k < ps.length
    · have hr' := hr.below hb (Nat.le_refl _)
      have hix := hr'.idx und_ffs siz_ffs
      rw [← HL.out] at hix
      have hcx := hr'.cell k (by rw [← HL.out]; exact hlt)
      have hq := HC.out k hlt wr hb
      clear HC
      obtain ⟨v, hv⟩ : ∃ v, hdV (xs[k]?.getD default) = v := ⟨_, rfl⟩
      rw [hv] at hcx hq
      obtain ⟨q, hpq⟩ : ∃ q, ps[k] = q := ⟨_, rfl⟩
      rw [hpq] at hq
      have HPQ := Lib.hid hpq
      have HQ := Lib.hid hq
      clear hv hpq hq hr'
      go_wp2_with fail
      refine HQ.out.mono ?_
      rintro e w1 ⟨rfl, hb1⟩
      cases q with
      | true =>
        clear HQ
        go_wp2
        go_ret
        refine ⟨ret_int ?_, hb.trans (hb1.mono hb.size)⟩
        rw [idxOf_here (h := hlt) (by simpa using HPQ.out) HP.out]
      | false =>
        clear HQ
        go_wp2
        go_roundw
        case rel => exact ⟨k + 1, by omega, by go_num, snoc_none hlt HP.out (by simpa using HPQ.out), hb.trans (hb1.mono hb.size)⟩
        case measure => simp [intOf]; omega
    · obtain rfl : k = ps.length := by omega
      go_wp2
      go_ret
      refine ⟨ret_int ?_, hb⟩
      rw [idxOf_none (by simpa using HP.out)]

set_option maxHeartbeats 400000 in
theorem containsFuncff_any (a : Option Addr) (c : Nat) (xs : List Hd) (ps : List Bool) (w : World) (F : Nat) (caps : Array Value) (hF : ∀ (vs : Array Value) (w : World), (callFunc F vs).run Try.prog w = .ok (.enter F vs) w) (hl : ps.length = xs.length) (hr : Rd hdV w a c xs)
    (hclo : ∀ k (h : k < ps.length) wr, Below w.heap.size w wr → Calls Try.prog F (#[hdV (xs[k]?.getD default)] ++ caps) wr fun e w' => e = .returned (.bool ps[k]) ∧ Below wr.heap.size wr w') :
    Calls Try.prog 107 #[.slice a ps.length c, .func (.func F) #[] caps] w fun e w' => e = .returned (.bool (ps.any id)) ∧ Below w.heap.size w w' := by
  have HC := Lib.hid (indexFuncff_any a c xs ps w F caps hF hl hr hclo)
  clear hclo hl
  go_enter Try.func107, Try.ntmps107
  go_wp2_with fail
  refine HC.out.mono ?_
  rintro e w1 ⟨rfl, hb1⟩
  have HB := Lib.hid (idxOf_any id ps)
  go_wp2
  go_ret
  exact ⟨ret_bool (by simpa using HB.out), hb1⟩

end Go.Proofs.Ytofbnddmahjanaa
