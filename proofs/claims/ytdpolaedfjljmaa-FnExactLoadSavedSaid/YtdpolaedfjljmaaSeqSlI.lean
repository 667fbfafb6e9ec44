/- Are two slices equal: SlI. -/
import Derived.Test.YtdpolaedfjljmaaToI
namespace Go.Proofs.Ytdpolaedfjljmaa
open Go.RowKit

set_option maxHeartbeats 400000 in
theorem seqSlI_any {a1 a2 : Option Addr} {c1 c2 : Nat} {xs ys : List Int} {w : World} (hx : Rd (Value.int .i64) w a1 c1 xs) (hy : Rd (Value.int .i64) w a2 c2 ys) :
    Calls Try.prog 128 #[.slice a1 xs.length c1, .slice a2 ys.length c2] w fun e w' => e = .returned (.bool (decide (xs = ys))) ∧ ∃ n, w' = w.drewN n := by
  have hlx := hx.len
  have hly := hy.len
  by_cases hl : xs.length = ys.length
  · have hd : ((xs.length : Int) != (ys.length : Int)) = false := by simp [hl]
    have HL := Lib.hid hl
    clear hl
    go_enter Try.func128, Try.ntmps128
    go_wp2
    go_loopw [5, 13] (fun _ i wr => ∃ k : Nat, k ≤ xs.length ∧ i = .int .i64 k ∧ Hid (xs.take k = ys.take k) ∧ Hid (∃ n, wr = w.drewN n)) (fun _ i _ => xs.length - (intOf i).toNat)
    case atStart => exact ⟨0, Nat.zero_le _, rfl, by show _ = _; rfl, by show ∃ n, _; exact ⟨0, rfl⟩⟩
    case round =>
      obtain ⟨k, hk, rfl, HT, HN⟩ := hrel
      clear hd
      have hbr : Below w.heap.size w wr := by obtain ⟨n, hn⟩ := HN.out; rw [hn]; exact below_of_drewN _ _ _
      have hxr := hx.below hbr (Nat.le_refl _)
      have hyr := hy.below hbr (Nat.le_refl _)
      clear hbr
      by_cases hlt : k < xs.length
      · have hlt2 : k < ys.length := by rw [← HL.out]; exact hlt
        have hcx := hxr.cell k hlt
        have hcy := hyr.cell k hlt2
        have hix := hxr.idx und_is siz_is
        have hiy := hyr.idx und_is siz_is
        simp only [List.getElem?_eq_getElem hlt, List.getElem?_eq_getElem hlt2, Option.getD_some] at hcx hcy
        obtain ⟨x, hx'⟩ : ∃ x, xs[k] = x := ⟨_, rfl⟩
        obtain ⟨y, hy'⟩ : ∃ x, ys[k] = x := ⟨_, rfl⟩
        rw [hx'] at hcx
        rw [hy'] at hcy
        have HX := Lib.hid hx'
        have HY := Lib.hid hy'
        clear hx' hy'
        by_cases hxy : x = y
        · have hne : (x != y) = false := by simp [hxy]
          have HXY := Lib.hid hxy
          clear hxy
          go_wp2_with fail
          go_quiet (fail)
          go_wp2
          go_roundw
          case rel => exact ⟨k + 1, by omega, by go_num, take_eq_snoc hlt hlt2 HT.out (by rw [HX.out, HY.out]; exact HXY.out), by show ∃ n, _; obtain ⟨n, hn⟩ := HN.out; rw [hn]; exact ⟨_, World.drewN_drewN _ _ _⟩⟩
          case measure => simp [intOf]; omega
        · have hne : (x != y) = true := by simpa using hxy
          have HXY := Lib.hid hxy
          clear hxy
          go_wp2_with fail
          go_quiet (fail)
          go_wp2
          go_ret
          exact ⟨ret_bool (by simp [take_ne_of hlt hlt2 (by rw [HX.out, HY.out]; exact HXY.out)]), by obtain ⟨n, hn⟩ := HN.out; rw [hn]; exact ⟨_, World.drewN_drewN _ _ _⟩⟩
      · go_wp2
        go_ret
        obtain rfl : k = xs.length := by omega
        have h := HT.out
        rw [List.take_length, HL.out, List.take_length] at h
        exact ⟨ret_bool (by simp [h]), HN.out⟩
  · have hd : ((xs.length : Int) != (ys.length : Int)) = true := by simp; omega
    have HL := Lib.hid hl
    clear hl
    go_enter Try.func128, Try.ntmps128
    go_wp2
    go_ret
    refine ⟨ret_bool ?_, 0, rfl⟩
    have h := HL.out
    symm
    rw [decide_eq_false]
    rintro rfl
    exact h rfl

end Go.Proofs.Ytdpolaedfjljmaa
