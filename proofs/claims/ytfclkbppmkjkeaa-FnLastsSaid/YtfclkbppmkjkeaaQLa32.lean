/- MiddleOfWindow's number of one window, in the program's text. -/
import Derived.Test.YtfclkbppmkjkeaaQLa14
import Derived.Test.YtfclkbppmkjkeaaQLa6
import Derived.Test.YtfclkbppmkjkeaaQLa23
import Derived.Test.YtfclkbppmkjkeaaQLa27
namespace Go.Proofs.Ytfclkbppmkjkeaa
open Go.RowKit

theorem medCmp_any (x y : Int) (w : World) : Calls Try.prog 128 #[.int .i64 x, .int .i64 y] w fun e w' => e = .returned (.int .i64 (cmp3 x y)) ∧ ∃ q, w' = w.drewN q := by
  by_cases h1 : x < y
  · have hc : cmp3 x y = -1 := by unfold cmp3; rw [if_pos h1]
    have hd : decide (x < y) = true := decide_eq_true h1
    have HC := Lib.hid hc
    clear hc h1
    go_enter Try.func128, Try.ntmps128
    go_wp2
    go_ret
    exact ⟨ret_int HC.out.symm, 0, rfl⟩
  · have hd : decide (x < y) = false := decide_eq_false h1
    by_cases h2 : y < x
    · have hc : cmp3 x y = 1 := by unfold cmp3; rw [if_neg h1, if_pos h2]
      have hd2 : decide (x > y) = true := decide_eq_true h2
      have HC := Lib.hid hc
      clear hc h1
      go_enter Try.func128, Try.ntmps128
      go_wp2
      go_ret
      exact ⟨ret_int HC.out.symm, 0, rfl⟩
    · have hc : cmp3 x y = 0 := by unfold cmp3; rw [if_neg h1, if_neg h2]
      have hd2 : decide (x > y) = false := decide_eq_false h2
      have HC := Lib.hid hc
      clear hc h1
      go_enter Try.func128, Try.ntmps128
      go_wp2
      go_ret
      exact ⟨ret_int HC.out.symm, 0, rfl⟩

theorem medCmp_ok (w : World) (row : Option Nat) : CmpOk Try.prog 128 #[] w row (· / tagM) (tagK tagM) (fun s t => cmp3 (s / tagM) (t / tagM)) (fun _ => True) :=
  ⟨fun vs w => by kernel_rfl, fun s t _ _ => cmp3_neg _ _, fun w' _ s t _ _ => medCmp_any _ _ _⟩

set_option maxRecDepth 8000 in
set_option maxHeartbeats 1000000 in
theorem median_any {a : Option Addr} {c : Nat} {xs : List Int} {w : World} (hr : Rd (Value.int .i64) w a c xs) (hn : xs.length ≤ 1048576) (hne : xs ≠ []) :
    Calls Try.prog 70 #[.slice a xs.length c] w fun e w' => e = .returned (.int .i64 (midG xs)) ∧ Below w.heap.size w w' := by
  go_enter Try.func70, Try.ntmps70
  go_wp2_with fail
  refine (clonei_any _ _ _ _ hr hn).mono ?_
  rintro e w1 ⟨a1, c1, rfl, ho1, hb1⟩
  have hto := own_as (g := vI (· / tagM)) (ys := tags id xs) ho1 (tags_len _ _) (map_tags (fun i hi => by rw [tag_div _ (by omega)]; rfl))
  have hsrt := sortStable_own hto (by rw [tags_len]; exact hn) (medCmp_ok w1 _) (fun _ _ => trivial) (tagK_mono tagM_pos) (tags_stab hn)
  rw [tags_len] at hsrt
  have HSRT := Lib.hid hsrt
  have HO1 := Lib.hid ho1
  have HB1 := Lib.hid hb1
  clear hsrt hto ho1 hb1
  go_wp2_with fail
  refine HSRT.out.mono ?_
  rintro e w2 ⟨rfl, ho2, hg2⟩
  have ho3 : Own (Value.int .i64) 2 w2 w.heap.size a1 c1 (srt xs) := by
    refine own_as ho2 (by rw [srt_len, srt_len, tags_len]) ?_
    rw [← tags_srt hn, List.map_map]
    rfl
  have HB := Lib.hid (HB1.out.trans (grown_belowOwn HO1.out hg2 (Nat.le_refl _) HB1.out.size))
  have hpos : 0 < xs.length := List.length_pos_iff.2 hne
  have hmd : midG xs = at0 (srt xs) ((xs.length - 1) / 2) := by unfold midG midR; rw [srt_len]
  have hl : (srt xs).length = xs.length := srt_len xs
  have hix := rd_idxAt ho3.rd und_is siz_is ((xs.length - 1) / 2) (by rw [hl]; omega) (((xs.length - 1 : Nat) : Int) / 2) (by omega)
  rw [hl] at hix
  obtain ⟨m, hm⟩ : ∃ m, at0 (srt xs) ((xs.length - 1) / 2) = m := ⟨_, rfl⟩
  have hcm := at0_cell ho3.rd (by rw [hl]; omega) hm
  have HMID := Lib.hid (hmd.trans hm)
  have ew1 : IntKind.i64.wrap ((xs.length : Int) - 1) = ((xs.length - 1 : Nat) : Int) := by rw [IntWalk.i64_in _ (by omega)]; omega
  clear ho2 ho3 hg2 HO1 HB1 HSRT hm hmd hl hr hne
  go_wp2
  go_ret
  exact ⟨ret_int HMID.out.symm, HB.out⟩

theorem call_middle1 (vs : Array Value) (w : World) : (callFunc 69 vs).run Try.prog w = .ok (.enter 69 vs) w := by kernel_rfl

theorem middle1_any {a : Option Addr} {c : Nat} {xs : List Int} {w : World} (hr : Rd (Value.int .i64) w a c xs) (hn : xs.length ≤ 1048576) (hne : xs ≠ []) :
    Calls Try.prog 69 #[.slice a xs.length c] w fun e w' => e = .returned (.int .i64 (midG xs)) ∧ Below w.heap.size w w' := by
  have HM := Lib.hid (median_any hr hn hne)
  obtain ⟨m, hm⟩ : ∃ m, midG xs = m := ⟨_, rfl⟩
  rw [hm] at HM ⊢
  clear hr hn hne hm
  go_enter Try.func69, Try.ntmps69
  go_wp2_with fail
  refine HM.out.mono ?_
  rintro e w1 ⟨rfl, hb1⟩
  go_wp2
  go_ret
  exact ⟨rfl, hb1⟩

theorem implMiddle_any {a : Option Addr} {c : Nat} {xs : List Int} {L : Int} {w : World} (hr : Rd (Value.int .i64) w a c xs) :
    Calls Try.prog 14 #[.slice a xs.length c, .int .i64 L] w (RetSB (Value.int .i64) 2 w (eachL midG L xs) (lstB L xs)) := by
  have HC := Lib.hid (eachLast_any (L := L) 69 midG call_middle1 (fun zs b cc wr h1 h2 h3 => middle1_any h1 h2 h3) hr)
  go_enter Try.func14, Try.ntmps14
  go_wp2_with fail
  refine HC.out.mono ?_
  rintro e w1 ⟨a1, c1, rfl, ho, hb⟩
  go_wp2
  go_ret2
  exact ⟨a1, c1, rfl, ho, hb⟩

end Go.Proofs.Ytfclkbppmkjkeaa
