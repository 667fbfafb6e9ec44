/- MiddleOfWindow in the reference's text. -/
import Derived.Test.YtihbckoldblpcaaLastS
import Derived.Test.YtihbckoldblpcaaMidD
namespace Go.Proofs.Ytihbckoldblpcaa
open Go.RowKit

set_option maxRecDepth 8000 in
set_option maxHeartbeats 4000000 in
theorem specMiddle_any {a : Option Addr} {c : Nat} {xs : List Int} {L : Int} {w : World} (hr : Rd (Value.int .i64) w a c xs) :
    Calls Try.prog 19 #[.slice a xs.length c, .int .i64 L] w (RetSB (Value.int .i64) 2 w (eachL midG L xs) (lstB L xs)) := by
  cases hb : lstB L xs with
  | false =>
    unfold eachL
    rw [hb]
    go_enter Try.func19, Try.ntmps19
    go_wp2_with fail
    refine (l06List_any hr).mono ?_
    rintro e w1 ⟨rfl, rfl⟩
    rw [hb]
    go_wp2
    go_ret2
    exact retSB_no (Below.refl _ _)
  | true =>
  obtain ⟨zs, hzs⟩ : ∃ zs, eachL midG L xs = zs := ⟨_, rfl⟩
  have HZ : Hid (eachR midG L xs xs.length = zs) := Lib.hid (by rw [← hzs]; unfold eachL; rw [hb]; rfl)
  rw [hzs]
  have hb2 := hb
  simp only [lstB, Bool.and_eq_true, inR, decide_eq_true_eq] at hb2
  obtain ⟨⟨hn, _⟩, hL⟩ := hb2
  have hn2 : xs.length ≤ 128 := by omega
  have HR := Lib.hid hr
  have HE := Lib.hid (own_empty (f := Value.int .i64) (e := 2) (α := Int) w (by_ := 0) w.heap.size (Nat.le_refl _) rfl)
  have HB1 := Lib.hid ((Below.refl w.heap.size w).alloc (Nat.le_refl _) (.cells #[] 2))
  go_enter Try.func19, Try.ntmps19
  go_wp2_with fail
  refine (l06List_any hr).mono ?_
  rintro e w1 ⟨rfl, rfl⟩
  rw [hb]
  clear hb hzs hr
  go_wp2_with fail
  go_loopw [6, 7, 8] (fun o i _ wr => ∃ (k : Nat) (b : Option Addr) (cc : Nat), k ≤ xs.length ∧ i = .int .i64 k ∧ o = .slice b k cc ∧ Hid (Own (Value.int .i64) 2 wr w.heap.size b cc (eachR midG L xs k)) ∧ Hid (Below w.heap.size w wr)) (fun _ i _ _ => xs.length - (intOf i).toNat)
  case atStart => exact ⟨0, _, _, Nat.zero_le _, rfl, rfl, HE, HB1⟩
  case round =>
    obtain ⟨k, b, cc, hk, rfl, rfl, HO, HB⟩ := hrel
    by_cases hlt : k < xs.length
    · obtain ⟨wi, rfl⟩ : ∃ wi : World, wi = wr := ⟨_, rfl⟩
      have HRW := Lib.hid (HR.out.below HB.out (Nat.le_refl _))
      have ewk : IntKind.i64.wrap ((k : Int) + 1) = (k : Int) + 1 := IntWalk.i64_in _ (by omega)
      go_wp2_with fail
      refine (l06Last_any HRW.out hlt (by omega) hL).mono ?_
      rintro e w3 ⟨a2, c2, rfl, hr2, rfl⟩
      obtain ⟨hne, hle⟩ := lastL_len (xs := xs) (i := k) hlt hL.1
      have HS := Lib.hid (eachR_succ midG L xs k)
      have HNE := Lib.hid (And.intro hne hle)
      have HR2 := Lib.hid hr2
      clear hr2 hne hle
      generalize lastL xs L k = ls at HNE HR2 HS ⊢
      go_wp2_with fail
      refine (l06Sorted_any HR2.out (by have := HNE.out.2; omega)).mono ?_
      rintro e w3 ⟨a3, c3, rfl, ho3, hb3⟩
      have hg : midG ls = midR (srt ls) := rfl
      rw [hg] at HS
      have hsl : (srt ls).length = ls.length := srt_len ls
      have hpos : 0 < (srt ls).length := by rw [hsl]; exact List.length_pos_iff.2 HNE.out.1
      have hyl : (srt ls).length ≤ 128 := by rw [hsl]; have := HNE.out.2; omega
      clear hg hsl HNE HR2 HRW
      generalize srt ls = ys at HS ho3 hpos hyl ⊢
      have HO3 := Lib.hid (HO.out.below hb3 (Nat.le_refl _))
      have HB3 := Lib.hid (HB.out.trans (hb3.mono HB.out.size))
      have hix := rd_idxAt ho3.rd und_is siz_is ((ys.length - 1) / 2) (by omega) (((ys.length - 1 : Nat) : Int) / 2) (by omega)
      obtain ⟨m, hm⟩ : ∃ m, at0 ys ((ys.length - 1) / 2) = m := ⟨_, rfl⟩
      have hcm := at0_cell ho3.rd (by omega) hm
      have hmr : midR ys = m := hm
      rw [hmr] at HS
      have ew1 : IntKind.i64.wrap ((ys.length : Int) - 1) = ((ys.length - 1 : Nat) : Int) := by rw [IntWalk.i64_in _ (by omega)]; omega
      have hlk : (eachR midG L xs k).length = k := eachR_len midG L xs k
      obtain ⟨vs, hvs⟩ : ∃ vs, eachR midG L xs k = vs := ⟨_, rfl⟩
      rw [hvs] at hlk HS HO3
      have hzw := HB3.out.size
      clear ho3 hb3 HO HB hm hmr hvs
      subst hlk
      go_wp2_with (at_builtin; refine wpl_append1 (f := Value.int .i64) (d := 0) (base := w.heap.size) und_ise info_i (fun _ => rfl) m HO3.out rfl _ _ rfl rfl rfl (by omega) (by omega) hzw ?_; intro a4 c4 w4 ho4 hg4)
      go_roundw
      case rel => exact ⟨vs.length + 1, a4, c4, by omega, by go_num, by simp, Lib.hid (ho4.cast HS.out.symm), Lib.hid (HB3.out.trans (grown_belowOwn HO3.out hg4 (Nat.le_refl _) hzw))⟩
      case measure => simp [intOf]; omega
    · have hk' : k = xs.length := by omega
      subst hk'
      have hzl : xs.length = zs.length := by rw [← HZ.out, eachR_len]
      have HZL := Lib.hid hzl
      clear hzl
      go_wp2
      go_ret2
      exact ⟨b, cc, by rw [← HZL.out]; rfl, HO.out.cast HZ.out, HB.out⟩

end Go.Proofs.Ytihbckoldblpcaa
