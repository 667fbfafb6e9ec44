/- A list in ascending order: the reference's text. -/
import Derived.Test.YtihbckoldblpcaaSortL
import Derived.Test.YtihbckoldblpcaaCloneI
import Derived.Test.YtihbckoldblpcaaCut
import Derived.IntWalk
namespace Go.Proofs.Ytihbckoldblpcaa
open Go.RowKit

set_option maxRecDepth 8000 in
set_option maxHeartbeats 2000000 in
theorem l06Sorted_any {a : Option Addr} {c : Nat} {xs : List Int} {w : World} (hr : Rd (Value.int .i64) w a c xs) (hn : xs.length ≤ 1048576) :
    Calls Try.prog 55 #[.slice a xs.length c] w (RetS (Value.int .i64) 2 w (srt xs)) := by
  have HE := Lib.hid (own_empty (f := Value.int .i64) (e := 2) (α := Int) w (by_ := 0) w.heap.size (Nat.le_refl _) rfl)
  have HR := Lib.hid (hr.below ((Below.refl w.heap.size w).alloc (Nat.le_refl _) (.cells #[] 2)) (Nat.le_refl _))
  have hb0 : Below w.heap.size w (w.alloc (.cells #[] 2)) := (Below.refl _ _).alloc (Nat.le_refl _) _
  have HB0 := Lib.hid hb0
  clear hr hb0
  go_enter Try.func55, Try.ntmps55
  go_wp2_with (at_builtin; refine wpl_appendN (f := Value.int .i64) (d := 0) (base := w.heap.size) und_ise info_i (fun _ => rfl) HE.out HR.out rfl _ _ rfl rfl rfl (by simp) (by omega) (by omega) (by simp) ?_; intro a1 c1 w1 ho1 hg1)
  obtain ⟨n, hnn⟩ : ∃ n, xs.length = n := ⟨_, rfl⟩
  have HO1 : Hid (Own (Value.int .i64) 2 w1 w.heap.size a1 c1 xs) := Lib.hid (by simpa using ho1)
  have HB1 := Lib.hid (HB0.out.trans (grown_belowOwn HE.out hg1 (Nat.le_refl _) (by simp)))
  have HN := Lib.hid hnn
  rw [hnn] at hn ⊢
  clear ho1 hg1 hnn HE HR HB0
  go_loopw [4, 5, 6] (fun s _ _ wr => ∃ (i : Nat) (ys : List Int), s = .int .i64 i ∧ 1 ≤ i ∧ (i ≤ n ∨ i = 1) ∧ Hid (asc ys i) ∧ Hid (ys.Perm xs) ∧ Hid (ys.length = n) ∧ Own (Value.int .i64) 2 wr w.heap.size a1 c1 ys ∧ Below w.heap.size w wr) (fun s _ _ _ => n - (intOf s).toNat)
  case atStart => exact ⟨1, xs, rfl, Nat.le_refl _, .inr rfl, Lib.hid (asc_one _), Lib.hid (List.Perm.refl _), HN, HO1.out, HB1.out⟩
  case round =>
    obtain ⟨i, ys, rfl, hi1, hi2, HA, HP, HL, ho, hb⟩ := hrel
    by_cases hlt : i < n
    · have HO := Lib.hid ho
      have HB := Lib.hid hb
      clear ho hb
      obtain ⟨wi, rfl⟩ : ∃ wi : World, wi = wr := ⟨_, rfl⟩
      go_wp2_with fail
      go_loopw [5, 6] (fun s _ wr => ∃ (k : Nat) (zs : List Int), s = .int .i64 k ∧ k ≤ i ∧ Hid (Ins zs k i) ∧ Hid (zs.Perm xs) ∧ Hid (zs.length = n) ∧ Own (Value.int .i64) 2 wr w.heap.size a1 c1 zs ∧ Below w.heap.size w wr) (fun s _ _ => (intOf s).toNat)
      case atStart => exact ⟨i, ys, rfl, Nat.le_refl _, Lib.hid (ins_start HA.out), HP, HL, HO.out, HB.out⟩
      case round =>
        obtain ⟨k, zs, rfl, hki, HI, HPZ, HLZ, ho, hb⟩ := hrel
        obtain ⟨wk, rfl⟩ : ∃ wi : World, wi = wr := ⟨_, rfl⟩
        have HOZ := Lib.hid ho
        have HBZ := Lib.hid hb
        clear ho hb
        by_cases hk0 : k = 0
        · have hd : decide ((0 : Int) < (k : Int)) = false := by simp; omega
          have hdn : decide (0 < k) = false := by simp; omega
          have hend := Lib.hid (ins_end hki HI.out (.inl hk0))
          clear hk0
          go_wp2_with fail
          go_quiet (fail)
          have HOW := Lib.hid (HOZ.out.drewN nq)
          have HBW := Lib.hid (HBZ.out.trans (below_of_drewN wk nq _))
          clear HOZ HBZ
          generalize wk.drewN nq = wz at HOW HBW ⊢
          go_wp2
          go_roundw
          case rel => exact ⟨i + 1, zs, by go_num, by omega, .inl (by omega), hend, HPZ, HLZ, HOW.out, HBW.out⟩
          case measure => simp [intOf]; omega
        · have hkp : 0 < k := by omega
          have hkn : k < n := by omega
          have hd : decide ((0 : Int) < (k : Int)) = true := by simp; omega
          have hdn : decide (0 < k) = true := by simp; omega
          have hixk := HOZ.out.idx und_is siz_is
          rw [HLZ.out] at hixk
          have hixp := rd_idxAt HOZ.out.rd und_is siz_is (k - 1) (by rw [HLZ.out]; omega) ((k : Int) - 1) (by omega)
          rw [HLZ.out] at hixp
          have hck : wk.cell? (elt a1 k) = some (.int .i64 (at0 zs k)) := by rw [HOZ.out.rd.cell k (by rw [HLZ.out]; omega)]; rfl
          have hcp : wk.cell? (elt a1 (k - 1)) = some (.int .i64 (at0 zs (k - 1))) := by rw [HOZ.out.rd.cell (k - 1) (by rw [HLZ.out]; omega)]; rfl
          have ew : IntKind.i64.wrap ((k : Int) - 1) = (k : Int) - 1 := IntWalk.i64_in _ (by omega)
          have HIs := fun h => ins_step hkp hki (by rw [HLZ.out]; exact hlt) HI.out h
          have HIe := fun h => ins_end hki HI.out (.inr h)
          have HPs := Lib.hid ((swp_perm hkp (by rw [HLZ.out]; exact hkn)).trans HPZ.out)
          have HLs : Hid ((swp zs k).length = n) := Lib.hid (by rw [swp_len]; exact HLZ.out)
          obtain ⟨x, hx⟩ : ∃ x, at0 zs k = x := ⟨_, rfl⟩
          obtain ⟨y, hy⟩ : ∃ x, at0 zs (k - 1) = x := ⟨_, rfl⟩
          rw [hx, hy] at HIs HIe
          rw [hx] at hck
          rw [hy] at hcp
          have HXY0 := Lib.hid (And.intro hx hy)
          clear hx hy
          by_cases hxy : x < y
          · have HI2 := Lib.hid (HIs hxy)
            clear HIs HIe
            have hd2 : decide (x < y) = true := by simpa using hxy
            have HXY := Lib.hid hxy
            clear hxy
            go_wp2_with fail
            go_quiet (fail)
            have HOW := HOZ.out.drewN nq
            have HBW := HBZ.out.trans (below_of_drewN wk nq w.heap.size)
            clear HOZ HBZ hck hcp
            generalize wk.drewN nq = wz at HOW HBW ⊢
            have hck : wz.cell? (elt a1 k) = some (.int .i64 x) := by rw [HOW.rd.cell k (by rw [HLZ.out]; omega), ← HXY0.out.1]; rfl
            have hcp : wz.cell? (elt a1 (k - 1)) = some (.int .i64 y) := by rw [HOW.rd.cell (k - 1) (by rw [HLZ.out]; omega), ← HXY0.out.2]; rfl
            have hs1 := HOW.set k (by rw [HLZ.out]; exact hkn) y
            have hs2 := hs1.1.set (k - 1) (by rw [List.length_set, HLZ.out]; omega) x
            have hfk := HOW.free k (by rw [HLZ.out]; exact hkn)
            obtain ⟨v2, hcp2⟩ : ∃ v, (wz.setCell (elt a1 k) (.int .i64 y)).cell? (elt a1 (k - 1)) = some v := ⟨_, hs1.1.rd.cell (k - 1) (by rw [List.length_set, HLZ.out]; omega)⟩
            have hfp2 := hs1.1.free (k - 1) (by rw [List.length_set, HLZ.out]; omega)
            have hsw : Own (Value.int .i64) 2 ((wz.setCell (elt a1 k) (.int .i64 y)).setCell (elt a1 (k - 1)) (.int .i64 x)) w.heap.size a1 c1 (swp zs k) := by
              have := hs2.1
              unfold swp
              rw [HXY0.out.1, HXY0.out.2]
              exact this
            have HSW := Lib.hid hsw
            have HBW2 := Lib.hid ((HBW.trans (grown_belowOwn HOW hs1.2 (Nat.le_refl _) HBW.size)).trans (grown_belowOwn hs1.1 hs2.2 (Nat.le_refl _) (Nat.le_trans HBW.size hs1.2.size)))
            have HOW2 := Lib.hid HOW
            clear hs1 hs2 hsw HOW HBW
            go_wp2
            go_roundw
            case rel => exact ⟨k - 1, swp zs k, congrArg (Value.int .i64) (by omega), by omega, HI2, HPs, HLs, HSW.out, HBW2.out⟩
            case measure => simp [intOf]; omega
          · have HI2 := Lib.hid (HIe (by omega))
            clear HIs HIe
            have hd2 : decide (x < y) = false := by simpa using hxy
            have HXY := Lib.hid hxy
            clear hxy
            go_wp2_with fail
            go_quiet (fail)
            have HOW := Lib.hid (HOZ.out.drewN nq)
            have HBW := Lib.hid (HBZ.out.trans (below_of_drewN wk nq _))
            clear HOZ HBZ hck hcp
            generalize wk.drewN nq = wz at HOW HBW ⊢
            go_wp2
            go_roundw
            case rel => exact ⟨i + 1, zs, by go_num, by omega, .inl (by omega), HI2, HPZ, HLZ, HOW.out, HBW.out⟩
            case measure => simp [intOf]; omega
    · have hys : ys = srt xs := srt_of HP.out (pw_of_at0 (fun p q h1 h2 => HA.out p q h1 (by have := HL.out; omega)))
      have HYS := Lib.hid hys
      have HO := Lib.hid ho
      have hlen : n = (srt xs).length := by rw [srt_len, HN.out]
      have HLEN := Lib.hid hlen
      clear hys ho hlen
      go_wp2
      go_ret
      refine ⟨a1, c1, by rw [← HLEN.out]; rfl, HO.out.cast HYS.out, hb⟩

end Go.Proofs.Ytihbckoldblpcaa
