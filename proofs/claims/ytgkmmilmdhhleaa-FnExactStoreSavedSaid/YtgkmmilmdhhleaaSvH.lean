/- The laws' helpers on lists of saved ones. -/
import Derived.Test.YtgkmmilmdhhleaaSvD
import Derived.Test.YtgkmmilmdhhleaaCalm
namespace Go.Proofs.Ytgkmmilmdhhleaa
open Go.RowKit

theorem und_svl : Try.prog.underlying 38 = some (.slice (Try.prog.elem 38)) := by kernel_rfl
theorem siz_svl (w : World) : (sizeOf (Try.prog.elem 38)).run Try.prog w = .ok 9 w := by kernel_rfl
theorem und_svi : Try.prog.underlying 41 = some (.slice (Try.prog.elem 41)) := by kernel_rfl
theorem siz_svi (w : World) : (sizeOf (Try.prog.elem 41)).run Try.prog w = .ok 9 w := by kernel_rfl
theorem und_svie : Try.prog.underlying 41 = some (.slice 79) := by kernel_rfl
theorem info_sv : (Try.prog.info? 79).map (fun i => (i.zero, i.size, i.bytes)) = some (some (.agg #[.string ⟨#[]⟩, .int .i64 0, .int .i64 0, .int .i64 0, .slice none 0 0, .int .i64 0, .slice none 0 0, .slice none 0 0, .slice none 0 0]), 9, 144) := by kernel_rfl
theorem make_svs {n : Nat} (hn : n ≤ 1048576) (w : World) : (Instr.makeSlice 41 (.int .i64 (n : Int)) (.int .i64 (n : Int))).run Try.prog w = .ok (.slice (some ⟨w.heap.size, 0, none⟩) n n) (w.alloc (.cells (madeCells #[.string ⟨#[]⟩, .int .i64 0, .int .i64 0, .int .i64 0, .slice none 0 0, .int .i64 0, .slice none 0 0, .slice none 0 0, .slice none 0 0] (n * 9)) 79)) := by
  obtain ⟨i0, hi, hz0, hz1, hz2⟩ := info_parts info_sv
  have h := run_make (P := Try.prog) w 41 79 i0 _ und_svie hi hz0 .i64 .i64 n n (by omega) (Int.le_refl _) (by rw [hz2]; omega) (by omega)
  rw [h, hz1]
  simp [Value.cells]

theorem szSv_any {h : SvH} {s : Sv} {l : Int} {w : World} (g : SvRd w h s) (l0 : 0 ≤ l) (l1 : l ≤ 1048576) :
    Calls Try.prog 47 #[.agg (svV h s), .int .i64 l] w fun e w' => e = .returned (.int .i64 (room l (svSize s))) ∧ Below w.heap.size w w' := szSaved_any g.cs g.ks g.ts g.es g.nm l0 l1
theorem toSv_any {h : SvH} {s : Sv} {w : World} (g : SvRd w h s) (n : svSize s ≤ 1048576) :
    Calls Try.prog 49 #[.agg (svV h s)] w fun e w' => ∃ q : SvH, e = .returned (.agg #[.string s.nm, .int .i64 s.W, .int .i64 s.D, .int .i64 s.S, .slice q.a0 s.cs.length q.c0, .int .i64 s.R, .slice q.a1 s.ks.length q.c1, .slice q.a2 s.ts.length q.c2, .slice q.a3 s.es.length q.c3]) ∧ SvOwn w' w.heap.size q s ∧ Below w.heap.size w w' := by
  unfold svSize at n
  refine (toSaved_any (nm := s.nm) (W := s.W) (D := s.D) (S := s.S) (R := s.R) g.cs g.ks g.ts g.es (by omega) (by omega) (by omega) (by omega)).mono ?_
  rintro e w' ⟨p0, q0, p1, q1, p2, q2, p3, q3, rfl, o0, o1, o2, o3, hb⟩
  exact ⟨⟨p0, q0, p1, q1, p2, q2, p3, q3⟩, rfl, ⟨g.nm, o0, o1, o2, o3⟩, hb⟩
theorem eqSv_same {h1 h2 : SvH} {s : Sv} {w : World} (g1 : SvRd w h1 s) (g2 : SvRd w h2 s) :
    Calls Try.prog 51 #[.agg (svV h1 s), .agg (svV h2 s)] w fun e w' => e = .returned (.bool true) ∧ Below w.heap.size w w' :=
  eqSaved_same g1.cs g2.cs g1.ks g2.ks g1.ts g2.ts g1.es g2.es

set_option maxHeartbeats 1000000 in
theorem szSavedS_any {a : Option Addr} {c : Nat} {hs : List SvH} {ss : List Sv} {l : Int} {w : World} (hr : Rd9 w a c hs ss) (l0 : 0 ≤ l) (l1 : l ≤ 1048576) :
    Calls Try.prog 24 #[.slice a ss.length c, .int .i64 l] w fun e w' => e = .returned (.int .i64 (room l (svsSize ss))) ∧ Below w.heap.size w w' := by
  have hln := hr.len
  have ewl : IntKind.i64.wrap (l - (ss.length : Int)) = l - (ss.length : Int) := IntWalk.i64_in _ (by omega)
  have hnn := svSum_nn ss
  by_cases hbig : l < ss.length
  · have et := Lib.hid (room_no (l := l) (s := svsSize ss) (by unfold svsSize; omega))
    rw [et.out]
    have hdl : decide (l - (ss.length : Int) < 0) = true := decide_eq_true (by omega)
    go_enter Try.func24, Try.ntmps24
    go_wp2
    go_ret
    exact ⟨rfl, Below.refl _ _⟩
  · have hdl : decide (l - (ss.length : Int) < 0) = false := decide_eq_false (by omega)
    obtain ⟨t, ht⟩ : ∃ t, room l (svsSize ss) = t := ⟨_, rfl⟩
    rw [ht]
    have HT := Lib.hid ht
    have HNN := Lib.hid hnn
    clear ht hnn
    go_enter Try.func24, Try.ntmps24
    go_wp2
    clear hdl ewl
    go_loopw [1, 5] (fun lf i wr => ∃ (k : Nat) (r : Int), k ≤ ss.length ∧ i = .int .i64 k ∧ lf = .int .i64 r ∧ 0 ≤ r ∧ r ≤ 1048576 ∧ Hid (r = l - ss.length - svSum (ss.take k)) ∧ Below w.heap.size w wr) (fun _ i _ => ss.length - (intOf i).toNat)
    case atStart => exact ⟨0, _, Nat.zero_le _, rfl, rfl, by omega, by omega, Lib.hid (by simp [svSum]), Below.refl _ _⟩
    case round =>
      obtain ⟨k, r, hk, rfl, rfl, hr0, hr1, HR, hb⟩ := hrel
      by_cases hlt : k < ss.length
      · have hltz : (k : Int) < (ss.length : Int) := by omega
        obtain ⟨b, o, rfl, hbl⟩ := hr.here (by omega)
        obtain ⟨hd, hsr, k0, k1, k2, k3, k4, k5, k6, k7, k8⟩ := (hr.below hb (Nat.le_refl _)).at hlt
        have hix := idx9 (b := b) (o := o) (n := ss.length) (c := c) und_svl siz_svl
        have HTS := Lib.hid (svSum_succ hlt)
        have HLE := Lib.hid (svSum_le ss (k + 1))
        have HSR := Lib.hid hsr
        have HBB := Lib.hid hb
        have ewk : IntKind.i64.wrap ((k : Int) + 1) = (k : Int) + 1 := IntWalk.i64_in _ (by omega)
        generalize ss[k] = s at HTS HSR k0 k1 k2 k3 k4 k5 k6 k7 k8
        clear hsr hb
        obtain ⟨z, hz⟩ : ∃ z, svSize s = z := ⟨_, rfl⟩
        rw [hz] at HTS
        by_cases hs : r < z
        · have et : Hid (t = -1) := Lib.hid (by rw [← HT.out]; exact room_no (by have := HTS.out; have := HLE.out; have := HR.out; unfold svsSize; omega))
          have HRM := Lib.hid (room_no hs)
          go_wp2_with fail
          refine (szSv_any HSR.out hr0 hr1).mono ?_
          rintro e w1 ⟨rfl, hb1⟩
          rw [hz, HRM.out]
          go_wp2
          go_ret
          exact ⟨by rw [et.out]; rfl, HBB.out.trans (hb1.mono HBB.out.size)⟩
        · have HRM := Lib.hid (room_yes hs)
          have hzn := svSize_nn s
          go_wp2_with fail
          refine (szSv_any HSR.out hr0 hr1).mono ?_
          rintro e w1 ⟨rfl, hb1⟩
          rw [hz, HRM.out]
          have hdr : decide (r - z < 0) = false := decide_eq_false (by omega)
          go_wp2
          go_roundw
          case rel => exact ⟨k + 1, _, by omega, by go_num, rfl, by omega, by omega, Lib.hid (by rw [HTS.out, HR.out]; omega), HBB.out.trans (hb1.mono HBB.out.size)⟩
          case measure => simp [intOf]; omega
      · obtain rfl : k = ss.length := by omega
        have hltz : ¬ (ss.length : Int) < (ss.length : Int) := by omega
        have et : Hid (t = r) := Lib.hid (by rw [← HT.out, HR.out, List.take_length]; have h := HR.out; rw [List.take_length] at h; rw [room_yes (by unfold svsSize; omega)]; unfold svsSize; omega)
        go_wp2
        go_ret
        exact ⟨by rw [et.out]; rfl, hb⟩

set_option maxHeartbeats 1000000 in
theorem toSavedS_any {a : Option Addr} {c : Nat} {hs : List SvH} {ss : List Sv} {w : World} (hr : Rd9 w a c hs ss) (hn : svsSize ss ≤ 1048576) :
    Calls Try.prog 26 #[.slice a ss.length c] w fun e w' => ∃ (g : Nat) (qs : List SvH), e = .returned (.slice (some ⟨g, 0, none⟩) ss.length ss.length) ∧ Own9 79 w' w.heap.size g qs ss ∧ Below w.heap.size w w' := by
  have hnn := svSum_nn ss
  have hl : ss.length ≤ 1048576 := by unfold svsSize at hn; omega
  have HN := Lib.hid hn
  have hmk := make_svs hl
  have HB0 := Lib.hid (Blk.new w (madeCells #[.string ⟨#[]⟩, .int .i64 0, .int .i64 0, .int .i64 0, .slice none 0 0, .int .i64 0, .slice none 0 0, .slice none 0 0, .slice none 0 0] (ss.length * 9)) 79)
  have HBL := Lib.hid ((Below.refl w.heap.size w).alloc (Nat.le_refl _) (.cells (madeCells #[.string ⟨#[]⟩, .int .i64 0, .int .i64 0, .int .i64 0, .slice none 0 0, .int .i64 0, .slice none 0 0, .slice none 0 0, .slice none 0 0] (ss.length * 9)) 79))
  have HSZ := Lib.hid (size_madeCells #[.string ⟨#[]⟩, .int .i64 0, .int .i64 0, .int .i64 0, .slice none 0 0, .int .i64 0, .slice none 0 0, .slice none 0 0, .slice none 0 0] (ss.length * 9))
  generalize madeCells #[.string ⟨#[]⟩, .int .i64 0, .int .i64 0, .int .i64 0, .slice none 0 0, .int .i64 0, .slice none 0 0, .slice none 0 0, .slice none 0 0] (ss.length * 9) = arr at hmk HB0 HBL HSZ
  clear hn hnn
  go_enter Try.func26, Try.ntmps26
  go_wp2
  clear hmk
  go_loopw [4] (fun i wr => ∃ (k : Nat) (qs : List SvH), k ≤ ss.length ∧ i = .int .i64 k ∧ Hid (Fill9 79 w wr qs ss k)) (fun i _ => ss.length - (intOf i).toNat)
  case atStart => exact ⟨0, [], Nat.zero_le _, rfl, Lib.hid ⟨⟨arr, HB0.out, HSZ.out, fun i hi => by omega⟩, fun i hi => by omega, rfl, HBL.out⟩⟩
  case round =>
    obtain ⟨k, qs, hk, rfl, HF⟩ := hrel
    clear HB0 HBL HSZ
    by_cases hlt : k < ss.length
    · have hltz : (k : Int) < (ss.length : Int) := by omega
      obtain ⟨b, o, rfl, hbl⟩ := hr.here (by omega)
      obtain ⟨hd, hsr, k0, k1, k2, k3, k4, k5, k6, k7, k8⟩ := (hr.below HF.out.B (Nat.le_refl _)).at hlt
      have hix := idx9 (b := b) (o := o) (n := ss.length) (c := c) und_svl siz_svl
      have hio := idx9 (b := w.heap.size) (o := 0) (n := ss.length) (c := ss.length) und_svi siz_svi
      have ewk : IntKind.i64.wrap ((k : Int) + 1) = (k : Int) + 1 := IntWalk.i64_in _ (by omega)
      have HSR := Lib.hid hsr
      have HSZ := Lib.hid (svsSize_row hlt HN.out)
      have HST := Lib.hid (fun w1 h hb ho => HF.out.step (w1 := w1) (h := h) hlt hb ho)
      have HC := Lib.hid (HF.out.cells hlt)
      have HFR := Lib.hid HF.out.free
      have HLT := Lib.hid HF.out.lt
      simp only [Nat.zero_add] at hio
      generalize ss[k] = s at HSR HST HSZ k0 k1 k2 k3 k4 k5 k6 k7 k8
      clear hsr HF
      go_wp2_with fail
      refine (toSv_any HSR.out HSZ.out).mono ?_
      rintro e w2 ⟨q, rfl, ho2, hb2⟩
      have HS2 := Lib.hid (HST.out w2 q hb2 ho2)
      obtain ⟨v0, hv0⟩ := HC.out 0 (by omega)
      obtain ⟨v1, hv1⟩ := HC.out 1 (by omega)
      obtain ⟨v2, hv2⟩ := HC.out 2 (by omega)
      obtain ⟨v3, hv3⟩ := HC.out 3 (by omega)
      obtain ⟨v4, hv4⟩ := HC.out 4 (by omega)
      obtain ⟨v5, hv5⟩ := HC.out 5 (by omega)
      obtain ⟨v6, hv6⟩ := HC.out 6 (by omega)
      obtain ⟨v7, hv7⟩ := HC.out 7 (by omega)
      obtain ⟨v8, hv8⟩ := HC.out 8 (by omega)
      have hv0 := k_below hb2 (Nat.le_refl _) hv0
      have hv1 := k_below hb2 (Nat.le_refl _) hv1
      have hv2 := k_below hb2 (Nat.le_refl _) hv2
      have hv3 := k_below hb2 (Nat.le_refl _) hv3
      have hv4 := k_below hb2 (Nat.le_refl _) hv4
      have hv5 := k_below hb2 (Nat.le_refl _) hv5
      have hv6 := k_below hb2 (Nat.le_refl _) hv6
      have hv7 := k_below hb2 (Nat.le_refl _) hv7
      have hv8 := k_below hb2 (Nat.le_refl _) hv8
      simp only [Nat.add_zero] at hv0
      have hfz : ∀ i, w2.frozen? ⟨w.heap.size, i, none⟩ = false := fun i => by
        rw [← HFR.out i]
        exact hb2.frozen (p := ⟨w.heap.size, i, none⟩) HLT.out
      clear ho2 hb2 HST HC HFR k0 k1 k2 k3 k4 k5 k6 k7 k8
      go_wp2
      go_roundw
      case rel => exact ⟨k + 1, _, by omega, by go_num, HS2⟩
      case measure => simp [intOf]; omega
    · obtain rfl : k = ss.length := by omega
      have hltz : ¬ (ss.length : Int) < (ss.length : Int) := by omega
      go_wp2
      go_ret
      exact ⟨_, rfl, ⟨_, HF.out.done (by omega)⟩, HF.out.B⟩

set_option maxHeartbeats 1000000 in
theorem eqSavedS_same {a1 a2 : Option Addr} {c1 c2 : Nat} {hs1 hs2 : List SvH} {ss : List Sv} {w : World} (hx : Rd9 w a1 c1 hs1 ss) (hy : Rd9 w a2 c2 hs2 ss) :
    Calls Try.prog 28 #[.slice a1 ss.length c1, .slice a2 ss.length c2] w fun e w' => e = .returned (.bool true) ∧ Below w.heap.size w w' := by
  have hln := hx.len
  have hd : ((ss.length : Int) != (ss.length : Int)) = false := by simp
  go_enter Try.func28, Try.ntmps28
  go_wp2
  clear hd
  go_loopw [5] (fun i wr => ∃ k : Nat, k ≤ ss.length ∧ i = .int .i64 k ∧ Below w.heap.size w wr) (fun i _ => ss.length - (intOf i).toNat)
  case atStart => exact ⟨0, Nat.zero_le _, rfl, Below.refl _ _⟩
  case round =>
    obtain ⟨k, hk, rfl, hb⟩ := hrel
    by_cases hlt : k < ss.length
    · obtain ⟨ι, hne, G, hG, hS⟩ := calm_family wr
      have hltz : (k : Int) < (ss.length : Int) := by omega
      have ewk : IntKind.i64.wrap ((k : Int) + 1) = (k : Int) + 1 := IntWalk.i64_in _ (by omega)
      obtain ⟨b1, o1, rfl, _⟩ := hx.here (by omega)
      obtain ⟨b2, o2, rfl, _⟩ := hy.here (by omega)
      obtain ⟨d1, hrx, x0, x1, x2, x3, x4, x5, x6, x7, x8⟩ := (hx.below hb (Nat.le_refl _)).at hlt
      obtain ⟨d2, hry, y0, y1, y2, y3, y4, y5, y6, y7, y8⟩ := (hy.below hb (Nat.le_refl _)).at hlt
      have x0' := fun i => k_at (hG i) x0
      have x1' := fun i => k_at (hG i) x1
      have x2' := fun i => k_at (hG i) x2
      have x3' := fun i => k_at (hG i) x3
      have x4' := fun i => k_at (hG i) x4
      have x5' := fun i => k_at (hG i) x5
      have x6' := fun i => k_at (hG i) x6
      have x7' := fun i => k_at (hG i) x7
      have x8' := fun i => k_at (hG i) x8
      have y0' := fun i => k_at (hG i) y0
      have y1' := fun i => k_at (hG i) y1
      have y2' := fun i => k_at (hG i) y2
      have y3' := fun i => k_at (hG i) y3
      have y4' := fun i => k_at (hG i) y4
      have y5' := fun i => k_at (hG i) y5
      have y6' := fun i => k_at (hG i) y6
      have y7' := fun i => k_at (hG i) y7
      have y8' := fun i => k_at (hG i) y8
      have hix := idx9 (b := b1) (o := o1) (n := ss.length) (c := c1) und_svi siz_svi
      have hiy := idx9 (b := b2) (o := o2) (n := ss.length) (c := c2) und_svi siz_svi
      have HC := Lib.hid (fun i => eqSv_same (hrx.below (hG i) (Nat.le_refl _)) (hry.below (hG i) (Nat.le_refl _)))
      have HG := Lib.hid hG
      have HSU := Lib.hid hS
      generalize ss[k] = s at x0' x1' x2' x3' x4' x5' x6' x7' x8' y0' y1' y2' y3' y4' y5' y6' y7' y8' HC
      clear hG hS x0 x1 x2 x3 x4 x5 x6 x7 x8 y0 y1 y2 y3 y4 y5 y6 y7 y8 hrx hry
      go_wp2_with fail
      refine wp_region_calm (G := G) (by kernel_rfl) (by kernel_rfl) HSU.out ?_
      repeat (go_big_quiet_step ((go_at_call 51; exact calm_call HG.out HSU.out (HC.out _))))
      refine wpQuiet_nil ?_
      intro _ hw'
      obtain ⟨i, hw''⟩ := hw'
      subst hw''
      have hb2 := hb.trans ((HG.out i).mono hb.size)
      clear x0' x1' x2' x3' x4' x5' x6' x7' x8' y0' y1' y2' y3' y4' y5' y6' y7' y8' HC
      generalize G i = w2 at hb2 ⊢
      go_wp2
      go_roundw
      case rel => exact ⟨k + 1, by omega, by go_num, hb2⟩
      case measure => simp [intOf]; omega
    · obtain rfl : k = ss.length := by omega
      have hltz : ¬ (ss.length : Int) < (ss.length : Int) := by omega
      go_wp2
      go_ret
      exact ⟨rfl, hb⟩

end Go.Proofs.Ytgkmmilmdhhleaa
