/- Bands: the program's text. -/
import Derived.Test.YtofbnddmahjanaaIdxBB
import Derived.Test.YtofbnddmahjanaaPairs
import Derived.Test.YtofbnddmahjanaaSeqSlB
import Derived.Test.YtofbnddmahjanaaWith
import Derived.Test.YtofbnddmahjanaaBlk
import Derived.IntWalk
namespace Go.Proofs.Ytofbnddmahjanaa
open Go.RowKit

def divB (W n : Int) : Bool := inR W 1 n && decide (n % W = 0)
/-- The test of two rows. -/
def bandT (xss : List (List Bool)) (W m : Nat) (i k : Nat) : Bool := bandTo (rowAt xss i) (rowAt xss k) W m

theorem areSaltBits_any {n : Int} {w : World} : Calls Try.prog 63 #[.int .i64 n] w fun e w' => e = .returned (.bool (inR n 1 32)) ∧ w = w' := by
  by_cases h1 : 1 ≤ n
  · go_enter Try.func63, Try.ntmps63
    go_wp2
    go_ret
    exact ⟨ret_bool (by simp [inR]; omega), rfl⟩
  · have h2 : decide (1 ≤ n) = false := by simpa using h1
    go_enter Try.func63, Try.ntmps63
    go_wp2
    go_ret
    exact ⟨ret_bool (by simp [inR]; omega), rfl⟩

theorem divides_any {W n : Int} {w : World} (h0 : 0 ≤ n) (h1 : n ≤ 32) : Calls Try.prog 66 #[.int .i64 W, .int .i64 n] w fun e w' => e = .returned (.bool (divB W n)) ∧ w = w' := by
  by_cases h : inR W 1 n = true
  · have hb := (inR_eq _ _ _).1 h
    have b1 := hb.1
    have b2 := hb.2
    have hne : ¬ W = 0 := by omega
    clear hb
    go_enter Try.func66, Try.ntmps66
    go_wp2_with fail
    refine (within_any _ _ _ _).mono ?_
    rintro e w1 ⟨rfl, rfl⟩
    rw [h]
    have H := Lib.hid h
    clear h
    go_wp2
    go_ret
    exact ⟨ret_bool (by simp [divB, H.out]; rfl), rfl⟩
  · have h' : inR W 1 n = false := by simpa using h
    clear h
    go_enter Try.func66, Try.ntmps66
    go_wp2_with fail
    refine (within_any _ _ _ _).mono ?_
    rintro e w1 ⟨rfl, rfl⟩
    rw [h']
    have H := Lib.hid h'
    clear h'
    go_wp2
    go_ret
    exact ⟨ret_bool (by simp [divB, H.out]), rfl⟩

theorem band1_any {a : Option Addr} {n c : Nat} {N : Int} {p : Addr} {w : World} (h : w.cell? p = some (.int .i64 N)) :
    Calls Try.prog 65 #[.slice a n c, .pointer (some p)] w fun e w' => e = .returned (.bool ((n : Int) != N)) ∧ w = w' := by
  go_enter Try.func65, Try.ntmps65
  go_wp2
  go_ret
  exact ⟨rfl, rfl⟩
theorem call_band1 (vs : Array Value) (w : World) : (callFunc 65 vs).run Try.prog w = .ok (.enter 65 vs) w := by kernel_rfl

/-- Whether a row's length is another than N. -/
def offs (xss : List (List Bool)) (N : Int) : List Bool := xss.map fun r => ((r.length : Int) != N)

theorem bandLens_any {a : Option Addr} {c : Nat} {hs : List Hd} {xss : List (List Bool)} {N : Int} {b : Nat} {w : World} (hr : Rd2 Value.bool w a c hs xss) (h : w.cell? ⟨b, 0, none⟩ = some (.int .i64 N)) :
    Calls Try.prog 64 #[.slice a xss.length c, .func (.func 65) #[] #[.pointer (some ⟨b, 0, none⟩)]] w fun e w' => e = .returned (.bool ((offs xss N).any id)) ∧ Below w.heap.size w w' := by
  have hl : (offs xss N).length = xss.length := by simp [offs]
  have := containsFuncbb_any a c hs (offs xss N) w 65 #[.pointer (some ⟨b, 0, none⟩)] call_band1 (by rw [hl, hr.len]) hr.top (by
    intro k hk wr hb
    rw [hl] at hk
    obtain ⟨hd, xs, h1, h2, h3, h4⟩ := hr.row k hk
    rw [h1, Option.getD_some]
    have hx : (offs xss N)[k] = ((hd.2.1 : Int) != N) := by
      have : xss[k] = xs := by rw [List.getElem?_eq_getElem hk] at h2; simpa using h2
      simp [offs, this, h3]
    rw [hx]
    refine (band1_any (k_below hb (Nat.le_refl _) h)).mono ?_
    rintro e w1 ⟨rfl, rfl⟩
    exact ⟨rfl, Below.refl _ _⟩)
  rw [hl] at this
  exact this

theorem band_step {j m W : Nat} (h : j * W < m * W) : j < m ∧ j * W + W ≤ m * W := by
  have h1 : j < m := Nat.lt_of_mul_lt_mul_right h
  refine ⟨h1, ?_⟩
  have := Nat.mul_le_mul_right W (show j + 1 ≤ m from h1)
  rw [Nat.add_mul, Nat.one_mul] at this
  exact this
theorem band_end {j m W : Nat} (hW : 1 ≤ W) (hj : j ≤ m) (h : ¬ j * W < m * W) : j = m := by
  by_cases hlt : j < m
  · exact absurd (Nat.mul_lt_mul_of_pos_right hlt (by omega)) h
  · omega

set_option maxRecDepth 8000 in
set_option maxHeartbeats 4000000 in
theorem implBand_good {a : Option Addr} {c : Nat} {hs : List Hd} {xss : List (List Bool)} {m W n : Nat} {w : World} (hr : Rd2 Value.bool w a c hs xss) (hN1 : 1 ≤ xss.length) (hN2 : xss.length ≤ 32) (hW : 1 ≤ W) (hn0 : 1 ≤ n) (hn : n ≤ 32) (hWn : W ≤ n) (hm : Hid (n = m * W)) (hall : Hid (∀ i (h : i < xss.length), xss[i].length = n)) :
    Calls Try.prog 18 #[.slice a xss.length c, .int .i64 (W : Int)] w (RetSB (Value.int .i64) 2 w (pairsR (bandT xss W m) xss.length) true) := by
  have hi0 := rd_idxAt hr.top und_bbs siz_bbs 0 (by rw [hr.len]; omega) 0 rfl
  rw [hr.len] at hi0
  obtain ⟨a0, c0, hc0, -⟩ := hr.at (show 0 < xss.length by omega)
  rw [hall.out 0 (by omega)] at hc0
  have b1 : inR (n : Int) 1 32 = true := (inR_eq _ _ _).2 (by omega)
  have b2 : (offs xss (n : Int)).any id = false := by
    rw [List.any_eq_false]
    intro x hx
    simp only [offs, List.mem_map] at hx
    obtain ⟨r, hr1, rfl⟩ := hx
    obtain ⟨i, hi, rfl⟩ := List.getElem_of_mem hr1
    rw [hall.out i hi]; simp
  have b3 : divB (W : Int) (n : Int) = true := by
    have : (n : Int) % (W : Int) = 0 := by rw [hm.out]; simp
    simp [divB, inR, this]; omega
  have hb0 : Below w.heap.size w (w.alloc (.cells #[.int .i64 (n : Int)] 3)) := (Below.refl _ _).alloc (Nat.le_refl _) _
  have X0 : Hid (Blk (w.alloc (.cells #[.int .i64 (n : Int)] 3)) w.heap.size #[.int .i64 (n : Int)] 3) := Lib.hid (Blk.new _ _ _)
  have R0 := Lib.hid (hr.below hb0 (Nat.le_refl _))
  have B0 := Lib.hid hb0
  clear hb0
  go_enter Try.func18, Try.ntmps18
  go_wp2_with fail
  generalize w.alloc (.cells #[.int .i64 (n : Int)] 3) = w0 at X0 R0 B0 ⊢
  refine areSaltBits_any.mono ?_
  rintro e w1 ⟨rfl, rfl⟩
  rw [b1]
  go_wp2_with fail
  refine (bandLens_any R0.out (X0.out.cell (i := 0) (v := .int .i64 (n : Int)) rfl)).mono ?_
  rintro e w1 ⟨rfl, hb1⟩
  rw [b2]
  have R1 := Lib.hid (R0.out.below hb1 (Nat.le_refl _))
  have x1 := (X0.out.below hb1 (Nat.le_refl _)).cell (i := 0) (v := .int .i64 (n : Int)) rfl
  have B1 := Lib.hid (B0.out.trans (hb1.mono B0.out.size))
  clear hb1 R0 X0 B0
  go_wp2_with fail
  refine (divides_any (by omega) (by omega)).mono ?_
  rintro e w2 ⟨rfl, rfl⟩
  rw [b3]
  clear b1 b2 b3 hi0 hc0
  go_wp2_with fail
  go_loopw [7, 8, 9, 10, 40] (fun out _ _ _ i wr => ∃ (k : Nat) (xs : List Int) (ao : Option Addr) (co : Nat), k ≤ xss.length ∧ i = .int .i64 k ∧ out = .slice ao xs.length co ∧ Own (Value.int .i64) 2 wr w1.heap.size ao co xs ∧ Hid (xs = prows (bandT xss W m) xss.length k) ∧ Below w1.heap.size w1 wr) (fun _ _ _ _ i _ => xss.length - (intOf i).toNat)
  case atStart => exact ⟨0, [], _, 0, Nat.zero_le _, rfl, rfl, own_empty w1 _ (Nat.le_refl _) rfl, by show _ = _; rfl, (Below.refl _ _).alloc (Nat.le_refl _) _⟩
  case round =>
    obtain ⟨i, xs, ao, co, hi, rfl, rfl, ho, HX, hb⟩ := hrel
    have HO := Lib.hid ho
    have HB := Lib.hid hb
    clear ho hb
    by_cases hlt : i < xss.length
    · have hxl : xs.length ≤ 2048 := by
        rw [HX.out]
        have h1 := prows_len (bandT xss W m) xss.length i
        have h2 : 2 * xss.length * i ≤ 2 * 32 * 32 := Nat.mul_le_mul (by omega) (by omega)
        omega
      obtain ⟨wa, rfl⟩ : ∃ wa : World, wa = wr := ⟨_, rfl⟩
      go_wp2_with fail
      go_loopw [7, 9, 10] (fun out k _ wq => ∃ (j : Nat) (ys : List Int) (ap : Option Addr) (cp : Nat), i + 1 ≤ j ∧ j ≤ xss.length ∧ k = .int .i64 j ∧ out = .slice ap ys.length cp ∧ Own (Value.int .i64) 2 wq w1.heap.size ap cp ys ∧ Hid (ys = xs ++ prow (bandT xss W m) i j) ∧ Below w1.heap.size w1 wq) (fun _ k _ _ => xss.length - (intOf k).toNat)
      case atStart => exact ⟨i + 1, xs, ao, co, Nat.le_refl _, by omega, by go_num, rfl, HO.out, by show _ = _; rw [prow_zero, List.append_nil], HB.out⟩
      case round =>
        obtain ⟨j, ys, ap, cp, hj1, hj2, rfl, rfl, hp, HY, hbq⟩ := hrel
        obtain ⟨wq, rfl⟩ : ∃ wq : World, wq = wr := ⟨_, rfl⟩
        have HP := Lib.hid hp
        have HBQ := Lib.hid hbq
        have rr := R1.out.below hbq (Nat.le_refl _)
        have xn : wq.cell? ⟨w.heap.size, 0, none⟩ = some (.int .i64 (n : Int)) := k_below hbq (Nat.le_refl _) x1
        clear hp hbq HO HB
        by_cases hlj : j < xss.length
        · have hyl : ys.length ≤ 4096 := by
            rw [HY.out, List.length_append]
            have := prow_len (bandT xss W m) i j
            omega
          obtain ⟨ai, ci, hci, hri⟩ := rr.at hlt
          obtain ⟨aj, cj, hcj, hrj⟩ := rr.at hlj
          have hXl := hall.out i hlt
          have hYl := hall.out j hlj
          have HTT : Hid (bandT xss W m i j = bandTo xss[i] xss[j] W m) := Lib.hid (by unfold bandT; rw [rowAt_get hlt, rowAt_get hlj])
          generalize xss[i] = X at hci hri hXl HTT
          generalize xss[j] = Y at hcj hrj hYl HTT
          rw [hXl] at hci
          rw [hYl] at hcj
          have HXL := Lib.hid hXl
          have HYL := Lib.hid hYl
          have hixi := rr.top.idx und_bbs siz_bbs
          rw [rr.len] at hixi
          have HRI := Lib.hid hri
          have HRJ := Lib.hid hrj
          have HIX := Lib.hid hixi
          have HCI := Lib.hid (And.intro hci (And.intro hcj xn))
          clear hri hrj hXl hYl rr hixi hci hcj xn
          go_wp2_with fail
          go_loopw [7, 10] (fun o t wp => ∃ (q p : Nat), o = .slice ap ys.length cp ∧ t = .int .i64 p ∧ p ≤ n ∧ Hid (p = q * W ∧ q ≤ m) ∧ Hid (bandTo X Y W q = false) ∧ Hid (∃ d, wp = wq.drewN d)) (fun _ t _ => n - (intOf t).toNat)
          case atStart => exact ⟨0, 0, rfl, rfl, Nat.zero_le _, by show _ ∧ _; simp, by show _ = _; rfl, by show ∃ d, _; exact ⟨0, rfl⟩⟩
          case round =>
            obtain ⟨q, p, rfl, rfl, hpn, HQ, HF, HD⟩ := hrel
            obtain ⟨wp, rfl⟩ : ∃ wp : World, wp = wr := ⟨_, rfl⟩
            have hbp : Below wq.heap.size wq wp := by obtain ⟨d, hd⟩ := HD.out; rw [hd]; exact below_of_drewN _ _ _
            have xn := k_below hbp (Nat.le_refl _) HCI.out.2.2
            by_cases hl3 : p < n
            · have hst : q < m ∧ p + W ≤ n := by
                have := band_step (j := q) (m := m) (W := W) (by rw [← HQ.out.1, ← hm.out]; exact hl3)
                refine ⟨this.1, ?_⟩
                rw [HQ.out.1, hm.out]; exact this.2
              have hpW : p + W ≤ n := hst.2
              have HST := Lib.hid hst
              clear hst
              have hri := HRI.out.below hbp (Nat.le_refl _)
              have hrj := HRJ.out.below hbp (Nat.le_refl _)
              obtain ⟨a5, c5, hs5, hr5⟩ := hri.midRun und_bs siz_bs (lo := p) (hi := p + W) (by omega) (by rw [HXL.out]; exact hpW)
              obtain ⟨a6, c6, hs6, hr6⟩ := hrj.midRun und_bs siz_bs (lo := p) (hi := p + W) (by omega) (by rw [HYL.out]; exact hpW)
              have hU : ((X.take (p + W)).drop p).length = W := by simp [HXL.out]; omega
              have hV : ((Y.take (p + W)).drop p).length = W := by simp [HYL.out]; omega
              have hUV : decide ((X.take (p + W)).drop p = (Y.take (p + W)).drop p) = decide (bandOf X W q = bandOf Y W q) := by
                unfold bandOf
                rw [slice_take_drop _ _ _ (by omega), slice_take_drop _ _ _ (by omega), Nat.add_sub_cancel_left, ← HQ.out.1]
              have hq := @seqSlB_any a5 a6 c5 c6 ((X.take (p + W)).drop p) ((Y.take (p + W)).drop p)
              rw [hU, hV, hUV] at hq
              rw [Nat.add_sub_cancel_left, Int.natCast_add, HXL.out] at hs5
              rw [Nat.add_sub_cancel_left, Int.natCast_add, HYL.out] at hs6
              obtain ⟨bb, hbb⟩ : ∃ bb, decide (bandOf X W q = bandOf Y W q) = bb := ⟨_, rfl⟩
              rw [hbb] at hq
              have HQQ := Lib.hid (fun (nq : Nat) => hq ((hr5 wp hri).drewN nq) ((hr6 wp hrj).drewN nq))
              have HBB := Lib.hid hbb
              have hci := k_at hbp HCI.out.1
              have hcj := k_at hbp HCI.out.2.1
              have hix := HIX.out
              have ew : IntKind.i64.wrap ((p : Int) + (W : Int)) = (p : Int) + (W : Int) := IntWalk.i64_in _ (by omega)
              have hlt' : (i : Int) < (xss.length : Int) := by omega
              have hlj' : (j : Int) < (xss.length : Int) := by omega
              have HBP := Lib.hid hbp
              clear hU hV hUV hq hbb hr5 hr6 hri hrj hbp
              go_wp2_with fail
              go_quiet ((go_at_call 67; exact Calls.quiet_of (HQQ.out _)))
              have hbz : Below wq.heap.size wq (wp.drewN nq) := HBP.out.trans (below_of_drewN _ _ _)
              have HBZ := Lib.hid hbz
              have HDZ : Hid (∃ d, wp.drewN nq = wq.drewN d) := by
                obtain ⟨d, hd⟩ := HD.out
                exact Lib.hid ⟨d + nq, by rw [hd, World.drewN_drewN]⟩
              clear hbz HBP HQQ xn hci hcj hix hs5 hs6 ew HD
              generalize wp.drewN nq = wz at HBZ HDZ ⊢
              cases bb with
              | true =>
                have HO4 := Lib.hid ((HP.out.below HBZ.out (Nat.le_refl _)).alloc (.cells #[.int .i64 (i : Int), .int .i64 (j : Int)] 2))
                have HL4 : Hid (Rd (Value.int .i64) (wz.alloc (.cells #[.int .i64 (i : Int), .int .i64 (j : Int)] 2)) (some ⟨wz.heap.size, 0, none⟩) 2 [(i : Int), (j : Int)]) := Lib.hid (own_lit (f := Value.int .i64) (e := 2) wz wz.heap.size [(i : Int), (j : Int)] (Nat.le_refl _) (by unfold maxLen; simp)).rd
                have HBW := Lib.hid (HBQ.out.trans (HBZ.out.mono HBQ.out.size))
                have hz1 := HBW.out.size
                go_wp2_with (at_builtin; refine wpl_appendN (f := Value.int .i64) (d := 0) (base := w1.heap.size) und_ise info_i (fun _ => rfl) HO4.out HL4.out rfl _ _ rfl rfl rfl (by omega) (by simp) (by omega) (by simp; omega) ?_; intro a7 c7 w7 ho7 hg7)
                have HO7 := Lib.hid ho7
                have HB7 := Lib.hid ((HBW.out.alloc hz1 (.cells #[.int .i64 (i : Int), .int .i64 (j : Int)] 2)).trans ((grown_belowOwn HO4.out hg7 (Nat.le_refl _) (by simp; omega))))
                clear ho7 hg7
                go_roundw
                case rel => exact ⟨j + 1, ys ++ [(i : Int), (j : Int)], a7, c7, by omega, by omega, by go_num, by rw [List.length_append]; rfl, HO7.out, by show _ = _; rw [prow_succ _ (by omega), HTT.out, bandTo_yes HBB.out HST.out.1, HY.out]; simp, HB7.out⟩
                case measure => simp [intOf]; omega
              | false =>
                go_wp2
                go_roundw
                case rel => exact ⟨q + 1, p + W, rfl, by go_num, hpW, by show _ ∧ _; refine ⟨?_, HST.out.1⟩; rw [HQ.out.1, Nat.add_mul, Nat.one_mul], by show _ = _; exact bandTo_succ_no HF.out HBB.out, HDZ⟩
                case measure => simp [intOf]; omega
            · have hqm : q = m := band_end hW HQ.out.2 (by rw [← HQ.out.1, ← hm.out]; exact hl3)
              have HQM : Hid (bandTo X Y W m = false) := Lib.hid (by rw [← hqm]; exact HF.out)
              have HBP := Lib.hid (HBQ.out.trans (hbp.mono HBQ.out.size))
              have HPP := Lib.hid (HP.out.below hbp (Nat.le_refl _))
              clear hqm hbp
              go_wp2
              go_roundw
              case rel => exact ⟨j + 1, ys, ap, cp, by omega, by omega, by go_num, rfl, HPP.out, by show _ = _; rw [prow_succ _ (by omega), HTT.out, HQM.out, HY.out]; simp, HBP.out⟩
              case measure => simp [intOf]; omega
        · obtain rfl : j = xss.length := by omega
          go_wp2
          go_roundw
          case rel => exact ⟨i + 1, ys, ap, cp, by omega, by go_num, rfl, HP.out, by show _ = _; rw [prows_succ, HY.out, HX.out], HBQ.out⟩
          case measure => simp [intOf]; omega
    · obtain rfl : i = xss.length := by omega
      have HBB := Lib.hid (B1.out.trans (HB.out.mono B1.out.size))
      go_wp2
      go_ret2
      exact ⟨ao, co, by rw [HX.out]; rfl, (HO.out.cast HX.out).mono B1.out.size, HBB.out⟩

end Go.Proofs.Ytofbnddmahjanaa
