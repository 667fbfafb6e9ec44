/- Bands: the reference's text at every input. -/
import Derived.Test.YtofbnddmahjanaaBandS
namespace Go.Proofs.Ytofbnddmahjanaa
open Go.RowKit

theorem l00In_int (n lo hi : Int) (w : World) : Calls Try.prog 60 #[.int .i64 n, .int .i64 lo, .int .i64 hi] w fun e w' => e = .returned (.bool (inR n lo hi)) ∧ w = w' := l00In_any n lo hi w

set_option maxRecDepth 8000 in
set_option maxHeartbeats 4000000 in
theorem specBand_good {a : Option Addr} {c : Nat} {hs : List Hd} {xss : List (List Bool)} {m W n : Nat} {w : World} (hr : Rd2 Value.bool w a c hs xss) (hN1 : 1 ≤ xss.length) (hN2 : xss.length ≤ 32) (hW : 1 ≤ W) (hn0 : 1 ≤ n) (hn : n ≤ 32) (hWn : W ≤ n) (hm : Hid (n = m * W)) (hall : Hid (∀ i (h : i < xss.length), xss[i].length = n)) :
    Calls Try.prog 16 #[.slice a xss.length c, .int .i64 (W : Int)] w (RetSB (Value.int .i64) 2 w (pairsR (bandT xss W m) xss.length) true) := by
  have hi0 := rd_idxAt hr.top und_bbs siz_bbs 0 (by rw [hr.len]; omega) 0 rfl
  rw [hr.len] at hi0
  obtain ⟨a0, c0, hc0, -⟩ := hr.at (show 0 < xss.length by omega)
  rw [hall.out 0 (by omega)] at hc0
  have b1 : inR (n : Int) 1 32 = true := (inR_eq _ _ _).2 (by omega)
  have b2 : inR (W : Int) 1 (n : Int) = true := (inR_eq _ _ _).2 (by omega)
  have b3 : (n : Int) % (W : Int) = 0 := by rw [hm.out]; simp
  have b4 : (((n : Int) % (W : Int)) != 0) = false := by rw [b3]; rfl
  have hix := hr.top.idx und_bbs siz_bbs
  rw [hr.len] at hix
  have HIX := Lib.hid hix
  clear b3 hix
  go_enter Try.func16, Try.ntmps16
  go_wp2_with fail
  refine (l00In_any _ _ _ _).mono ?_
  rintro e w1 ⟨rfl, rfl⟩
  rw [b1]
  go_wp2_with fail
  refine (l00In_any _ _ _ _).mono ?_
  rintro e w1 ⟨rfl, rfl⟩
  rw [b2]
  have hWp : (0 : Int) < (W : Int) := by omega
  have hne : ¬ (W : Int) = 0 := by omega
  go_wp2
  clear b1 b2 b4 hi0 hc0 hWp hne
  go_loop [7, 40] (fun _ i => ∃ k : Nat, k ≤ xss.length ∧ i = .int .i64 k) (fun _ i => xss.length - (intOf i).toNat)
  case atStart => exact ⟨0, Nat.zero_le _, rfl⟩
  case round =>
    obtain ⟨k, hk, rfl⟩ := hrel
    by_cases hlt : k < xss.length
    · obtain ⟨ak, ck, hck, -⟩ := hr.at hlt
      rw [hall.out k hlt] at hck
      have hix := HIX.out
      have hne : ((n : Int) != (n : Int)) = false := by simp
      go_wp2
      go_round
      case rel => exact ⟨k + 1, by omega, by go_num⟩
      case measure => simp [intOf]; omega
    · obtain rfl : k = xss.length := by omega
      go_wp2_with fail
      go_loopw [8, 9, 10, 54] (fun out _ _ i wr => ∃ (k : Nat) (xs : List Int) (ao : Option Addr) (co : Nat), k ≤ xss.length ∧ i = .int .i64 k ∧ out = .slice ao xs.length co ∧ Own (Value.int .i64) 2 wr w.heap.size ao co xs ∧ Hid (xs = prows (bandT xss W m) xss.length k) ∧ Below w.heap.size w wr) (fun _ _ _ i _ => xss.length - (intOf i).toNat)
      case atStart => exact ⟨0, [], _, 0, Nat.zero_le _, rfl, rfl, own_empty w _ (Nat.le_refl _) rfl, by show _ = _; rfl, (Below.refl _ _).alloc (Nat.le_refl _) _⟩
      case round =>
        obtain ⟨i, xs, ao, co, hi, rfl, rfl, ho, HX, hb⟩ := hrel
        have HO := Lib.hid ho
        have HB := Lib.hid hb
        clear ho hb
        by_cases hlt : i < xss.length
        · have hxl : xs.length ≤ 2048 := by
            rw [HX.out]
            have h1 := prows_len (bandT xss W m) xss.length i
            have h2 : 2 * xss.length * i ≤ 2 * 32 * 32 := Nat.mul_le_mul (by omega) (by omega)
            omega
          obtain ⟨wa, rfl⟩ : ∃ wa : World, wa = wr := ⟨_, rfl⟩
          go_wp2_with fail
          go_loopw [8, 10] (fun out k wq => ∃ (j : Nat) (ys : List Int) (ap : Option Addr) (cp : Nat), i + 1 ≤ j ∧ j ≤ xss.length ∧ k = .int .i64 j ∧ out = .slice ap ys.length cp ∧ Own (Value.int .i64) 2 wq w.heap.size ap cp ys ∧ Hid (ys = xs ++ prow (bandT xss W m) i j) ∧ Below w.heap.size w wq) (fun _ k _ => xss.length - (intOf k).toNat)
          case atStart => exact ⟨i + 1, xs, ao, co, Nat.le_refl _, by omega, by go_num, rfl, HO.out, by show _ = _; rw [prow_zero, List.append_nil], HB.out⟩
          case round =>
            obtain ⟨j, ys, ap, cp, hj1, hj2, rfl, rfl, hp, HY, hbq⟩ := hrel
            obtain ⟨wq, rfl⟩ : ∃ wq : World, wq = wr := ⟨_, rfl⟩
            have HP := Lib.hid hp
            have HBQ := Lib.hid hbq
            have rr := hr.below hbq (Nat.le_refl _)
            clear hp hbq HO HB
            by_cases hlj : j < xss.length
            · have hyl : ys.length ≤ 4096 := by
                rw [HY.out, List.length_append]
                have := prow_len (bandT xss W m) i j
                omega
              obtain ⟨ai, ci, hci, hri⟩ := rr.at hlt
              obtain ⟨aj, cj, hcj, hrj⟩ := rr.at hlj
              have hXl := hall.out i hlt
              have hYl := hall.out j hlj
              have HTT : Hid (bandT xss W m i j = bandTo xss[i] xss[j] W m) := Lib.hid (by unfold bandT; rw [rowAt_get hlt, rowAt_get hlj])
              generalize xss[i] = X at hci hri hXl HTT
              generalize xss[j] = Y at hcj hrj hYl HTT
              rw [hXl] at hci
              rw [hYl] at hcj
              have hq := fun (d : Nat) => l07Band_any (W := W) (hri.drewN d) (hrj.drewN d) (Lib.hid hXl) (Lib.hid hYl) hn hW hWn hm
              obtain ⟨bb, hbb⟩ : ∃ bb, bandTo X Y W m = bb := ⟨_, rfl⟩
              rw [hbb] at hq HTT
              have HQ := Lib.hid hq
              have hix := HIX.out
              clear hri hrj hXl hYl rr hq hbb
              go_wp2_with fail
              go_quiet ((go_at_call 61; exact Calls.quiet_of (HQ.out _)))
              have hbz : Below wq.heap.size wq (wq.drewN nq) := below_of_drewN _ _ _
              have HBZ := Lib.hid hbz
              clear hbz HQ hci hcj hix
              generalize wq.drewN nq = wz at HBZ ⊢
              have HBW := Lib.hid (HBQ.out.trans (HBZ.out.mono HBQ.out.size))
              have hz1 := HBW.out.size
              have HPZ := Lib.hid (HP.out.below HBZ.out (Nat.le_refl _))
              cases bb with
              | true =>
                have HO4 := Lib.hid (HPZ.out.alloc (.cells #[.int .i64 (i : Int), .int .i64 (j : Int)] 2))
                have HL4 : Hid (Rd (Value.int .i64) (wz.alloc (.cells #[.int .i64 (i : Int), .int .i64 (j : Int)] 2)) (some ⟨wz.heap.size, 0, none⟩) 2 [(i : Int), (j : Int)]) := Lib.hid (own_lit (f := Value.int .i64) (e := 2) wz wz.heap.size [(i : Int), (j : Int)] (Nat.le_refl _) (by unfold maxLen; simp)).rd
                go_wp2_with (at_builtin; refine wpl_appendN (f := Value.int .i64) (d := 0) (base := w.heap.size) und_ise info_i (fun _ => rfl) HO4.out HL4.out rfl _ _ rfl rfl rfl (by omega) (by simp) (by omega) (by simp; omega) ?_; intro a7 c7 w7 ho7 hg7)
                have HO7 := Lib.hid ho7
                have HB7 := Lib.hid ((HBW.out.alloc hz1 (.cells #[.int .i64 (i : Int), .int .i64 (j : Int)] 2)).trans ((grown_belowOwn HO4.out hg7 (Nat.le_refl _) (by simp; omega))))
                clear ho7 hg7
                go_roundw
                case rel => exact ⟨j + 1, ys ++ [(i : Int), (j : Int)], a7, c7, by omega, by omega, by go_num, by rw [List.length_append]; rfl, HO7.out, by show _ = _; rw [prow_succ _ (by omega), HTT.out, HY.out]; simp, HB7.out⟩
                case measure => simp [intOf]; omega
              | false =>
                go_wp2
                go_roundw
                case rel => exact ⟨j + 1, ys, ap, cp, by omega, by omega, by go_num, rfl, HPZ.out, by show _ = _; rw [prow_succ _ (by omega), HTT.out, HY.out]; simp, HBW.out⟩
                case measure => simp [intOf]; omega
            · obtain rfl : j = xss.length := by omega
              go_wp2
              go_roundw
              case rel => exact ⟨i + 1, ys, ap, cp, by omega, by go_num, rfl, HP.out, by show _ = _; rw [prows_succ, HY.out, HX.out], HBQ.out⟩
              case measure => simp [intOf]; omega
        · obtain rfl : i = xss.length := by omega
          go_wp2
          go_ret2
          exact ⟨ao, co, by rw [HX.out]; rfl, HO.out.cast HX.out, HB.out⟩

set_option maxHeartbeats 1000000 in
theorem specBand_no1 {a : Option Addr} {c : Nat} {xss : List (List Bool)} {W : Int} {w : World} (hl : xss.length ≤ 9223372036854775807) (h : ¬ (1 ≤ xss.length ∧ xss.length ≤ 32)) :
    Calls Try.prog 16 #[.slice a xss.length c, .int .i64 W] w (RetSB (Value.int .i64) 2 w [] false) := by
  by_cases h1 : xss.length < 1
  · go_enter Try.func16, Try.ntmps16
    go_wp2
    go_ret2
    exact retSB_no (Below.refl _ _)
  · have h2 : 32 < xss.length := by omega
    clear h
    go_enter Try.func16, Try.ntmps16
    go_wp2
    go_ret2
    exact retSB_no (Below.refl _ _)

theorem off_at {xss : List (List Bool)} {N : Int} (h : (offs xss N).any id = true) : ¬ ∀ i (h : i < xss.length), (xss[i].length : Int) = N := by
  intro hall
  rw [List.any_eq_true] at h
  obtain ⟨x, hx, hx2⟩ := h
  simp only [offs, List.mem_map] at hx
  obtain ⟨r, hr1, rfl⟩ := hx
  obtain ⟨i, hi, rfl⟩ := List.getElem_of_mem hr1
  rw [hall i hi] at hx2; simp at hx2

set_option maxRecDepth 8000 in
set_option maxHeartbeats 2000000 in
theorem specBand_no2 {a : Option Addr} {c : Nat} {hs : List Hd} {xss : List (List Bool)} {n : Nat} {W : Int} {w : World} (hr : Rd2 Value.bool w a c hs xss) (hN1 : 1 ≤ xss.length) (hN2 : xss.length ≤ 32) (hn : (rowAt xss 0).length = n) (hnm : n ≤ 9223372036854775807)
    (h : (inR (n : Int) 1 32 && !(offs xss (n : Int)).any id && divB W (n : Int)) = false) :
    Calls Try.prog 16 #[.slice a xss.length c, .int .i64 W] w (RetSB (Value.int .i64) 2 w [] false) := by
  have hi0 := rd_idxAt hr.top und_bbs siz_bbs 0 (by rw [hr.len]; omega) 0 rfl
  rw [hr.len] at hi0
  obtain ⟨a0, c0, hc0, -⟩ := hr.at (show 0 < xss.length by omega)
  rw [← rowAt_get (by omega), hn] at hc0
  clear hn
  have H := Lib.hid h
  clear h
  go_enter Try.func16, Try.ntmps16
  go_wp2_with fail
  refine (l00In_any _ _ _ _).mono ?_
  rintro e w1 ⟨rfl, rfl⟩
  by_cases b1 : inR (n : Int) 1 32 = true
  · rw [b1]
    have hnb := (inR_eq _ _ _).1 b1
    have hnb2 := hnb.2
    have HB1 := Lib.hid b1
    clear b1 hnb
    go_wp2_with fail
    refine (l00In_any _ _ _ _).mono ?_
    rintro e w1 ⟨rfl, rfl⟩
    by_cases b2 : inR W 1 (n : Int) = true
    · rw [b2]
      have hb2 := (inR_eq _ _ _).1 b2
      have hw1 := hb2.1
      have hw2 := hb2.2
      have hne : ¬ W = 0 := by omega
      have HB2 := Lib.hid b2
      clear b2 hb2
      by_cases b3 : (n : Int) % W = 0
      · have hq : (((n : Int) % W) != 0) = false := by rw [b3]; rfl
        have hoff : (offs xss (n : Int)).any id = true := by
          have := H.out
          rw [HB1.out] at this
          simp [divB, HB2.out, b3] at this
          simpa using this
        have HOFF := Lib.hid (off_at hoff)
        have hix := hr.top.idx und_bbs siz_bbs
        rw [hr.len] at hix
        have HIX := Lib.hid hix
        clear b3 hoff hix
        go_wp2
        clear hq hi0 hc0
        go_loop [7, 40] (fun _ i => ∃ k : Nat, k ≤ xss.length ∧ i = .int .i64 k ∧ Hid (∀ i, i < k → ∀ (h : i < xss.length), (xss[i].length : Int) = (n : Int))) (fun _ i => xss.length - (intOf i).toNat)
        case atStart => exact ⟨0, Nat.zero_le _, rfl, by show ∀ i, _; intro i hi; omega⟩
        case round =>
          obtain ⟨k, hk, rfl, HK⟩ := hrel
          by_cases hlt : k < xss.length
          · obtain ⟨ak, ck, hck, hrk⟩ := hr.at hlt
            have hlk := hrk.len
            obtain ⟨z, hz⟩ : ∃ z, xss[k].length = z := ⟨_, rfl⟩
            rw [hz] at hck hlk
            have HZ := Lib.hid hz
            have hix := HIX.out
            clear hz hrk
            by_cases hzn : z = n
            · subst hzn
              have hne2 : ((z : Int) != (z : Int)) = false := by simp
              go_wp2
              go_round
              case rel =>
                refine ⟨k + 1, by omega, by go_num, ?_⟩
                show ∀ i, _
                intro i hi hi2
                by_cases hik : i = k
                · subst hik; rw [HZ.out]
                · exact HK.out i (by omega) hi2
              case measure => simp [intOf]; omega
            · have hne2 : ((z : Int) != (n : Int)) = true := by simp; omega
              clear hzn
              go_wp2
              go_ret2
              exact retSB_no (Below.refl _ _)
          · obtain rfl : k = xss.length := by omega
            exact absurd (fun i hi => HK.out i hi hi) HOFF.out
      · have hq : (((n : Int) % W) != 0) = true := by simpa using b3
        clear b3
        go_wp2
        go_ret2
        exact retSB_no (Below.refl _ _)
    · have b2' : inR W 1 (n : Int) = false := by simpa using b2
      rw [b2']
      clear b2 b2'
      go_wp2
      go_ret2
      exact retSB_no (Below.refl _ _)
  · have b1' : inR (n : Int) 1 32 = false := by simpa using b1
    rw [b1']
    clear b1 b1'
    go_wp2
    go_ret2
    exact retSB_no (Below.refl _ _)

theorem specBand_any {a : Option Addr} {c : Nat} {hs : List Hd} {xss : List (List Bool)} {W : Int} {w : World} (hr : Rd2 Value.bool w a c hs xss) :
    Calls Try.prog 16 #[.slice a xss.length c, .int .i64 W] w (RetSB (Value.int .i64) 2 w (bandR xss W) (bandOk xss W)) := by
  by_cases hok : bandOk xss W = true
  · obtain ⟨V, m, n, rfl, h1, h2, h3, h4, h5, h6, h7, h8, -, h9⟩ := bandOk_good hok
    rw [h9, hok]
    exact specBand_good hr h1 h2 h3 h4 h5 h6 (Lib.hid h7) (Lib.hid h8)
  · have hno : bandOk xss W = false := by simpa using hok
    have hR : bandR xss W = [] := by unfold bandR; rw [if_neg hok]
    rw [hR, hno]
    by_cases h1 : 1 ≤ xss.length ∧ xss.length ≤ 32
    · refine specBand_no2 hr h1.1 h1.2 rfl ?_ ?_
      · obtain ⟨_, _, _, hr0⟩ := hr.at (show 0 < xss.length by omega)
        rw [rowAt_get (by omega)]; exact hr0.len
      · simp only [bandOk] at hno
        rw [decide_eq_true h1.1, decide_eq_true h1.2] at hno
        simpa using hno
    · exact specBand_no1 hr.lens h1

theorem bandR_len (xss : List (List Bool)) (W : Int) : (bandR xss W).length ≤ 2048 := by
  by_cases hok : bandOk xss W = true
  · obtain ⟨V, m, n, rfl, h1, h2, h3, h4, h5, h6, h7, h8, -, h9⟩ := bandOk_good hok
    rw [h9]
    unfold pairsR
    have h1 := prows_len (bandT xss V m) xss.length xss.length
    have h2 : 2 * xss.length * xss.length ≤ 2 * 32 * 32 := Nat.mul_le_mul (by omega) (by omega)
    omega
  · have hR : bandR xss W = [] := by unfold bandR; rw [if_neg hok]
    rw [hR]; simp

end Go.Proofs.Ytofbnddmahjanaa
