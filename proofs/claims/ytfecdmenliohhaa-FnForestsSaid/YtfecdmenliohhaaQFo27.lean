/- EdgeSketch in the program's text. -/
import Derived.Test.YtfecdmenliohhaaQFo21
import Derived.Deep.Cut
import Derived.Deep.DeepCutAuto
import Derived.Deep.CutBlock
set_option linter.unusedVariables false
set_option linter.unusedSimpArgs false
namespace Go.Proofs.Ytfecdmenliohhaa
open Go.RowKit

set_option maxRecDepth 4000 in
set_option maxHeartbeats 2000000 in
theorem implSketch_yes {a1 : Option Addr} {c1 : Nat} {xs : List Int} {n v s : Int} {w : World} (hr : Rd (Value.int .i64) w a1 c1 xs) (he : edgesB n xs = true) (hv : inR v 0 (n - 1) = true) (hs : isKey s = true) :
    Calls Try.prog 13 #[.int .i64 n, .slice a1 xs.length c1, .int .i64 v, .int .i64 s] w (RetSB (Value.int .i64) 2 w (esk n v s xs (xs.length / 2)) true) := by
  obtain ⟨hn1, hn2, hev, hl128, hbd⟩ := edges_bd he
  have hevn : xs.length = 2 * (xs.length / 2) := by omega
  have HEV := Lib.hid hevn
  have HBD := Lib.hid hbd
  have HSB := Lib.hid (isKey_bd hs)
  clear hev hbd hevn
  go_enter Try.func13, Try.ntmps13
  go_wp2_with fail
  refine (areEdges_any hr).mono ?_
  rintro e w1 ⟨rfl, hb1⟩
  rw [he]
  go_wp2_with fail
  refine (within_any _ _ _ _).mono ?_
  rintro e w2 ⟨rfl, rfl⟩
  rw [hv]
  go_wp2_with fail
  refine (implIsKey_any).mono ?_
  rintro e w2 ⟨rfl, rfl⟩
  rw [hs]
  clear he hv hs
  go_wp2_with (at_make; refine wpl_make (f := Value.int .i64) (d := 0) und_ise info_i rfl 48 rfl _ _ rfl rfl rfl (by omega) (by omega) ?_; intro w3 ho0 hb0; revert ho0; generalize (some (⟨w1.heap.size, 0, none⟩ : Addr)) = A; intro ho0)
  have hb3 := hb1.trans (hb0.mono hb1.size)
  have hz1 := hb1.size
  have hz3 := hb0.size
  clear hb0
  go_loopw [11, 12, 13, 14, 15, 16, 17, 18, 62, 63, 66] (fun i _ _ _ _ _ _ _ _ _ _ wr => ∃ (k : Nat) (O : List Int), k ≤ xs.length / 2 ∧ i = .int .i64 ((2 * k : Nat) : Int) ∧ Own (Value.int .i64) 2 wr w1.heap.size A 48 O ∧ Hid (O = esk n v s xs k) ∧ Below w.heap.size w wr) (fun i _ _ _ _ _ _ _ _ _ _ _ => xs.length - (intOf i).toNat)
  case atStart => exact ⟨0, _, Nat.zero_le _, rfl, ho0, by show _ = _; rfl, hb3⟩
  case round =>
    obtain ⟨k, O, hk, rfl, ho, HO, hb⟩ := hrel
    have hz := hb.size
    have hOl : O.length = 48 := by rw [HO.out, esk_length]
    have HOL := Lib.hid hOl
    have HOO := Lib.hid ho
    clear ho hOl hb3 hz3
    by_cases hlt : k < xs.length / 2
    · have hm1 : 2 * k + 1 < xs.length := by omega
      have hxr := hr.below hb (Nat.le_refl _)
      have hi0 := rd_idxAt hxr und_is siz_is (2 * k) (by omega) (2 * (k : Int)) (by omega)
      have hi1 := rd_idxAt hxr und_is siz_is (2 * k + 1) (by omega) (2 * (k : Int) + 1) (by omega)
      have hc0 := hxr.cell (2 * k) (by omega)
      have hc1 := hxr.cell (2 * k + 1) (by omega)
      have ew : IntKind.i64.wrap (2 * (k : Int) + 1) = 2 * (k : Int) + 1 := IntWalk.i64_in _ (by omega)
      have hb0 := HBD.out (2 * k) (by omega)
      have hb1 := HBD.out (2 * k + 1) (by omega)
      obtain ⟨x, hx⟩ : ∃ s, xs[2 * k]?.getD 0 = s := ⟨_, rfl⟩
      obtain ⟨y, hy⟩ : ∃ s, xs[2 * k + 1]?.getD 0 = s := ⟨_, rfl⟩
      have hd : (default : Int) = 0 := rfl
      rw [hx] at hb0
      rw [hy] at hb1
      rw [hd, hx] at hc0
      rw [hd, hy] at hc1
      obtain ⟨p, hp⟩ : ∃ p, (if y < x then y else x) = p := ⟨_, rfl⟩
      obtain ⟨q, hq⟩ : ∃ p, (if x < y then y else x) = p := ⟨_, rfl⟩
      have hp' : min x y = p := by rw [← hp]; split <;> omega
      have hq' : max x y = q := by rw [← hq]; split <;> omega
      have hpb : 0 ≤ p ∧ p ≤ n - 1 := by omega
      have hqb : 0 ≤ q ∧ q ≤ n - 1 := by omega
      have HS := Lib.hid (estep_eq (n := n) (v := v) (salt := s) (O := O) hx hy hp' hq')
      clear hd hx hy hp' hq'
      go_wp2_with fail
      go_quiet (fail)
      clear hp hq hc0 hc1 hi0 hi1 ew hb0 hb1
      have hsg : sgnE p q v = if v == p then 1 else if v == q then -1 else 0 := by
        unfold sgnE
        by_cases h1 : p = v
        · simp [h1]
        · by_cases h2 : q = v
          · have : (v == p) = false := by simpa using fun e => h1 e.symm
            simp [h1, h2, this]
          · have : (v == p) = false := by simpa using fun e => h1 e.symm
            have h3 : (v == q) = false := by simpa using fun e => h2 e.symm
            simp [h1, h2, this, h3]
      obtain ⟨sg, hsg2⟩ : ∃ t, sgnE p q v = t := ⟨_, rfl⟩
      have HSG := Lib.hid (hsg2.symm.trans hsg)
      have HS2 := Lib.hid hsg2
      have hsgb : -1 ≤ sg ∧ sg ≤ 1 := by rw [← hsg2]; exact sgnE_bd _ _ _
      clear hsg hsg2
      go_upto_block 2 with fail
      go_cut [14] (fun s14 wx => s14 = .int .i64 sg ∧ wr.drewN nq = wx)
      case first =>
        cases h1 : (v == p) with
        | true =>
          go_wp2
          go_meet
          case rel => exact ⟨by rw [HSG.out, h1]; rfl, rfl⟩
        | false =>
          cases h2 : (v == q) with
          | true =>
            go_wp2
            go_meet
            case rel => exact ⟨by rw [HSG.out, h1, h2]; rfl, rfl⟩
          | false =>
            go_wp2
            go_meet
            case rel => exact ⟨by rw [HSG.out, h1, h2]; rfl, rfl⟩
      case rest =>
        obtain ⟨rfl, rfl⟩ := hcut
        clear HSG
        obtain ⟨t, ht⟩ : ∃ t, p * n = t := ⟨_, rfl⟩
        have htb : 0 ≤ t ∧ t ≤ 992 := by
          have h1 : 0 ≤ p * n := Int.mul_nonneg hpb.1 (by omega)
          have h2 : p * n ≤ 31 * 32 := Int.mul_le_mul (by omega) hn2 (by omega) (by omega)
          omega
        have htw : wrap64 (p * n) = t := by rw [ht]; unfold wrap64; omega
        obtain ⟨m, hm⟩ : ∃ m, t + q = m := ⟨_, rfl⟩
        have hmb : 0 ≤ m ∧ m < 4294967296 := by omega
        have hmb2 : m ≤ 1023 := by omega
        have HM : Hid (p * n + q = m) := by show _ = _; rw [ht, hm]
        have hhb := hashZ_bd m s
        obtain ⟨Z, M, hZ, hZb, hM, hMb, hML⟩ := lev_hid (m := m) (s := s)
        have HZ := Lib.hid hZ
        have HML := Lib.hid hML
        clear hML
        clear hZ ht
        go_wp2_with fail
        refine (hash_any hmb.1 hmb.2 HSB.out.1 HSB.out.2).mono ?_
        rintro e w4 ⟨rfl, rfl⟩
        go_wp2_with fail
        refine (zerosOf_any hhb.1 hhb.2).mono ?_
        rintro e w4 ⟨rfl, rfl⟩
        rw [HZ.out]
        go_wp2_with fail
        obtain ⟨p1, hp1⟩ : ∃ t, sg * m = t := ⟨_, rfl⟩
        have hp1b : -1023 ≤ p1 ∧ p1 ≤ 1023 := by
          rcases (show sg = -1 ∨ sg = 0 ∨ sg = 1 by omega) with h | h | h <;> rw [h] at hp1 <;> omega
        have hw1 : wrap64 (sg * m) = p1 := by rw [hp1]; unfold wrap64; omega
        obtain ⟨p2, hp2⟩ : ∃ t, p1 * m = t := ⟨_, rfl⟩
        have hp2b : -1046529 ≤ p2 ∧ p2 ≤ 1046529 := by
          have hmm : m * m ≤ 1023 * 1023 := Int.mul_le_mul hmb2 hmb2 hmb.1 (by omega)
          have hm0 : 0 ≤ m * m := Int.mul_nonneg hmb.1 hmb.1
          have e : p2 = sg * (m * m) := by rw [← hp2, ← hp1, Int.mul_assoc]
          generalize m * m = r at hmm hm0 e
          rcases (show sg = -1 ∨ sg = 0 ∨ sg = 1 by omega) with h | h | h <;> rw [h] at e <;> omega
        have hw2 : wrap64 (p1 * m) = p2 := by rw [hp2]; unfold wrap64; omega
        have HP : Hid (sg * m = p1 ∧ sg * m * m = p2) := ⟨hp1, by rw [hp1, hp2]⟩
        clear hp1 hp2 hp1b hp2b
        have hbq : Below w.heap.size w (wr.drewN nq) := hb.trans (below_of_drewN _ _ _)
        have hoq := HOO.out.drewN nq
        go_loopw [18] (fun i w4 => ∃ (l : Nat) (O' : List Int), l ≤ M + 1 ∧ i = .int .i64 l ∧ Own (Value.int .i64) 2 w4 w1.heap.size A 48 O' ∧ Hid (O' = levs sg m O l) ∧ Below w.heap.size w w4) (fun i _ => M + 1 - (intOf i).toNat)
        case atStart => exact ⟨0, O, Nat.zero_le _, rfl, hoq, by show _ = _; rfl, hbq⟩
        case round =>
          obtain ⟨l, O', hl, rfl, ho4, HO4, hb4⟩ := hrel
          clear hoq hbq htw
          obtain ⟨w4, rfl⟩ : ∃ w4 : World, w4 = wr := ⟨_, rfl⟩
          have hz4 := hb4.size
          have hl4 : O'.length = 48 := by rw [HO4.out, levs_length, HOL.out]
          by_cases hlm : l ≤ M
          · have hi0 := rd_idxAt ho4.rd und_is siz_is (3 * l) (by omega) (3 * (l : Int)) (by omega)
            have hi1 := rd_idxAt ho4.rd und_is siz_is (3 * l + 1) (by omega) (3 * (l : Int) + 1) (by omega)
            have hi2 := rd_idxAt ho4.rd und_is siz_is (3 * l + 2) (by omega) (3 * (l : Int) + 2) (by omega)
            rw [hl4] at hi0 hi1 hi2
            have hd : (default : Int) = 0 := rfl
            obtain ⟨O1, hO1⟩ : ∃ U, bump O' (3 * l) sg = U := ⟨_, rfl⟩
            obtain ⟨O2, hO2⟩ : ∃ U, bump O1 (3 * l + 1) p1 = U := ⟨_, rfl⟩
            obtain ⟨O3, hO3⟩ : ∃ U, bump O2 (3 * l + 2) p2 = U := ⟨_, rfl⟩
            have hl5 : O1.length = 48 := by rw [← hO1, bump_length, hl4]
            have hl6 : O2.length = 48 := by rw [← hO2, bump_length, hl5]
            have HO3 : Hid (O3 = levs sg m O (l + 1)) := by
              show _ = _
              rw [levs_succ, ← HO4.out, lev3, HP.out.2, HP.out.1, hO1, hO2, hO3]
            obtain ⟨c0, hc0⟩ : ∃ t, O'[3 * l]?.getD 0 = t := ⟨_, rfl⟩
            obtain ⟨c1, hc1⟩ : ∃ t, O1[3 * l + 1]?.getD 0 = t := ⟨_, rfl⟩
            obtain ⟨c2, hc2⟩ : ∃ t, O2[3 * l + 2]?.getD 0 = t := ⟨_, rfl⟩
            have k0 := ho4.rd.cell (3 * l) (by omega)
            have f0 := ho4.free (3 * l) (by omega)
            have s1 := ho4.set (3 * l) (by omega) (wrap64 (c0 + sg))
            rw [hd, hc0] at k0
            rw [show O'.set (3 * l) (wrap64 (c0 + sg)) = O1 by rw [← hO1, bump, hc0]] at s1
            obtain ⟨W1, hW1⟩ : ∃ W, w4.setCell (elt A (3 * l)) (.int .i64 (wrap64 (c0 + sg))) = W := ⟨_, rfl⟩
            rw [hW1] at s1
            have k1 := s1.1.rd.cell (3 * l + 1) (by omega)
            have f1 := s1.1.free (3 * l + 1) (by omega)
            have s2 := s1.1.set (3 * l + 1) (by omega) (wrap64 (c1 + p1))
            rw [hd, hc1] at k1
            rw [show O1.set (3 * l + 1) (wrap64 (c1 + p1)) = O2 by rw [← hO2, bump, hc1]] at s2
            obtain ⟨W2, hW2⟩ : ∃ W, W1.setCell (elt A (3 * l + 1)) (.int .i64 (wrap64 (c1 + p1))) = W := ⟨_, rfl⟩
            rw [hW2] at s2
            have k2 := s2.1.rd.cell (3 * l + 2) (by omega)
            have f2 := s2.1.free (3 * l + 2) (by omega)
            have s3 := s2.1.set (3 * l + 2) (by omega) (wrap64 (c2 + p2))
            rw [hd, hc2] at k2
            rw [show O2.set (3 * l + 2) (wrap64 (c2 + p2)) = O3 by rw [← hO3, bump, hc2]] at s3
            obtain ⟨W3, hW3⟩ : ∃ W, W2.setCell (elt A (3 * l + 2)) (.int .i64 (wrap64 (c2 + p2))) = W := ⟨_, rfl⟩
            rw [hW3] at s3
            have hb5 := hb4.trans (grown_belowOwn ho4 s1.2 (by omega) hb4.size)
            have hb6 := hb5.trans (grown_belowOwn s1.1 s2.2 (by omega) hb5.size)
            have hb7 := hb6.trans (grown_belowOwn s2.1 s3.2 (by omega) hb6.size)
            have S3 := Lib.hid s3.1
            have ee : IntKind.i64.wrap (3 * (l : Int)) = 3 * (l : Int) := IntWalk.i64_in _ (by omega)
            clear hd hO1 hO2 hO3 hl5 hl6 hc0 hc1 hc2 s1 s2 s3 hl4 ho4 hb5 hb6
            go_wp2
            go_roundw
            case rel => exact ⟨l + 1, O3, by omega, by go_num, S3.out, HO3, hb7⟩
            case measure => simp [intOf]; omega
          · have hle : l = M + 1 := by omega
            have HE : Hid (O' = esk n v s xs (k + 1)) := by
              show _ = _
              rw [esk_succ, ← HO.out, HS.out, HS2.out, HM.out, HML.out, HO4.out, hle]
            have H4 := Lib.hid ho4
            clear ho4
            go_wp2
            go_roundw
            case rel => exact ⟨k + 1, O', by omega, by go_num, H4.out, HE, hb4⟩
            case measure => simp [intOf]; omega
    · have hkk : k = xs.length / 2 := by omega
      have hge : (xs.length : Int) ≤ ((2 * k : Nat) : Int) := by have := HEV.out; omega
      have HK := Lib.hid hkk
      clear hkk
      go_wp2
      go_ret2
      have he2 : O = esk n v s xs (xs.length / 2) := by rw [← HK.out, ← HO.out]
      rw [← he2]
      have ho := HOO.out.mono hz1
      have hl := HOL.out
      refine ⟨A, 48, ?_, ho, hb⟩
      rw [hl]
      rfl
end Go.Proofs.Ytfecdmenliohhaa
