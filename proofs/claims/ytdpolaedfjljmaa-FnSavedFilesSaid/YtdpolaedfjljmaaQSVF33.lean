/- What a text begins with, in the program's text. -/
import Derived.Test.YtdpolaedfjljmaaQSVF29
import Derived.Test.YtdpolaedfjljmaaQSVF28
import Derived.Deep.DrawnRows
import Derived.Deep.Cut
import Derived.Deep.DeepCutAuto
import Derived.Deep.CutBlock
import Derived.Deep.RegionLaw
namespace Go.Proofs.Ytdpolaedfjljmaa
open Go.RowKit
attribute [local go_sem ↓] Go.wp_at_zero Go.wp_at_succ

theorem ldE_eq (s : ByteArray) : ldE s = ldA1 s + 10 + 4 * ldN s + 12 * ldK s := by unfold ldE ldA3; omega
theorem ldA1_eq (s : ByteArray) : ldA1 s = 5 + byt s 4 := rfl
theorem ldA3_eq (s : ByteArray) : ldA3 s = ldA1 s + 6 + 4 * ldN s := rfl

set_option maxRecDepth 10000 in
set_option maxHeartbeats 8000000 in
theorem load_any {s : ByteArray} {w : World} (hs : s.size ≤ 1048576) :
    Calls Try.prog 51 #[.string s] w (RetLd w (ldV s) (ldN0 s) (ldOk s)) := by
  obtain ⟨xv, hxv⟩ : ∃ z, ldV s = z := ⟨_, rfl⟩
  obtain ⟨xn, hxn⟩ : ∃ z, ldN0 s = z := ⟨_, rfl⟩
  obtain ⟨xo, hxo⟩ : ∃ z, ldOk s = z := ⟨_, rfl⟩
  rw [hxv, hxn, hxo]
  have HXV := Lib.hid hxv
  have HXN := Lib.hid hxn
  have HXO := Lib.hid hxo
  clear hxv hxn hxo
  go_enter Try.func51, Try.ntmps51
  go_upto_region 3 with (fail)
  have HS0 := Lib.hid (LdSt.start w s)
  obtain ⟨A, hA⟩ : ∃ A, w.heap.size = A := ⟨_, rfl⟩
  have HA := Lib.hid hA
  rw [hA] at HS0 ⊢
  change Code.wp _ _ _ _ (((w.alloc (.cells (svV hd0 sv0) 28)).alloc (.cells #[.string s, .bool false] 135)).alloc (.cells (svV hd0 sv0) 28))
  generalize (((w.alloc (.cells (svV hd0 sv0) 28)).alloc (.cells #[.string s, .bool false] 135)).alloc (.cells (svV hd0 sv0) 28)) = w0 at HS0 ⊢
  rw [show A + 1 + 1 = A + 2 from rfl]
  have HK0 := Lib.hid (SrcOk.start s)
  have HE := Lib.hid (ldE_eq s)
  have HA1 := Lib.hid (ldA1_eq s)
  clear hA
  -- the mark
  go_wp2_with fail
  refine (take_any (n := 4) HS0.out.src (by omega) (by omega)).mono ?_
  rintro e w1 ⟨rfl, hw1⟩
  have HS1 := Lib.hid (HS0.out.tk 4)
  rw [hw1] at HS1
  obtain ⟨k1, -⟩ := HK0.out.step 4 (fun _ => by have := HE.out; have := HA1.out; omega)
  clear hw1 HS0 HK0
  have HU1 := k1.sz
  have HK1 : Hid (SrcOk s 4 (tkU s 4) (tkF s 4 false)) := Lib.hid k1
  clear k1
  generalize tkT s 4 = t1
  generalize tkU s 4 = u1 at HS1 HK1 HU1
  generalize tkF s 4 false = f1 at HS1 HK1
  -- the name's length
  go_wp2_with fail
  refine (number_any (n := 1) HS1.out.src (by omega) (by omega)).mono ?_
  rintro e w2 ⟨rfl, hw2⟩
  have HS2 := Lib.hid (HS1.out.tk 1)
  rw [hw2] at HS2
  obtain ⟨k2, g2, b2, b2'⟩ := HK1.out.byte (fun _ => by have := HE.out; have := HA1.out; omega)
  clear hw2 HS1 HK1
  have HU2 := k2.sz
  have HK2 : Hid (SrcOk s 5 (tkU u1 1) (tkF u1 1 f1)) := Lib.hid k2
  have HG2 : Hid (tkF u1 1 f1 = false → numT (tkT u1 1) = (byt s 4 : Int)) := Lib.hid (fun h => (g2 h).2)
  clear k2 g2 HU1
  generalize numT (tkT u1 1) = L at b2 b2' HG2
  generalize tkU u1 1 = u2 at HS2 HK2 HU2
  generalize tkF u1 1 f1 = f2 at HS2 HK2 HG2
  obtain ⟨ln, rfl⟩ := Int.eq_ofNat_of_zero_le b2
  clear b2
  -- the name
  go_wp2_with fail
  refine (take_any (n := ln) HS2.out.src (by omega) (by omega)).mono ?_
  rintro e w3 ⟨rfl, hw3⟩
  have HS3 := Lib.hid (HS2.out.tk ln)
  rw [hw3] at HS3
  obtain ⟨k3, g3⟩ := HK2.out.step ln (fun h => by have := HE.out; have := HA1.out; have := HG2.out h; omega)
  clear hw3 HS2 HK2
  have HU3 := k3.sz
  have HK3 := Lib.hid k3
  have HG3 : Hid (tkF u2 ln f2 = false → ldA1 s = 5 + ln ∧ tkT u2 ln = s.extract 5 (5 + ln)) := Lib.hid (fun h => ⟨by have := HA1.out; have := HG2.out (g3 h).1; omega, (g3 h).2.2⟩)
  have hns := tkT_size u2 ln
  clear k3 g3 HU2 HG2
  generalize tkT u2 ln = nm at hns HG3
  generalize tkU u2 ln = u3 at HS3 HK3 HU3
  generalize tkF u2 ln f2 = f3 at HS3 HK3 HG3
  have hc := HS3.out.cells.1
  have hf := HS3.out.bx.blk.free 0
  have HS4 := Lib.hid (HS3.out.setN (y := nm) (by omega))
  clear HS3
  -- the counts' width
  go_wp2_with fail
  clear hc hf
  generalize w3.setCell ⟨A + 2, 0, none⟩ (.string nm) = w4 at HS4 ⊢
  refine (number_any (n := 1) HS4.out.src (by omega) (by omega)).mono ?_
  rintro e w5 ⟨rfl, hw5⟩
  have HS5 := Lib.hid (HS4.out.tk 1)
  rw [hw5] at HS5
  obtain ⟨k5, g5, b5, b5'⟩ := HK3.out.byte (fun h => by have := HE.out; have := HG3.out h; omega)
  clear hw5 HS4 HK3
  have HU5 := k5.sz
  have HK5 := Lib.hid k5
  have HG5 : Hid (tkF u3 1 f3 = false → ldA1 s = 5 + ln ∧ nm = s.extract 5 (5 + ln) ∧ numT (tkT u3 1) = (byt s (5 + ln) : Int)) := Lib.hid (fun h => ⟨(HG3.out (g5 h).1).1, (HG3.out (g5 h).1).2, (g5 h).2⟩)
  clear k5 g5 HU3 HG3
  generalize numT (tkT u3 1) = Wv at b5 b5' HG5
  generalize tkU u3 1 = u5 at HS5 HK5 HU5
  generalize tkF u3 1 f3 = f5 at HS5 HK5 HG5
  obtain ⟨wn, rfl⟩ := Int.eq_ofNat_of_zero_le b5
  clear b5
  have hc := HS5.out.cells.2.1
  have hf := HS5.out.bx.blk.free 1
  have HS6 := Lib.hid (HS5.out.setW (wn : Int))
  clear HS5
  -- the counts' depth
  go_wp2_with fail
  clear hc hf
  generalize w5.setCell ⟨A + 2, 1, none⟩ (.int .i64 (wn : Int)) = w6 at HS6 ⊢
  refine (number_any (n := 1) HS6.out.src (by omega) (by omega)).mono ?_
  rintro e w7 ⟨rfl, hw7⟩
  have HS7 := Lib.hid (HS6.out.tk 1)
  rw [hw7] at HS7
  obtain ⟨k7, g7, b7, b7'⟩ := HK5.out.byte (fun h => by have := HE.out; have := HG5.out h; omega)
  clear hw7 HS6 HK5
  have HU7 := k7.sz
  have HK7 : Hid (SrcOk s (5 + ln + 2) (tkU u5 1) (tkF u5 1 f5)) := Lib.hid k7
  have HG7 : Hid (tkF u5 1 f5 = false → ldA1 s = 5 + ln ∧ nm = s.extract 5 (5 + ln) ∧ (wn : Int) = (byt s (5 + ln) : Int) ∧ numT (tkT u5 1) = (byt s (5 + ln + 1) : Int)) := Lib.hid (fun h => ⟨(HG5.out (g7 h).1).1, (HG5.out (g7 h).1).2.1, (HG5.out (g7 h).1).2.2, (g7 h).2⟩)
  clear k7 g7 HU5 HG5
  generalize numT (tkT u5 1) = Dv at b7 b7' HG7
  generalize tkU u5 1 = u7 at HS7 HK7 HU7
  generalize tkF u5 1 f5 = f7 at HS7 HK7 HG7
  obtain ⟨dn, rfl⟩ := Int.eq_ofNat_of_zero_le b7
  clear b7
  have hc := HS7.out.cells.2.2.1
  have hf := HS7.out.bx.blk.free 2
  have HS8 := Lib.hid (HS7.out.setD (dn : Int))
  clear HS7
  -- the counts' salt
  go_wp2_with fail
  clear hc hf
  generalize w7.setCell ⟨A + 2, 2, none⟩ (.int .i64 (dn : Int)) = w8 at HS8 ⊢
  refine (number_any (n := 4) HS8.out.src (by omega) (by omega)).mono ?_
  rintro e w9 ⟨rfl, hw9⟩
  have HS9 := Lib.hid (HS8.out.tk 4)
  rw [hw9] at HS9
  obtain ⟨k9, g9, b9, b9'⟩ := HK7.out.word (fun h => by have := HE.out; have := HG7.out h; omega)
  clear hw9 HS8 HK7
  have HU9 := k9.sz
  have HK9 : Hid (SrcOk s (5 + ln + 6) (tkU u7 4) (tkF u7 4 f7)) := Lib.hid k9
  have HG9 : Hid (tkF u7 4 f7 = false → ldA1 s = 5 + ln ∧ nm = (ldS s).nm ∧ (wn : Int) = (ldS s).W ∧ (dn : Int) = (ldS s).D ∧ numT (tkT u7 4) = (ldS s).S ∧ wn * dn = ldN s) := Lib.hid (fun h => by
    obtain ⟨q1, q2, q3, q4⟩ := HG7.out (g9 h).1
    have q5 := (g9 h).2
    have q6 : wn = byt s (5 + ln) := by omega
    have q7 : dn = byt s (5 + ln + 1) := by omega
    refine ⟨q1, ?_, ?_, ?_, ?_, ?_⟩
    · show nm = s.extract 5 (ldA1 s); rw [q1]; exact q2
    · show (wn : Int) = ((byt s (ldA1 s) : Nat) : Int); rw [q1]; exact q3
    · show (dn : Int) = ((byt s (ldA1 s + 1) : Nat) : Int); rw [q1]; exact q4
    · show _ = nb4 s (ldA1 s + 2); rw [q1]; exact q5
    · show _ = byt s (ldA1 s) * byt s (ldA1 s + 1); rw [q1, q6, q7])
  clear k9 g9 HU7 HG7
  generalize numT (tkT u7 4) = Sv0 at b9 b9' HG9
  generalize tkU u7 4 = u9 at HS9 HK9 HU9
  generalize tkF u7 4 f7 = f9 at HS9 HK9 HG9
  have hc := HS9.out.cells.2.2.2.1
  have hf := HS9.out.bx.blk.free 3
  have HS10 := Lib.hid (HS9.out.setS Sv0)
  clear HS9
  have hc1 := HS10.out.cells.2.1
  have hc2 := HS10.out.cells.2.2.1
  obtain ⟨NN, hNN⟩ : ∃ n : Nat, wn * dn = n := ⟨_, rfl⟩
  have hNb : NN ≤ 65025 := by rw [← hNN]; exact Nat.mul_le_mul (by omega : wn ≤ 255) (by omega : dn ≤ 255)
  have hwd : (wn : Int) * (dn : Int) = (NN : Int) := by rw [← hNN]; exact (Int.natCast_mul _ _).symm
  have hww : IntKind.i64.wrap ((wn : Int) * (dn : Int)) = (NN : Int) := by rw [hwd]; exact IntWalk.i64_in _ (by omega)
  rw [hNN] at HG9
  clear hNN hwd
  go_upto_region 9 with (fail)
  clear hc hf hc1 hc2 hww
  have HS11 : Hid (LdSt A w (w9.setCell ⟨A + 2, 3, none⟩ (.int .i64 Sv0)) u9 f9 hd0 ⟨nm, wn, dn, Sv0, [], 0, [], [], []⟩) := Lib.hid HS10.out
  clear HS10
  generalize w9.setCell ⟨A + 2, 3, none⟩ (.int .i64 Sv0) = w10 at HS11 ⊢
  have HNS : Hid (∀ k, nums4 s (ldA1 s + 6) 4 (k + 1) = nums4 s (ldA1 s + 6) 4 k ++ [nb4 s (ldA1 s + 6 + 4 * k)]) := Lib.hid (nums4_succ s _ _)
  -- the counts
  go_loopw [38] (fun vi wr => ∃ (k : Nat) (u : ByteArray) (f : Bool) (h : SvH) (C : List Int), vi = .int .i64 k ∧ k ≤ NN ∧ u.size ≤ s.size ∧ C.length ≤ k ∧ Hid (LdSt A w wr u f h ⟨nm, wn, dn, Sv0, C, 0, [], [], []⟩) ∧ Hid (SrcOk s (5 + ln + 6 + 4 * k) u f) ∧ Hid (f = false → f9 = false ∧ C = nums4 s (ldA1 s + 6) 4 k)) (fun vi _ => NN - (intOf vi).toNat)
  case atStart => exact ⟨0, u9, f9, hd0, [], rfl, Nat.zero_le _, HU9, Nat.le_refl _, HS11, HK9, Lib.hid (fun h => ⟨h, rfl⟩)⟩
  case round =>
    clear HS11 HK9 HU9
    obtain ⟨k, u, f, h, C, rfl, hk, hu, hC, HS, HK, HC⟩ := hrel
    by_cases hlt : k < NN
    · have hltz : (k : Int) < (NN : Int) := by omega
      have ewk : IntKind.i64.wrap ((k : Int) + 1) = (k : Int) + 1 := IntWalk.i64_in _ (by omega)
      have HNUM := Lib.hid (number_any (n := 4) HS.out.drew.src (by omega) (by omega))
      have HT := Lib.hid (HS.out.drew.tk 4)
      obtain ⟨k1, g1, b1, b1'⟩ := HK.out.word (fun q => by have := HE.out; have := (HG9.out (HC.out q).1).1; have := (HG9.out (HC.out q).1).2.2.2.2.2; omega)
      have HK1 := Lib.hid k1
      have hu1 := k1.sz
      have HC1 : Hid (tkF u 4 f = false → f9 = false ∧ C ++ [numT (tkT u 4)] = nums4 s (ldA1 s + 6) 4 (k + 1)) := Lib.hid (fun q => by
        obtain ⟨q1, q2⟩ := g1 q
        obtain ⟨q3, q4⟩ := HC.out q1
        have q5 := (HG9.out q3).1
        exact ⟨q3, by rw [HNS.out, q2, ← q4, q5]⟩)
      generalize numT (tkT u 4) = N at HNUM b1 b1' HC1
      generalize tkU u 4 = u1 at HT HK1 hu1
      generalize tkF u 4 f = f1 at HT HK1 HC1
      have hcell := HS.out.cells.2.2.2.2.1
      clear k1 g1 HK HC
      go_wp2_with fail
      go_region_law (first
          | (go_simp; go_at_call 109; refine HNUM.out.mono ?_; rintro e w8 ⟨rfl, hw8⟩; have HT8 : Hid (LdSt A w w8 u1 f1 h ⟨nm, wn, dn, Sv0, C, 0, [], [], []⟩) := Lib.hid (hw8 ▸ HT.out); have hk8 : w8.cell? ⟨A + 2, 4, none⟩ = some (.slice h.a0 C.length h.c0) := HT8.out.cells.2.2.2.2.1; have hz8 := HT8.out.lt; clear hw8)
          | (refine step_append1w (f := Value.int .i64) (d := 0) (base := A + 2 + 1) (xs := C) und_ise info_i (fun _ => rfl) N (HT8.out.bx.own.cs.alloc _) rfl _ _ rfl w8.heap.size rfl rfl (heap_alloc_new w8 _) (by omega) (by omega) (by simp; omega) ?_; intro a9 c9 w9x ho9 hg9 hl9; have O9 := HT8.out.pushC (x := ⟨nm, wn, dn, Sv0, C, 0, [], [], []⟩) ho9 hg9 hl9; have o9c := O9.1; have o9f := O9.2.1; have HO9 := Lib.hid O9.2.2; clear O9 ho9 hg9 hl9))
      all_goals
        clear hcell o9c o9f
        go_wp2
        go_roundw
        case rel => exact ⟨k + 1, u1, f1, { h with a0 := a9, c0 := c9 }, C ++ [N], by go_num, by omega, hu1, by rw [List.length_append]; simp; omega, HO9, HK1, HC1⟩
        case measure => simp [intOf]; omega
    · obtain rfl : k = NN := by omega
      have hltz : ¬ (k : Int) < (k : Int) := by omega
      have HA3 := Lib.hid (ldA3_eq s)
      have HQ : Hid (f = false → ldA1 s = 5 + ln ∧ k = ldN s ∧ nm = (ldS s).nm ∧ (wn : Int) = (ldS s).W ∧ (dn : Int) = (ldS s).D ∧ Sv0 = (ldS s).S ∧ C = (ldS s).cs) := Lib.hid (fun q => by
        obtain ⟨q1, q2⟩ := HC.out q
        obtain ⟨q3, q4, q5, q6, q7, q8⟩ := HG9.out q1
        exact ⟨q3, q8, q4, q5, q6, q7, by rw [q2, q8]; rfl⟩)
      clear HC HG9 HNS hlt
      -- the room
      go_wp2_with fail
      refine (number_any (n := 1) HS.out.src (by omega) (by omega)).mono ?_
      rintro e w12 ⟨rfl, hw12⟩
      have HS12 := Lib.hid (HS.out.tk 1)
      rw [hw12] at HS12
      obtain ⟨k12, g12, b12, b12'⟩ := HK.out.byte (fun q => by have := HE.out; have := HQ.out q; omega)
      clear hw12 HS HK
      have HU12 := k12.sz
      have HK12 := Lib.hid k12
      have HQ12 : Hid (tkF u 1 f = false → f = false ∧ numT (tkT u 1) = (ldS s).R) := Lib.hid (fun q => ⟨(g12 q).1, by
        have q2 := HQ.out (g12 q).1
        have q3 := HA3.out
        show _ = ((byt s (ldA3 s) : Nat) : Int)
        rw [(g12 q).2, show 5 + ln + 6 + 4 * k = ldA3 s by omega]⟩)
      clear k12 g12
      generalize numT (tkT u 1) = Rv at b12 b12' HQ12
      generalize tkU u 1 = u12 at HS12 HK12 HU12
      generalize tkF u 1 f = f12 at HS12 HK12 HQ12
      have hc := HS12.out.cells.2.2.2.2.2.1
      have hf := HS12.out.bx.blk.free 5
      have HS13 : Hid (LdSt A w (w12.setCell ⟨A + 2, 5, none⟩ (.int .i64 Rv)) u12 f12 h ⟨nm, wn, dn, Sv0, C, Rv, [], [], []⟩) := Lib.hid (HS12.out.setR Rv)
      clear HS12
      -- how many keys
      go_wp2_with fail
      clear hc hf
      generalize w12.setCell ⟨A + 2, 5, none⟩ (.int .i64 Rv) = w13 at HS13 ⊢
      refine (number_any (n := 1) HS13.out.src (by omega) (by omega)).mono ?_
      rintro e w14 ⟨rfl, hw14⟩
      have HS14 := Lib.hid (HS13.out.tk 1)
      rw [hw14] at HS14
      obtain ⟨k14, g14, b14, b14'⟩ := HK12.out.byte (fun q => by have := HE.out; have := HQ.out (HQ12.out q).1; omega)
      clear hw14 HS13 HK12
      have HU14 := k14.sz
      have HK14 : Hid (SrcOk s (5 + ln + 6 + 4 * k + 2) (tkU u12 1) (tkF u12 1 f12)) := Lib.hid k14
      have HQ14 : Hid (tkF u12 1 f12 = false → ldA1 s = 5 + ln ∧ k = ldN s ∧ nm = (ldS s).nm ∧ (wn : Int) = (ldS s).W ∧ (dn : Int) = (ldS s).D ∧ Sv0 = (ldS s).S ∧ C = (ldS s).cs ∧ Rv = (ldS s).R ∧ numT (tkT u12 1) = (ldK s : Int)) := Lib.hid (fun q => by
        have q1 := g14 q
        have q2 := HQ12.out q1.1
        have q3 := HQ.out q2.1
        have q4 := HA3.out
        refine ⟨q3.1, q3.2.1, q3.2.2.1, q3.2.2.2.1, q3.2.2.2.2.1, q3.2.2.2.2.2.1, q3.2.2.2.2.2.2, q2.2, ?_⟩
        show _ = ((byt s (ldA3 s + 1) : Nat) : Int)
        rw [q1.2, show 5 + ln + 6 + 4 * k + 1 = ldA3 s + 1 by omega])
      clear k14 g14 HQ HQ12
      generalize numT (tkT u12 1) = Kv at b14 b14' HQ14
      generalize tkU u12 1 = u13 at HS14 HK14 HU14
      generalize tkF u12 1 f12 = f13 at HS14 HK14 HQ14
      obtain ⟨kn, rfl⟩ := Int.eq_ofNat_of_zero_le b14
      obtain ⟨NN, hNN⟩ : ∃ n, k = n := ⟨_, rfl⟩
      rw [hNN] at HK14 HQ14 hNb
      clear hNN
      have HQ13 : Hid (f13 = false → ldA1 s = 5 + ln ∧ NN = ldN s ∧ kn = ldK s) := Lib.hid (fun q => by have q1 := HQ14.out q; exact ⟨q1.1, q1.2.1, by have := q1.2.2.2.2.2.2.2.2; omega⟩)
      go_upto_region 14 with (fail)
      clear hu hk hC hltz
      go_loopw [56] (fun vi wr => ∃ (k : Nat) (u : ByteArray) (f : Bool) (h : SvH) (K T E : List Int), vi = .int .i64 k ∧ k ≤ kn ∧ u.size ≤ s.size ∧ K.length ≤ k ∧ T.length ≤ k ∧ E.length ≤ k ∧ Hid (LdSt A w wr u f h ⟨nm, wn, dn, Sv0, C, Rv, K, T, E⟩) ∧ Hid (SrcOk s (5 + ln + 6 + 4 * NN + 2 + 12 * k) u f) ∧ Hid (f = false → f13 = false ∧ K = nums4 s (ldA3 s + 2) 12 k ∧ T = nums4 s (ldA3 s + 6) 12 k ∧ E = nums4 s (ldA3 s + 10) 12 k)) (fun vi _ => kn - (intOf vi).toNat)
      case atStart => exact ⟨0, u13, f13, h, [], [], [], rfl, Nat.zero_le _, HU14, Nat.le_refl _, Nat.le_refl _, Nat.le_refl _, HS14, HK14, Lib.hid (fun q => ⟨q, rfl, rfl, rfl⟩)⟩
      case round =>
        clear HS14 HK14 HU14
        obtain ⟨k, u, f, h, K, T, E, rfl, hk, hu, hK, hT, hE, HS, HK, HC⟩ := hrel
        by_cases hlt : k < kn
        · have hltz : (k : Int) < (kn : Int) := by omega
          have ewk : IntKind.i64.wrap ((k : Int) + 1) = (k : Int) + 1 := IntWalk.i64_in _ (by omega)
          go_wp2_with fail
          go_upto_region 16 with (fail)
          go_cut [] (fun wx => ∃ (u : ByteArray) (f : Bool) (h : SvH) (K T E : List Int), u.size ≤ s.size ∧ K.length ≤ k + 1 ∧ T.length ≤ k ∧ E.length ≤ k ∧ Hid (LdSt A w wx u f h ⟨nm, wn, dn, Sv0, C, Rv, K, T, E⟩) ∧ Hid (SrcOk s (5 + ln + 6 + 4 * NN + 2 + 12 * k + 4) u f) ∧ Hid (f = false → f13 = false ∧ K = nums4 s (ldA3 s + 2) 12 (k + 1) ∧ T = nums4 s (ldA3 s + 6) 12 k ∧ E = nums4 s (ldA3 s + 10) 12 k))
          case first =>
            have HNUM := Lib.hid (number_any (n := 4) HS.out.drew.src (by omega) (by omega))
            have HT := Lib.hid (HS.out.drew.tk 4)
            obtain ⟨k1, g1, b1, b1'⟩ := HK.out.word (fun q => by have := HE.out; have := HA3.out; have := (HC.out q).1; have := (HQ13.out (HC.out q).1); omega)
            have HK1 : Hid (SrcOk s (5 + ln + 6 + 4 * NN + 2 + 12 * k + 4) _ _) := Lib.hid k1
            have hu1 := k1.sz
            have HC1 : Hid (tkF u 4 f = false → f13 = false ∧ K ++ [numT (tkT u 4)] = nums4 s (ldA3 s + 2) 12 (k + 1) ∧ T = nums4 s (ldA3 s + 6) 12 k ∧ E = nums4 s (ldA3 s + 10) 12 k) := Lib.hid (fun q => by
              obtain ⟨q1, q2⟩ := g1 q
              obtain ⟨q3, q4, q5, q6⟩ := HC.out q1
              have q7 := HQ13.out q3
              have q8 := HA3.out
              exact ⟨q3, by rw [nums4_succ, q2, ← q4]; congr 3; omega, q5, q6⟩)
            generalize numT (tkT u 4) = N at HNUM b1 b1' HC1
            generalize tkU u 4 = u1 at HT HK1 hu1
            generalize tkF u 4 f = f1 at HT HK1 HC1
            have hcell := HS.out.cells.2.2.2.2.2.2.1
            clear k1 g1 HK HC
            go_wp2_with fail
            go_region_law (first
                | (go_simp; go_at_call 109; refine HNUM.out.mono ?_; rintro e w8 ⟨rfl, hw8⟩; have HT8 : Hid (LdSt A w w8 u1 f1 h ⟨nm, wn, dn, Sv0, C, Rv, K, T, E⟩) := Lib.hid (hw8 ▸ HT.out); have hk8 : w8.cell? ⟨A + 2, 6, none⟩ = some (.slice h.a1 K.length h.c1) := HT8.out.cells.2.2.2.2.2.2.1; have hz8 := HT8.out.lt; clear hw8)
                | (refine step_append1w (f := Value.int .i64) (d := 0) (base := A + 2 + 1) (xs := K) und_ise info_i (fun _ => rfl) N (HT8.out.bx.own.ks.alloc _) rfl _ _ rfl w8.heap.size rfl rfl (heap_alloc_new w8 _) (by omega) (by omega) (by simp; omega) ?_; intro a9 c9 w9x ho9 hg9 hl9; have O9 := HT8.out.pushK (x := ⟨nm, wn, dn, Sv0, C, Rv, K, T, E⟩) ho9 hg9 hl9; have o9c := O9.1; have o9f := O9.2.1; have HO9 := Lib.hid O9.2.2; clear O9 ho9 hg9 hl9))
            all_goals
              go_wp2_with fail
              go_meet
              exact ⟨u1, f1, { h with a1 := a9, c1 := c9 }, K ++ [N], T, E, hu1, by rw [List.length_append]; simp; omega, hT, hE, HO9, HK1, HC1⟩
          case rest =>
            clear HS HK HC hu hK hT hE
            obtain ⟨u, f, h, K, T, E, hu, hK, hT, hE, HS, HK, HC⟩ := hcut
            go_wp2_with fail
            go_upto_region 17 with (fail)
            go_cut [] (fun wx => ∃ (u : ByteArray) (f : Bool) (h : SvH) (K T E : List Int), u.size ≤ s.size ∧ K.length ≤ k + 1 ∧ T.length ≤ k + 1 ∧ E.length ≤ k ∧ Hid (LdSt A w wx u f h ⟨nm, wn, dn, Sv0, C, Rv, K, T, E⟩) ∧ Hid (SrcOk s (5 + ln + 6 + 4 * NN + 2 + 12 * k + 8) u f) ∧ Hid (f = false → f13 = false ∧ K = nums4 s (ldA3 s + 2) 12 (k + 1) ∧ T = nums4 s (ldA3 s + 6) 12 (k + 1) ∧ E = nums4 s (ldA3 s + 10) 12 k))
            case first =>
              have HNUM := Lib.hid (number_any (n := 4) HS.out.drew.src (by omega) (by omega))
              have HT := Lib.hid (HS.out.drew.tk 4)
              obtain ⟨k1, g1, b1, b1'⟩ := HK.out.word (fun q => by have := HE.out; have := HA3.out; have := (HC.out q).1; have := (HQ13.out (HC.out q).1); omega)
              have HK1 : Hid (SrcOk s (5 + ln + 6 + 4 * NN + 2 + 12 * k + 8) _ _) := Lib.hid k1
              have hu1 := k1.sz
              have HC1 : Hid (tkF u 4 f = false → f13 = false ∧ K = nums4 s (ldA3 s + 2) 12 (k + 1) ∧ T ++ [numT (tkT u 4)] = nums4 s (ldA3 s + 6) 12 (k + 1) ∧ E = nums4 s (ldA3 s + 10) 12 k) := Lib.hid (fun q => by
                obtain ⟨q1, q2⟩ := g1 q
                obtain ⟨q3, q4, q5, q6⟩ := HC.out q1
                have q7 := HQ13.out q3
                have q8 := HA3.out
                exact ⟨q3, q4, by rw [nums4_succ, q2, ← q5]; congr 3; omega, q6⟩)
              generalize numT (tkT u 4) = N at HNUM b1 b1' HC1
              generalize tkU u 4 = u1 at HT HK1 hu1
              generalize tkF u 4 f = f1 at HT HK1 HC1
              have hcell := HS.out.cells.2.2.2.2.2.2.2.1
              clear k1 g1 HK HC
              go_wp2_with fail
              go_region_law (first
                  | (go_simp; go_at_call 109; refine HNUM.out.mono ?_; rintro e w8 ⟨rfl, hw8⟩; have HT8 : Hid (LdSt A w w8 u1 f1 h ⟨nm, wn, dn, Sv0, C, Rv, K, T, E⟩) := Lib.hid (hw8 ▸ HT.out); have hk8 : w8.cell? ⟨A + 2, 7, none⟩ = some (.slice h.a2 T.length h.c2) := HT8.out.cells.2.2.2.2.2.2.2.1; have hz8 := HT8.out.lt; clear hw8)
                  | (refine step_append1w (f := Value.int .i64) (d := 0) (base := A + 2 + 1) (xs := T) und_ise info_i (fun _ => rfl) N (HT8.out.bx.own.ts.alloc _) rfl _ _ rfl w8.heap.size rfl rfl (heap_alloc_new w8 _) (by omega) (by omega) (by simp; omega) ?_; intro a9 c9 w9x ho9 hg9 hl9; have O9 := HT8.out.pushT (x := ⟨nm, wn, dn, Sv0, C, Rv, K, T, E⟩) ho9 hg9 hl9; have o9c := O9.1; have o9f := O9.2.1; have HO9 := Lib.hid O9.2.2; clear O9 ho9 hg9 hl9))
              all_goals
                go_wp2_with fail
                go_meet
                exact ⟨u1, f1, { h with a2 := a9, c2 := c9 }, K, T ++ [N], E, hu1, hK, by rw [List.length_append]; simp; omega, hE, HO9, HK1, HC1⟩
            case rest =>
              clear HS HK HC hu hK hT hE
              obtain ⟨u, f, h, K, T, E, hu, hK, hT, hE, HS, HK, HC⟩ := hcut
              go_wp2_with fail
              have HNUM := Lib.hid (number_any (n := 4) HS.out.drew.src (by omega) (by omega))
              have HT := Lib.hid (HS.out.drew.tk 4)
              obtain ⟨k1, g1, b1, b1'⟩ := HK.out.word (fun q => by have := HE.out; have := HA3.out; have := (HC.out q).1; have := (HQ13.out (HC.out q).1); omega)
              have HK1 : Hid (SrcOk s (5 + ln + 6 + 4 * NN + 2 + 12 * k + 12) _ _) := Lib.hid k1
              have hu1 := k1.sz
              have HC1 : Hid (tkF u 4 f = false → f13 = false ∧ K = nums4 s (ldA3 s + 2) 12 (k + 1) ∧ T = nums4 s (ldA3 s + 6) 12 (k + 1) ∧ E ++ [numT (tkT u 4)] = nums4 s (ldA3 s + 10) 12 (k + 1)) := Lib.hid (fun q => by
                obtain ⟨q1, q2⟩ := g1 q
                obtain ⟨q3, q4, q5, q6⟩ := HC.out q1
                have q7 := HQ13.out q3
                have q8 := HA3.out
                exact ⟨q3, q4, q5, by rw [nums4_succ, q2, ← q6]; congr 3; omega⟩)
              generalize numT (tkT u 4) = N at HNUM b1 b1' HC1
              generalize tkU u 4 = u1 at HT HK1 hu1
              generalize tkF u 4 f = f1 at HT HK1 HC1
              have hcell := HS.out.cells.2.2.2.2.2.2.2.2
              clear k1 g1 HK HC
              go_wp2_with fail
              go_region_law (first
                  | (go_simp; go_at_call 109; refine HNUM.out.mono ?_; rintro e w8 ⟨rfl, hw8⟩; have HT8 : Hid (LdSt A w w8 u1 f1 h ⟨nm, wn, dn, Sv0, C, Rv, K, T, E⟩) := Lib.hid (hw8 ▸ HT.out); have hk8 : w8.cell? ⟨A + 2, 8, none⟩ = some (.slice h.a3 E.length h.c3) := HT8.out.cells.2.2.2.2.2.2.2.2; have hz8 := HT8.out.lt; clear hw8)
                  | (refine step_append1w (f := Value.int .i64) (d := 0) (base := A + 2 + 1) (xs := E) und_ise info_i (fun _ => rfl) N (HT8.out.bx.own.es.alloc _) rfl _ _ rfl w8.heap.size rfl rfl (heap_alloc_new w8 _) (by omega) (by omega) (by simp; omega) ?_; intro a9 c9 w9x ho9 hg9 hl9; have O9 := HT8.out.pushE (x := ⟨nm, wn, dn, Sv0, C, Rv, K, T, E⟩) ho9 hg9 hl9; have o9c := O9.1; have o9f := O9.2.1; have HO9 := Lib.hid O9.2.2; clear O9 ho9 hg9 hl9))
              all_goals
                clear hcell o9c o9f
                go_wp2
                go_roundw
                case rel => exact ⟨k + 1, u1, f1, { h with a3 := a9, c3 := c9 }, K, T, E ++ [N], by go_num, by omega, hu1, hK, hT, by rw [List.length_append]; simp; omega, HO9, HK1, HC1⟩
                case measure => simp [intOf]; omega
        · obtain rfl : k = kn := by omega
          have hltz : ¬ (k : Int) < (k : Int) := by omega
          go_wp2_with fail
          refine (take_any (n := 2) HS.out.src (by omega) (by omega)).mono ?_
          rintro e w19 ⟨rfl, hw19⟩
          have HS19 := Lib.hid (HS.out.tk 2)
          rw [hw19] at HS19
          obtain ⟨k19, g19⟩ := HK.out.step 2 (fun q => by have := HE.out; have := HA3.out; have := (HQ13.out (HC.out q).1); omega)
          clear hw19 HS HK
          have HU19 := k19.sz
          have HBAD := Lib.hid k19.bad
          have HGOOD : Hid (tkF u 2 f = false → ldE s ≤ s.size ∧ s.size - (tkU u 2).size = ldE s ∧ (⟨nm, wn, dn, Sv0, C, Rv, K, T, E⟩ : Sv) = ldS s) := Lib.hid (fun q => by
            obtain ⟨q1, q2⟩ := k19.good q
            obtain ⟨q3, -, -⟩ := g19 q
            obtain ⟨q4, q5, q6, q7⟩ := HC.out q3
            obtain ⟨a1, a2, a3, a4, a5, a6, a7, a8, a9⟩ := HQ14.out q4
            have e1 := HE.out
            have e2 := HA3.out
            have e3 : (k : Nat) = ldK s := by omega
            have e4 : 5 + ln + 6 + 4 * NN + 2 + 12 * k + 2 = ldE s := by omega
            refine ⟨by omega, ?_, ?_⟩
            · rw [q2, ByteArray.size_extract]; omega
            · rw [a3, a4, a5, a6, a7, a8, q5, q6, q7, e3]; rfl)
          clear k19 g19 HC HQ14 HQ13
          generalize tkT u 2 = t19
          generalize tkU u 2 = u19 at HS19 HU19 HBAD HGOOD
          generalize tkF u 2 f = f19 at HS19 HBAD HGOOD
          have hc := HS19.out.src.cell (i := 0) (v := .string u19) rfl
          go_upto_region 21 with (fail)
          clear hc
          obtain ⟨N, hN⟩ : ∃ N : Nat, s.size - u19.size = N := ⟨_, rfl⟩
          rw [show (s.size : Int) - (u19.size : Int) = (N : Int) by omega]
          have hNs : N ≤ s.size := by omega
          rw [hN] at HGOOD
          cases f19 with
          | true =>
            have hok : ldOk s = false := ldOk_short (HBAD.out rfl)
            rw [hok] at HXO
            have hxv : xv = sv0 := by rw [← HXV.out]; unfold ldV; rw [hok]; rfl
            have hxn : xn = 0 := by rw [← HXN.out]; unfold ldN0; rw [hok]; rfl
            obtain rfl := HXO.out
            subst hxv hxn
            have df := HS19.out.src.cell (i := 1) (v := .bool true) rfl
            go_quiet (fail)
            have HRW : Hid (Blk (w19.drewN nq) A (svV hd0 sv0) 28) := Lib.hid HS19.out.res
            have HBW : Hid (Below A w (w19.drewN nq)) := Lib.hid (HS19.out.B.trans (below_of_drewN w19 nq _))
            generalize w19.drewN nq = wz at HRW HBW ⊢
            clear df
            have r0 := HRW.out.cell (i := 0) (v := .string ⟨#[]⟩) rfl
            have q0 := HRW.out.free 0
            have r1 := HRW.out.cell (i := 1) (v := .int .i64 0) rfl
            have q1 := HRW.out.free 1
            have r2 := HRW.out.cell (i := 2) (v := .int .i64 0) rfl
            have q2 := HRW.out.free 2
            have r3 := HRW.out.cell (i := 3) (v := .int .i64 0) rfl
            have q3 := HRW.out.free 3
            have r4 := HRW.out.cell (i := 4) (v := .slice none 0 0) rfl
            have q4 := HRW.out.free 4
            have r5 := HRW.out.cell (i := 5) (v := .int .i64 0) rfl
            have q5 := HRW.out.free 5
            have r6 := HRW.out.cell (i := 6) (v := .slice none 0 0) rfl
            have q6 := HRW.out.free 6
            have r7 := HRW.out.cell (i := 7) (v := .slice none 0 0) rfl
            have q7 := HRW.out.free 7
            have r8 := HRW.out.cell (i := 8) (v := .slice none 0 0) rfl
            have q8 := HRW.out.free 8
            go_wp2
            refine bodyPost_ret (v := .tuple #[.agg #[.string ⟨#[]⟩, .int .i64 0, .int .i64 0, .int .i64 0, .slice none 0 0, .int .i64 0, .slice none 0 0, .slice none 0 0, .slice none 0 0], .int .i64 0, .bool false]) (by simp [results, Try.results51, go_sem, r0, r1, r2, r3, r4, r5, r6, r7, r8]) rfl ⟨hd0, rfl, svOwn0 _ _, svSep0, ?_⟩
            rw [HA.out]
            exact put9_below HBW.out (Nat.le_refl _)
          | false =>
            obtain ⟨g1, g2, g3⟩ := HGOOD.out rfl
            clear HGOOD HBAD
            have HXS := Lib.hid g3
            cases hv : savedV ⟨nm, wn, dn, Sv0, C, Rv, K, T, E⟩ with
            | false =>
              have hok : ldOk s = false := ldOk_invalid (by rw [← HXS.out]; exact hv)
              rw [hok] at HXO
              have hxv : xv = sv0 := by rw [← HXV.out]; unfold ldV; rw [hok]; rfl
              have hxn : xn = 0 := by rw [← HXN.out]; unfold ldN0; rw [hok]; rfl
              obtain rfl := HXO.out
              subst hxv hxn
              obtain ⟨ι, hne, G, hG, hS⟩ := calm_family w19
              have hAw : A ≤ w19.heap.size := by have := HS19.out.lt; omega
              have HSG : Hid (∀ i, LdSt A w (G i) u19 false h ⟨nm, wn, dn, Sv0, C, Rv, K, T, E⟩) := Lib.hid (fun i => HS19.out.below hAw (hG i))
              have d0 := fun i => (HSG.out i).cells.1
              have d1 := fun i => (HSG.out i).cells.2.1
              have d2 := fun i => (HSG.out i).cells.2.2.1
              have d3 := fun i => (HSG.out i).cells.2.2.2.1
              have d4 := fun i => (HSG.out i).cells.2.2.2.2.1
              have d5 := fun i => (HSG.out i).cells.2.2.2.2.2.1
              have d6 := fun i => (HSG.out i).cells.2.2.2.2.2.2.1
              have d7 := fun i => (HSG.out i).cells.2.2.2.2.2.2.2.1
              have d8 := fun i => (HSG.out i).cells.2.2.2.2.2.2.2.2
              have df := fun i => (HSG.out i).src.cell (i := 1) (v := .bool false) rfl
              have HV := Lib.hid (fun i => validSv_any (h := h) (s := ⟨nm, wn, dn, Sv0, C, Rv, K, T, E⟩) (HSG.out i).bx.own.rd)
              rw [hv] at HV
              have HG := Lib.hid hG
              have HSU := Lib.hid hS
              clear hG hS
              simp only [] at d0 d1 d2 d3 d4 d5 d6 d7 d8
              refine wp_region_calm (G := G) (by kernel_rfl) (by kernel_rfl) HSU.out ?_
              repeat (go_big_quiet_step ((first | (go_at_call 27; exact calm_call HG.out HSU.out (HV.out _)))))
              refine wpQuiet_nil ?_
              intro _ hw'
              obtain ⟨i, hw''⟩ := hw'
              subst hw''
              have HRW := Lib.hid (HSG.out i).res
              have HBW := Lib.hid (HSG.out i).B
              clear d0 d1 d2 d3 d4 d5 d6 d7 d8 df
              generalize G i = wz at HRW HBW ⊢
              have r0 := HRW.out.cell (i := 0) (v := .string ⟨#[]⟩) rfl
              have q0 := HRW.out.free 0
              have r1 := HRW.out.cell (i := 1) (v := .int .i64 0) rfl
              have q1 := HRW.out.free 1
              have r2 := HRW.out.cell (i := 2) (v := .int .i64 0) rfl
              have q2 := HRW.out.free 2
              have r3 := HRW.out.cell (i := 3) (v := .int .i64 0) rfl
              have q3 := HRW.out.free 3
              have r4 := HRW.out.cell (i := 4) (v := .slice none 0 0) rfl
              have q4 := HRW.out.free 4
              have r5 := HRW.out.cell (i := 5) (v := .int .i64 0) rfl
              have q5 := HRW.out.free 5
              have r6 := HRW.out.cell (i := 6) (v := .slice none 0 0) rfl
              have q6 := HRW.out.free 6
              have r7 := HRW.out.cell (i := 7) (v := .slice none 0 0) rfl
              have q7 := HRW.out.free 7
              have r8 := HRW.out.cell (i := 8) (v := .slice none 0 0) rfl
              have q8 := HRW.out.free 8
              go_wp2
              refine bodyPost_ret (v := .tuple #[.agg #[.string ⟨#[]⟩, .int .i64 0, .int .i64 0, .int .i64 0, .slice none 0 0, .int .i64 0, .slice none 0 0, .slice none 0 0, .slice none 0 0], .int .i64 0, .bool false]) (by simp [results, Try.results51, go_sem, r0, r1, r2, r3, r4, r5, r6, r7, r8]) rfl ⟨hd0, rfl, svOwn0 _ _, svSep0, ?_⟩
              rw [HA.out]
              exact put9_below HBW.out (Nat.le_refl _)
            | true =>
              have hok0 := ldOk_yes g1 (by rw [← HXS.out]; exact hv)
              rw [← HXS.out, ← g2] at hok0
              have HOKS := Lib.hid (svOk_of hv)
              obtain ⟨ι, hne, G, hG, hS⟩ := calm_family w19
              have hAw : A ≤ w19.heap.size := by have := HS19.out.lt; omega
              have HSG : Hid (∀ i, LdSt A w (G i) u19 false h ⟨nm, wn, dn, Sv0, C, Rv, K, T, E⟩) := Lib.hid (fun i => HS19.out.below hAw (hG i))
              have d0 := fun i => (HSG.out i).cells.1
              have d1 := fun i => (HSG.out i).cells.2.1
              have d2 := fun i => (HSG.out i).cells.2.2.1
              have d3 := fun i => (HSG.out i).cells.2.2.2.1
              have d4 := fun i => (HSG.out i).cells.2.2.2.2.1
              have d5 := fun i => (HSG.out i).cells.2.2.2.2.2.1
              have d6 := fun i => (HSG.out i).cells.2.2.2.2.2.2.1
              have d7 := fun i => (HSG.out i).cells.2.2.2.2.2.2.2.1
              have d8 := fun i => (HSG.out i).cells.2.2.2.2.2.2.2.2
              have df := fun i => (HSG.out i).src.cell (i := 1) (v := .bool false) rfl
              have HV := Lib.hid (fun i => validSv_any (h := h) (s := ⟨nm, wn, dn, Sv0, C, Rv, K, T, E⟩) (HSG.out i).bx.own.rd)
              rw [hv] at HV
              have HG := Lib.hid hG
              have HSU := Lib.hid hS
              clear hG hS
              simp only [] at d0 d1 d2 d3 d4 d5 d6 d7 d8
              have HSTO := Lib.hid (fun i => store_any (h := h) (s := ⟨nm, wn, dn, Sv0, C, Rv, K, T, E⟩) (HSG.out i).bx.own.rd HOKS.out)
              obtain ⟨tx, htx⟩ : ∃ z, storeT ⟨nm, wn, dn, Sv0, C, Rv, K, T, E⟩ = z := ⟨_, rfl⟩
              rw [htx] at hok0 HSTO
              clear htx
              have hNn : (N : Int) ≤ (s.size : Int) := by omega
              have hN0 : (0 : Int) ≤ (N : Int) := by omega
              have hneq : (tx.toList != (s.extract 0 N).toList) = !ldOk s := by rw [hok0]; rfl
              have hneq0 : (tx.toList == (s.extract 0 N).toList) = ldOk s := hok0.symm
              cases hok : ldOk s with
              | false =>
                rw [hok] at HXO hneq hneq0
                have hxv : xv = sv0 := by rw [← HXV.out]; unfold ldV; rw [hok]; rfl
                have hxn : xn = 0 := by rw [← HXN.out]; unfold ldN0; rw [hok]; rfl
                obtain rfl := HXO.out
                subst hxv hxn
                have hne2 : (tx.toList != (s.extract 0 N).toList) = true := hneq
                have hbq : (tx.toList == (s.extract 0 N).toList) = false := hneq0
                clear hneq hneq0 hok0 hok g1 g2 g3 hN hNs
                refine wp_region_calm (G := G) (by kernel_rfl) (by kernel_rfl) HSU.out ?_
                repeat (go_big_quiet_step ((first | (go_at_call 27; exact calm_call HG.out HSU.out (HV.out _)) | (go_at_call 61; exact calm_call HG.out HSU.out (HSTO.out _)))))
                refine wpQuiet_nil ?_
                intro _ hw'
                obtain ⟨i, hw''⟩ := hw'
                subst hw''
                have HRW := Lib.hid (HSG.out i).res
                have HBW := Lib.hid (HSG.out i).B
                have HSF := Lib.hid (HSG.out i)
                clear d0 d1 d2 d3 d4 d5 d6 d7 d8 df
                generalize G i = wz at HRW HBW HSF ⊢
                have r0 := HRW.out.cell (i := 0) (v := .string ⟨#[]⟩) rfl
                have q0 := HRW.out.free 0
                have r1 := HRW.out.cell (i := 1) (v := .int .i64 0) rfl
                have q1 := HRW.out.free 1
                have r2 := HRW.out.cell (i := 2) (v := .int .i64 0) rfl
                have q2 := HRW.out.free 2
                have r3 := HRW.out.cell (i := 3) (v := .int .i64 0) rfl
                have q3 := HRW.out.free 3
                have r4 := HRW.out.cell (i := 4) (v := .slice none 0 0) rfl
                have q4 := HRW.out.free 4
                have r5 := HRW.out.cell (i := 5) (v := .int .i64 0) rfl
                have q5 := HRW.out.free 5
                have r6 := HRW.out.cell (i := 6) (v := .slice none 0 0) rfl
                have q6 := HRW.out.free 6
                have r7 := HRW.out.cell (i := 7) (v := .slice none 0 0) rfl
                have q7 := HRW.out.free 7
                have r8 := HRW.out.cell (i := 8) (v := .slice none 0 0) rfl
                have q8 := HRW.out.free 8
                go_wp2
                refine bodyPost_ret (v := .tuple #[.agg #[.string ⟨#[]⟩, .int .i64 0, .int .i64 0, .int .i64 0, .slice none 0 0, .int .i64 0, .slice none 0 0, .slice none 0 0, .slice none 0 0], .int .i64 0, .bool false]) (by simp [results, Try.results51, go_sem, r0, r1, r2, r3, r4, r5, r6, r7, r8]) rfl ⟨hd0, rfl, svOwn0 _ _, svSep0, ?_⟩
                rw [HA.out]
                exact put9_below HBW.out (Nat.le_refl _)
              | true =>
                rw [hok] at HXO hneq hneq0
                have hxv : xv = ⟨nm, wn, dn, Sv0, C, Rv, K, T, E⟩ := by rw [← HXV.out, HXS.out]; unfold ldV; rw [hok]; rfl
                have hxn : xn = N := by rw [← HXN.out, g2]; unfold ldN0; rw [hok]; rfl
                obtain rfl := HXO.out
                subst hxv
                have HXNN := Lib.hid hxn
                clear hxn
                have hne2 : (tx.toList != (s.extract 0 N).toList) = false := hneq
                have hbq : (tx.toList == (s.extract 0 N).toList) = true := hneq0
                clear hneq hneq0 hok0 hok g1 g2 g3 hN hNs
                refine wp_region_calm (G := G) (by kernel_rfl) (by kernel_rfl) HSU.out ?_
                repeat (go_big_quiet_step ((first | (go_at_call 27; exact calm_call HG.out HSU.out (HV.out _)) | (go_at_call 61; exact calm_call HG.out HSU.out (HSTO.out _)))))
                refine wpQuiet_nil ?_
                intro _ hw'
                obtain ⟨i, hw''⟩ := hw'
                subst hw''
                have HRW := Lib.hid (HSG.out i).res
                have HBW := Lib.hid (HSG.out i).B
                have HSF := Lib.hid (HSG.out i)
                clear d0 d1 d2 d3 d4 d5 d6 d7 d8 df
                generalize G i = wz at HRW HBW HSF ⊢
                have e0 := HSF.out.cells.1
                have e1 := HSF.out.cells.2.1
                have e2 := HSF.out.cells.2.2.1
                have e3 := HSF.out.cells.2.2.2.1
                have e4 := HSF.out.cells.2.2.2.2.1
                have e5 := HSF.out.cells.2.2.2.2.2.1
                have e6 := HSF.out.cells.2.2.2.2.2.2.1
                have e7 := HSF.out.cells.2.2.2.2.2.2.2.1
                have e8 := HSF.out.cells.2.2.2.2.2.2.2.2
                simp only [] at e0 e1 e2 e3 e4 e5 e6 e7 e8
                have r0 := HRW.out.cell (i := 0) (v := .string ⟨#[]⟩) rfl
                have q0 := HRW.out.free 0
                have r1 := HRW.out.cell (i := 1) (v := .int .i64 0) rfl
                have q1 := HRW.out.free 1
                have r2 := HRW.out.cell (i := 2) (v := .int .i64 0) rfl
                have q2 := HRW.out.free 2
                have r3 := HRW.out.cell (i := 3) (v := .int .i64 0) rfl
                have q3 := HRW.out.free 3
                have r4 := HRW.out.cell (i := 4) (v := .slice none 0 0) rfl
                have q4 := HRW.out.free 4
                have r5 := HRW.out.cell (i := 5) (v := .int .i64 0) rfl
                have q5 := HRW.out.free 5
                have r6 := HRW.out.cell (i := 6) (v := .slice none 0 0) rfl
                have q6 := HRW.out.free 6
                have r7 := HRW.out.cell (i := 7) (v := .slice none 0 0) rfl
                have q7 := HRW.out.free 7
                have r8 := HRW.out.cell (i := 8) (v := .slice none 0 0) rfl
                have q8 := HRW.out.free 8
                go_wp2
                refine bodyPost_ret (v := .tuple #[.agg #[.string nm, .int .i64 wn, .int .i64 dn, .int .i64 Sv0, .slice h.a0 C.length h.c0, .int .i64 Rv, .slice h.a1 K.length h.c1, .slice h.a2 T.length h.c2, .slice h.a3 E.length h.c3], .int .i64 (N : Int), .bool true]) (by simp [results, Try.results51, go_sem, r0, r1, r2, r3, r4, r5, r6, r7, r8]) rfl ⟨h, by rw [HXNN.out], ?_, HSF.out.bx.sep, ?_⟩
                · exact (SvOwn.put9 (g := A) (o := 0) HSF.out.bx.own (by omega)).mono (by rw [HA.out]; omega)
                · rw [HA.out]
                  exact put9_below HBW.out (Nat.le_refl _)

end Go.Proofs.Ytdpolaedfjljmaa
