/- What a text begins with, in the reference's text. -/
import Derived.Test.YtdpolaedfjljmaaQSVF29
import Derived.Test.YtdpolaedfjljmaaQSVF33
import Derived.Test.YtdpolaedfjljmaaQSVF28
import Derived.Deep.DrawnRows
import Derived.Deep.Cut
import Derived.Deep.DeepCutAuto
import Derived.Deep.CutBlock
import Derived.Deep.RegionLaw
import Derived.Deep.RegionHeld3
namespace Go.Proofs.Ytdpolaedfjljmaa
open Go.RowKit
attribute [local go_sem ↓] Go.wp_at_zero Go.wp_at_succ

theorem bgStart {A : Nat} {w wa : World} (r : Blk wa A (svV hd0 sv0) 28) (b : Below A w wa) (hz : wa.heap.size = A + 1) {nm : ByteArray} (hn : nm.size ≤ 9223372036854775807) :
    BgSt A w (wa.alloc (.cells (svV hd0 { sv0 with nm := nm }) 28)) hd0 { sv0 with nm := nm } :=
  ⟨r.alloc _, ⟨Blk.new' hz.symm, ⟨hn, own_nil _ _ _ _, own_nil _ _ _ _, own_nil _ _ _ _, own_nil _ _ _ _⟩, svSep0⟩, b.alloc (by omega) _⟩

set_option maxRecDepth 10000 in
set_option maxHeartbeats 8000000 in
theorem l07Begin_any {s : ByteArray} {w : World} (hs : s.size ≤ 1048576) :
    Calls Try.prog 50 #[.string s] w (RetBg w (ldV s) (ldN0 s)) := by
  obtain ⟨xv, hxv⟩ : ∃ z, ldV s = z := ⟨_, rfl⟩
  obtain ⟨xn, hxn⟩ : ∃ z, ldN0 s = z := ⟨_, rfl⟩
  rw [hxv, hxn]
  have HXV := Lib.hid hxv
  have HXN := Lib.hid hxn
  clear hxv hxn
  have HE := Lib.hid (ldE_eq s)
  have HA1 := Lib.hid (ldA1_eq s)
  have HA3 := Lib.hid (ldA3_eq s)
  have hb4 := byt_lt s 4
  go_enter Try.func50, Try.ntmps50
  go_upto_region 1 with (fail)
  have HRW : Hid (Blk (w.alloc (.cells (svV hd0 sv0) 28)) w.heap.size (svV hd0 sv0) 28) := Lib.hid (Blk.new _ _ _)
  have HBW : Hid (Below w.heap.size w (w.alloc (.cells (svV hd0 sv0) 28))) := Lib.hid ((Below.refl _ _).alloc (Nat.le_refl _) _)
  have hz : (w.alloc (.cells (svV hd0 sv0) 28)).heap.size = w.heap.size + 1 := by simp
  obtain ⟨A, hA⟩ : ∃ A, w.heap.size = A := ⟨_, rfl⟩
  have HA := Lib.hid hA
  rw [hA] at HRW HBW hz ⊢
  change Code.wp _ _ _ _ (w.alloc (.cells (svV hd0 sv0) 28))
  generalize w.alloc (.cells (svV hd0 sv0) 28) = wa at HRW HBW hz ⊢
  clear hA
  by_cases h5 : s.size < 5
  · have h5z : (s.size : Int) < 5 := by omega
    have hok : ldOk s = false := ldOk_short (by have := HE.out; have := HA1.out; omega)
    have hxv : xv = sv0 := by rw [← HXV.out]; unfold ldV; rw [hok]; rfl
    have hxn : xn = 0 := by rw [← HXN.out]; unfold ldN0; rw [hok]; rfl
    subst hxv hxn
    have r0 := HRW.out.cell (i := 0) (v := .string ⟨#[]⟩) rfl
    have q0 := HRW.out.free 0
    have r1 := HRW.out.cell (i := 1) (v := .int .i64 0) rfl
    have q1 := HRW.out.free 1
    have r2 := HRW.out.cell (i := 2) (v := .int .i64 0) rfl
    have q2 := HRW.out.free 2
    have r3 := HRW.out.cell (i := 3) (v := .int .i64 0) rfl
    have q3 := HRW.out.free 3
    have r4 := HRW.out.cell (i := 4) (v := .slice none 0 0) rfl
    have q4 := HRW.out.free 4
    have r5 := HRW.out.cell (i := 5) (v := .int .i64 0) rfl
    have q5 := HRW.out.free 5
    have r6 := HRW.out.cell (i := 6) (v := .slice none 0 0) rfl
    have q6 := HRW.out.free 6
    have r7 := HRW.out.cell (i := 7) (v := .slice none 0 0) rfl
    have q7 := HRW.out.free 7
    have r8 := HRW.out.cell (i := 8) (v := .slice none 0 0) rfl
    have q8 := HRW.out.free 8
    go_wp2
    refine bodyPost_ret (v := .tuple #[.agg #[.string ⟨#[]⟩, .int .i64 0, .int .i64 0, .int .i64 0, .slice none 0 0, .int .i64 0, .slice none 0 0, .slice none 0 0, .slice none 0 0], .int .i64 0]) (by simp [results, Try.results50, go_sem, r0, r1, r2, r3, r4, r5, r6, r7, r8]) rfl ⟨hd0, rfl, svOwn0 _ _, svSep0, ?_⟩
    rw [HA.out]
    exact put9_below HBW.out (Nat.le_refl _)
  have h5z : ¬ (s.size : Int) < 5 := by omega
  have h4n : 4 < s.size := by omega
  have h4z : (4 : Int) < (s.size : Int) := by omega
  have e4 : s[4].toNat = byt s 4 := byt_eq h4n
  go_upto_region 4 with (fail)
  clear e4 h4z h4n h5z
  obtain ⟨a1, ha1⟩ : ∃ a, ldA1 s = a := ⟨_, rfl⟩
  rw [show (5 : Int) + (byt s 4 : Int) = (a1 : Int) by have := HA1.out; omega]
  have ha15 : 5 ≤ a1 ∧ a1 ≤ 260 := by have := HA1.out; omega
  rw [ha1] at HE HA3
  by_cases h6 : s.size < a1 + 6
  · have h6z : (s.size : Int) < (a1 : Int) + 6 := by omega
    have hok : ldOk s = false := ldOk_short (by have := HE.out; omega)
    have hxv : xv = sv0 := by rw [← HXV.out]; unfold ldV; rw [hok]; rfl
    have hxn : xn = 0 := by rw [← HXN.out]; unfold ldN0; rw [hok]; rfl
    subst hxv hxn
    have r0 := HRW.out.cell (i := 0) (v := .string ⟨#[]⟩) rfl
    have q0 := HRW.out.free 0
    have r1 := HRW.out.cell (i := 1) (v := .int .i64 0) rfl
    have q1 := HRW.out.free 1
    have r2 := HRW.out.cell (i := 2) (v := .int .i64 0) rfl
    have q2 := HRW.out.free 2
    have r3 := HRW.out.cell (i := 3) (v := .int .i64 0) rfl
    have q3 := HRW.out.free 3
    have r4 := HRW.out.cell (i := 4) (v := .slice none 0 0) rfl
    have q4 := HRW.out.free 4
    have r5 := HRW.out.cell (i := 5) (v := .int .i64 0) rfl
    have q5 := HRW.out.free 5
    have r6 := HRW.out.cell (i := 6) (v := .slice none 0 0) rfl
    have q6 := HRW.out.free 6
    have r7 := HRW.out.cell (i := 7) (v := .slice none 0 0) rfl
    have q7 := HRW.out.free 7
    have r8 := HRW.out.cell (i := 8) (v := .slice none 0 0) rfl
    have q8 := HRW.out.free 8
    go_wp2
    refine bodyPost_ret (v := .tuple #[.agg #[.string ⟨#[]⟩, .int .i64 0, .int .i64 0, .int .i64 0, .slice none 0 0, .int .i64 0, .slice none 0 0, .slice none 0 0, .slice none 0 0], .int .i64 0]) (by simp [results, Try.results50, go_sem, r0, r1, r2, r3, r4, r5, r6, r7, r8]) rfl ⟨hd0, rfl, svOwn0 _ _, svSep0, ?_⟩
    rw [HA.out]
    exact put9_below HBW.out (Nat.le_refl _)
  have h6z : ¬ (s.size : Int) < (a1 : Int) + 6 := by omega
  have ha1z : (a1 : Int) ≤ (s.size : Int) := by omega
  have h5a : (5 : Int) ≤ (a1 : Int) := by omega
  go_upto_region 7 with (fail)
  clear h6z ha1z h5a
  obtain ⟨nm, hnm⟩ : ∃ z, s.extract 5 a1 = z := ⟨_, rfl⟩
  rw [hnm]
  have hns : nm.size ≤ 9223372036854775807 := by rw [← hnm, ByteArray.size_extract]; omega
  have HS0 : Hid (BgSt A w (wa.alloc (.cells (svV hd0 ⟨nm, 0, 0, 0, [], 0, [], [], []⟩) 28)) hd0 ⟨nm, 0, 0, 0, [], 0, [], [], []⟩) := Lib.hid (bgStart HRW.out HBW.out hz hns)
  change Code.wp _ _ _ _ (wa.alloc (.cells (svV hd0 ⟨nm, 0, 0, 0, [], 0, [], [], []⟩) 28))
  generalize wa.alloc (.cells (svV hd0 ⟨nm, 0, 0, 0, [], 0, [], [], []⟩) 28) = w0 at HS0 ⊢
  have HNM := Lib.hid hnm
  clear hnm hz HRW HBW hns
  -- the counts' shape
  obtain ⟨wn, hwn⟩ : ∃ z, byt s a1 = z := ⟨_, rfl⟩
  obtain ⟨dn, hdn⟩ : ∃ z, byt s (a1 + 1) = z := ⟨_, rfl⟩
  obtain ⟨Sv0, hsv⟩ : ∃ z, nb4 s (a1 + 2) = z := ⟨_, rfl⟩
  have hwb := byt_lt s a1
  have hdb := byt_lt s (a1 + 1)
  rw [hwn] at hwb
  rw [hdn] at hdb
  obtain ⟨txx, htx⟩ : ∃ z, s.extract (a1 + 2) (a1 + 6) = z := ⟨_, rfl⟩
  have htz : txx.size = 4 := by rw [← htx, ByteArray.size_extract]; omega
  have HRD := Lib.hid (fun w' => l07Read_any (t := txx) (w := w') (by omega) (by omega))
  have hnb : nb4 txx 0 = Sv0 := by
    rw [← htx, ← hsv]; unfold nb4
    rw [byt_extract (by omega) (by omega), byt_extract (by omega) (by omega), byt_extract (by omega) (by omega), byt_extract (by omega) (by omega)] <;> rfl
  rw [hnb] at HRD
  clear hnb htz
  have i0 : a1 < s.size := by omega
  have i1 : a1 + 1 < s.size := by omega
  have i0z : (a1 : Int) < (s.size : Int) := by omega
  have i1z : (a1 : Int) + 1 < (s.size : Int) := by omega
  have e0 : s[a1].toNat = wn := (byt_eq i0).trans hwn
  have e1 : s[a1 + 1].toNat = dn := (byt_eq i1).trans hdn
  obtain ⟨NN, hNN⟩ : ∃ n : Nat, wn * dn = n := ⟨_, rfl⟩
  have HLN : Hid (ldN s = NN ∧ nm = (ldS s).nm ∧ (wn : Int) = (ldS s).W ∧ (dn : Int) = (ldS s).D ∧ Sv0 = (ldS s).S) := Lib.hid (by
    refine ⟨?_, ?_, ?_, ?_, ?_⟩
    · rw [← hNN, ← hwn, ← hdn, ← ha1]; rfl
    · rw [← HNM.out, ← ha1]; rfl
    · rw [← hwn, ← ha1]; rfl
    · rw [← hdn, ← ha1]; rfl
    · rw [← hsv, ← ha1]; rfl)
  have hNb : NN ≤ 65025 := by rw [← hNN]; exact Nat.mul_le_mul (by omega : wn ≤ 255) (by omega : dn ≤ 255)
  have hwd : (wn : Int) * (dn : Int) = (NN : Int) := by rw [← hNN]; exact (Int.natCast_mul _ _).symm
  have hww : IntKind.i64.wrap ((wn : Int) * (dn : Int)) = (NN : Int) := by rw [hwd]; exact IntWalk.i64_in _ (by omega)
  clear hwn hdn hsv hNN hwd
  have hE1 := HE.out
  have hE3 := HA3.out
  rw [HLN.out.1] at hE1 hE3
  have HE2 := Lib.hid hE1
  have HA32 := Lib.hid hE3
  clear hE1 hE3 HE HA3 HA1
  have x1 : IntKind.i64.wrap ((a1 : Int) + 1) = (a1 : Int) + 1 := IntWalk.i64_in _ (by omega)
  have x2 : IntKind.i64.wrap ((a1 : Int) + 2) = (a1 : Int) + 2 := IntWalk.i64_in _ (by omega)
  have x6 : IntKind.i64.wrap ((a1 : Int) + 6) = (a1 : Int) + 6 := IntWalk.i64_in _ (by omega)
  have xw : IntKind.i64.wrap (wn : Int) = (wn : Int) := IntWalk.i64_in _ (by omega)
  have xd : IntKind.i64.wrap (dn : Int) = (dn : Int) := IntWalk.i64_in _ (by omega)
  have i26 : (a1 : Int) + 2 ≤ (a1 : Int) + 6 := by omega
  have i6z : (a1 : Int) + 6 ≤ (s.size : Int) := by omega
  have p1 : (0 : Int) ≤ (a1 : Int) + 1 := by omega
  have p2 : (0 : Int) ≤ (a1 : Int) + 2 := by omega
  have p6 : (0 : Int) ≤ (a1 : Int) + 6 := by omega
  have t1 : ((a1 : Int) + 1).toNat = a1 + 1 := by omega
  have t2 : ((a1 : Int) + 2).toNat = a1 + 2 := by omega
  have t6 : ((a1 : Int) + 6).toNat = a1 + 6 := by omega
  go_upto_region 8 with (fail)
  go_cut [] (fun wx => Hid (BgSt A w wx hd0 ⟨nm, wn, dn, Sv0, [], 0, [], [], []⟩))
  case first =>
    go_region_held3 (fun _ => True) (trivial) ((go_at_call 107; refine (HRD.out _).mono ?_; rintro e w8 ⟨rfl, m8, hw8⟩; have HS1 : Hid (BgSt A w w8 hd0 ⟨nm, 0, 0, 0, [], 0, [], [], []⟩) := Lib.hid (hw8 ▸ ((HS0.out.drewN 1).drewN m8)); have c1 : w8.cell? ⟨A + 1, 1, none⟩ = some (.int .i64 0) := HS1.out.cells.2.1; have c2 : w8.cell? ⟨A + 1, 2, none⟩ = some (.int .i64 0) := HS1.out.cells.2.2.1; have c3 : w8.cell? ⟨A + 1, 3, none⟩ = some (.int .i64 0) := HS1.out.cells.2.2.2.1; have c4 : w8.cell? ⟨A + 1, 4, none⟩ = some (.slice none 0 0) := HS1.out.cells.2.2.2.2.1; have f1 := HS1.out.bx.blk.free 1; have f2 := HS1.out.bx.blk.free 2; have f3 := HS1.out.bx.blk.free 3; have f4 := HS1.out.bx.blk.free 4; clear hw8))
    all_goals
      go_wp2_with fail
      go_meet
      exact Lib.hid (HS1.out.setCells rfl wn dn Sv0)
  case rest =>
  clear HS0 i26 i6z p2 p6 t2 t6 x2 HRD htx
  have HS2 := hcut
  clear hcut
  go_wp2_with fail
  go_quiet (fail)
  have HS3 := Lib.hid (HS2.out.drewN nq)
  generalize wc.drewN nq = w9 at HS3 ⊢
  clear HS2 x1 x6 xw xd p1 t1 e0 e1 i0z i1z i0 i1 hww
  obtain ⟨a2, ha2⟩ : ∃ a, a1 + 6 = a := ⟨_, rfl⟩
  go_upto_region 10 with (fail)
  rw [show (a1 : Int) + 6 = (a2 : Int) by omega]
  by_cases h7 : s.size < a2 + 4 * NN + 2
  · have h7z : (s.size : Int) < (a2 : Int) + 4 * (NN : Int) + 2 := by omega
    have HRW := Lib.hid HS3.out.res
    have HBW := Lib.hid HS3.out.B
    have hok : ldOk s = false := ldOk_short (by have := HE2.out; omega)
    have hxv : xv = sv0 := by rw [← HXV.out]; unfold ldV; rw [hok]; rfl
    have hxn : xn = 0 := by rw [← HXN.out]; unfold ldN0; rw [hok]; rfl
    subst hxv hxn
    have r0 := HRW.out.cell (i := 0) (v := .string ⟨#[]⟩) rfl
    have q0 := HRW.out.free 0
    have r1 := HRW.out.cell (i := 1) (v := .int .i64 0) rfl
    have q1 := HRW.out.free 1
    have r2 := HRW.out.cell (i := 2) (v := .int .i64 0) rfl
    have q2 := HRW.out.free 2
    have r3 := HRW.out.cell (i := 3) (v := .int .i64 0) rfl
    have q3 := HRW.out.free 3
    have r4 := HRW.out.cell (i := 4) (v := .slice none 0 0) rfl
    have q4 := HRW.out.free 4
    have r5 := HRW.out.cell (i := 5) (v := .int .i64 0) rfl
    have q5 := HRW.out.free 5
    have r6 := HRW.out.cell (i := 6) (v := .slice none 0 0) rfl
    have q6 := HRW.out.free 6
    have r7 := HRW.out.cell (i := 7) (v := .slice none 0 0) rfl
    have q7 := HRW.out.free 7
    have r8 := HRW.out.cell (i := 8) (v := .slice none 0 0) rfl
    have q8 := HRW.out.free 8
    go_wp2
    refine bodyPost_ret (v := .tuple #[.agg #[.string ⟨#[]⟩, .int .i64 0, .int .i64 0, .int .i64 0, .slice none 0 0, .int .i64 0, .slice none 0 0, .slice none 0 0, .slice none 0 0], .int .i64 0]) (by simp [results, Try.results50, go_sem, r0, r1, r2, r3, r4, r5, r6, r7, r8]) rfl ⟨hd0, rfl, svOwn0 _ _, svSep0, ?_⟩
    rw [HA.out]
    exact put9_below HBW.out (Nat.le_refl _)
  have h7z : ¬ (s.size : Int) < (a2 : Int) + 4 * (NN : Int) + 2 := by omega
  go_upto_region 12 with (fail)
  clear h7z
  -- the counts
  go_loopw [4, 6] (fun ai ci wr => ∃ (k : Nat) (h : SvH) (C : List Int), k ≤ NN ∧ ai = .int .i64 ((a2 + 4 * k : Nat) : Int) ∧ ci = .int .i64 ((NN - k : Nat) : Int) ∧ C.length ≤ k ∧ Hid (BgSt A w wr h ⟨nm, wn, dn, Sv0, C, 0, [], [], []⟩) ∧ Hid (C = nums4 s a2 4 k)) (fun _ ci _ => (intOf ci).toNat)
  case atStart => exact ⟨0, hd0, [], Nat.zero_le _, rfl, rfl, Nat.le_refl _, HS3, Lib.hid rfl⟩
  case round =>
    clear HS3
    obtain ⟨k, h, C, hk, rfl, rfl, hC, HS, HC⟩ := hrel
    obtain ⟨p, hp⟩ : ∃ p, a2 + 4 * k = p := ⟨_, rfl⟩
    obtain ⟨c, hc⟩ : ∃ c, NN - k = c := ⟨_, rfl⟩
    rw [hp, hc]
    by_cases hlt : 0 < c
    · obtain ⟨d, rfl⟩ : ∃ d, c = d + 1 := ⟨c - 1, by omega⟩
      have hltz : (0 : Int) < ((d + 1 : Nat) : Int) := by omega
      have hdb2 : d ≤ 65025 := by omega
      obtain ⟨txx, htx⟩ : ∃ z, s.extract p (p + 4) = z := ⟨_, rfl⟩
      have htz : txx.size = 4 := by rw [← htx, ByteArray.size_extract]; omega
      have HRD := Lib.hid (fun w' => l07Read_any (t := txx) (w := w') (by omega) (by omega))
      have hnb : nb4 txx 0 = nb4 s p := by
        rw [← htx]; unfold nb4
        rw [byt_extract (by omega) (by omega), byt_extract (by omega) (by omega), byt_extract (by omega) (by omega), byt_extract (by omega) (by omega)] <;> rfl
      have HC1 : Hid (C ++ [nb4 s p] = nums4 s a2 4 (k + 1)) := Lib.hid (by rw [nums4_succ, HC.out, ← hp])
      rw [hnb] at HRD
      generalize nb4 s p = N at HRD HC1
      clear hnb htz HC
      have hcell := HS.out.cells.2.2.2.2.1
      go_wp2_with fail
      have hq1 : p + 4 = a2 + 4 * (k + 1) := by omega
      have hq2 : d = NN - (k + 1) := by omega
      have hq3 : k + 1 ≤ NN := by omega
      have HQ := Lib.hid (And.intro hq1 (And.intro hq2 hq3))
      have ps : (p : Int) + 4 ≤ (s.size : Int) := by omega
      have pl : (p : Int) ≤ (p : Int) + 4 := by omega
      have pz : (0 : Int) ≤ (p : Int) + 4 := by omega
      have pt : ((p : Int) + 4).toNat = p + 4 := by omega
      have pw : IntKind.i64.wrap ((p : Int) + 4) = (p : Int) + 4 := IntWalk.i64_in _ (by omega)
      have hCn : C.length ≤ 65025 := by omega
      clear hq1 hq2 hq3 hp hc
      go_region_law (first
        | (go_simp; go_at_call 107; refine (HRD.out _).mono ?_; rintro e w8 ⟨rfl, m8, hw8⟩; have HT8 : Hid (BgSt A w w8 h ⟨nm, wn, dn, Sv0, C, 0, [], [], []⟩) := Lib.hid (hw8 ▸ ((HS.out.drewN 1).drewN m8)); have hk8 : w8.cell? ⟨A + 1, 4, none⟩ = some (.slice h.a0 C.length h.c0) := HT8.out.cells.2.2.2.2.1; have hz8 := HT8.out.lt; clear hw8)
        | (refine step_append1w (f := Value.int .i64) (d := 0) (base := A + 1 + 1) (xs := C) und_ise info_i (fun _ => rfl) N (HT8.out.bx.own.cs.alloc _) rfl _ _ rfl w8.heap.size rfl rfl (heap_alloc_new w8 _) (by omega) (by omega) (by simp; omega) ?_; intro a9 c9 w9x ho9 hg9 hl9; have O9 := HT8.out.pushC (x := ⟨nm, wn, dn, Sv0, C, 0, [], [], []⟩) ho9 hg9 hl9; have o9c := O9.1; have o9f := O9.2.1; have HO9 := Lib.hid O9.2.2; clear O9 ho9 hg9 hl9))
      all_goals
        clear hcell o9c o9f pl pz pt htx
        go_wp2
        go_roundw
        case rel => exact ⟨k + 1, { h with a0 := a9, c0 := c9 }, C ++ [N], HQ.out.2.2, by have := HQ.out.1; rw [show (p : Int) + 4 = ((a2 + 4 * (k + 1) : Nat) : Int) by omega], by rw [← HQ.out.2.1] <;> go_num, by rw [List.length_append]; simp; omega, HO9, HC1⟩
        case measure => simp [intOf] <;> omega
    · obtain rfl : c = 0 := by omega
      have hkn : k = NN := by omega
      have HP3 : Hid (ldA3 s = p) := Lib.hid (by have := HA32.out; omega)
      have HEP : Hid (ldE s = p + 4 + 12 * ldK s) := Lib.hid (by have := HE2.out; omega)
      have hps : p + 2 ≤ s.size := by omega
      have HCC : Hid (C = (ldS s).cs) := Lib.hid (by
        rw [HC.out, hkn, ← ha2, ← ha1, ← HLN.out.1]; rfl)
      have hCn : C.length ≤ 65025 := by omega
      clear hC HC hc hk hlt hkn hp ha2 HE2 HA32
      go_upto_region 16 with (fail)
      obtain ⟨rn, hrn⟩ : ∃ z, byt s p = z := ⟨_, rfl⟩
      obtain ⟨kn, hknn⟩ : ∃ z, byt s (p + 1) = z := ⟨_, rfl⟩
      have hrb := byt_lt s p
      have hkb := byt_lt s (p + 1)
      rw [hrn] at hrb
      rw [hknn] at hkb
      have i0 : p < s.size := by omega
      have i1 : p + 1 < s.size := by omega
      have i0z : (p : Int) < (s.size : Int) := by omega
      have i1z : (p : Int) + 1 < (s.size : Int) := by omega
      have p1 : (0 : Int) ≤ (p : Int) + 1 := by omega
      have t1 : ((p : Int) + 1).toNat = p + 1 := by omega
      have e0 : s[p].toNat = rn := (byt_eq i0).trans hrn
      have e1 : s[p + 1].toNat = kn := (byt_eq i1).trans hknn
      have HRK : Hid ((rn : Int) = (ldS s).R ∧ ldK s = kn) := Lib.hid (by
        refine ⟨?_, ?_⟩
        · rw [← hrn, ← HP3.out]; rfl
        · rw [← hknn, ← HP3.out]; rfl)
      clear hrn hknn
      have hc5 := HS.out.cells.2.2.2.2.2.1
      have hf5 := HS.out.bx.blk.free 5
      have HS5 : Hid (BgSt A w (wr.setCell ⟨A + 1, 5, none⟩ (.int .i64 (rn : Int))) h ⟨nm, wn, dn, Sv0, C, rn, [], [], []⟩) := Lib.hid (HS.out.setR (rn : Int))
      go_upto_region 19 with (fail)
      generalize wr.setCell ⟨A + 1, 5, none⟩ (.int .i64 (rn : Int)) = w10 at HS5 ⊢
      clear hc5 hf5 HS i0 i1 i0z i1z p1 t1 e0 e1
      obtain ⟨a4, ha4⟩ : ∃ a, p + 2 = a := ⟨_, rfl⟩
      rw [show (p : Int) + 2 = (a4 : Int) by omega]
      have HE4 : Hid (ldE s = a4 + 2 + 12 * kn) := Lib.hid (by have := HEP.out; have := HRK.out.2; omega)
      have HP4 : Hid (ldA3 s + 2 = a4) := Lib.hid (by have := HP3.out; omega)
      by_cases h8 : s.size < a4 + 12 * kn + 2
      · have h8z : (s.size : Int) < (a4 : Int) + 12 * (kn : Int) + 2 := by omega
        have HRW := Lib.hid HS5.out.res
        have HBW := Lib.hid HS5.out.B
        have hok : ldOk s = false := ldOk_short (by have := HE4.out; omega)
        have hxv : xv = sv0 := by rw [← HXV.out]; unfold ldV; rw [hok]; rfl
        have hxn : xn = 0 := by rw [← HXN.out]; unfold ldN0; rw [hok]; rfl
        subst hxv hxn
        have r0 := HRW.out.cell (i := 0) (v := .string ⟨#[]⟩) rfl
        have q0 := HRW.out.free 0
        have r1 := HRW.out.cell (i := 1) (v := .int .i64 0) rfl
        have q1 := HRW.out.free 1
        have r2 := HRW.out.cell (i := 2) (v := .int .i64 0) rfl
        have q2 := HRW.out.free 2
        have r3 := HRW.out.cell (i := 3) (v := .int .i64 0) rfl
        have q3 := HRW.out.free 3
        have r4 := HRW.out.cell (i := 4) (v := .slice none 0 0) rfl
        have q4 := HRW.out.free 4
        have r5 := HRW.out.cell (i := 5) (v := .int .i64 0) rfl
        have q5 := HRW.out.free 5
        have r6 := HRW.out.cell (i := 6) (v := .slice none 0 0) rfl
        have q6 := HRW.out.free 6
        have r7 := HRW.out.cell (i := 7) (v := .slice none 0 0) rfl
        have q7 := HRW.out.free 7
        have r8 := HRW.out.cell (i := 8) (v := .slice none 0 0) rfl
        have q8 := HRW.out.free 8
        go_wp2
        refine bodyPost_ret (v := .tuple #[.agg #[.string ⟨#[]⟩, .int .i64 0, .int .i64 0, .int .i64 0, .slice none 0 0, .int .i64 0, .slice none 0 0, .slice none 0 0, .slice none 0 0], .int .i64 0]) (by simp [results, Try.results50, go_sem, r0, r1, r2, r3, r4, r5, r6, r7, r8]) rfl ⟨hd0, rfl, svOwn0 _ _, svSep0, ?_⟩
        rw [HA.out]
        exact put9_below HBW.out (Nat.le_refl _)
      have h8z : ¬ (s.size : Int) < (a4 : Int) + 12 * (kn : Int) + 2 := by omega
      go_upto_region 21 with (fail)
      clear h8z
      go_loopw [4, 7] (fun ai ci wr => ∃ (k : Nat) (h : SvH) (K T E : List Int), k ≤ kn ∧ ai = .int .i64 ((a4 + 12 * k : Nat) : Int) ∧ ci = .int .i64 ((kn - k : Nat) : Int) ∧ K.length ≤ k ∧ T.length ≤ k ∧ E.length ≤ k ∧ Hid (BgSt A w wr h ⟨nm, wn, dn, Sv0, C, rn, K, T, E⟩) ∧ Hid (K = nums4 s a4 12 k ∧ T = nums4 s (a4 + 4) 12 k ∧ E = nums4 s (a4 + 8) 12 k)) (fun _ ci _ => (intOf ci).toNat)
      case atStart => exact ⟨0, h, [], [], [], Nat.zero_le _, rfl, rfl, Nat.le_refl _, Nat.le_refl _, Nat.le_refl _, HS5, Lib.hid ⟨rfl, rfl, rfl⟩⟩
      case round =>
        clear HS5
        obtain ⟨k, h, K, T, E, hk, rfl, rfl, hK, hT, hE, HS, HC⟩ := hrel
        obtain ⟨p, hp⟩ : ∃ p, a4 + 12 * k = p := ⟨_, rfl⟩
        obtain ⟨c, hc⟩ : ∃ c, kn - k = c := ⟨_, rfl⟩
        rw [hp, hc]
        by_cases hlt : 0 < c
        · obtain ⟨d, rfl⟩ : ∃ d, c = d + 1 := ⟨c - 1, by omega⟩
          have hltz : (0 : Int) < ((d + 1 : Nat) : Int) := by omega
          have hdb2 : d ≤ 255 := by omega
          have ps12 : p + 12 ≤ s.size := by omega
          have HQ : Hid (p + 12 = a4 + 12 * (k + 1) ∧ d = kn - (k + 1) ∧ k + 1 ≤ kn) := Lib.hid ⟨by omega, by omega, by omega⟩
          have HPE : Hid (a4 + 12 * k = p) := Lib.hid hp
          have hk255 : k ≤ 255 := by omega
          clear hp hc hk
          go_wp2_with fail
          go_upto_region 24 with (fail)
          go_cut [] (fun wx => ∃ (h : SvH) (K T E : List Int), K.length ≤ k + 1 ∧ T.length ≤ k ∧ E.length ≤ k ∧ Hid (BgSt A w wx h ⟨nm, wn, dn, Sv0, C, rn, K, T, E⟩) ∧ Hid (K = nums4 s a4 12 (k + 1) ∧ T = nums4 s (a4 + 4) 12 k ∧ E = nums4 s (a4 + 8) 12 k))
          case first =>
            have hcell := HS.out.cells.2.2.2.2.2.2.1
            obtain ⟨txx, htx⟩ : ∃ z, s.extract (p) (p + 4) = z := ⟨_, rfl⟩
            have htz : txx.size = 4 := by rw [← htx, ByteArray.size_extract]; omega
            have HRD := Lib.hid (fun w' => l07Read_any (t := txx) (w := w') (by omega) (by omega))
            have hnb : nb4 txx 0 = nb4 s (p) := by
              rw [← htx]; unfold nb4
              rw [byt_extract (by omega) (by omega), byt_extract (by omega) (by omega), byt_extract (by omega) (by omega), byt_extract (by omega) (by omega)] <;> rfl
            have HC1 : Hid (K ++ [nb4 s (p)] = nums4 s a4 12 (k + 1) ∧ T = nums4 s (a4 + 4) 12 k ∧ E = nums4 s (a4 + 8) 12 k) := Lib.hid ⟨by rw [nums4_succ, ← HC.out.1, HPE.out], HC.out.2.1, HC.out.2.2⟩
            rw [hnb] at HRD
            generalize nb4 s (p) = N at HRD HC1
            clear hnb htz HC
            have ps : (p : Int) + 4 ≤ (s.size : Int) := by omega
            have pl : (p : Int) ≤ (p : Int) + 4 := by omega
            have pz0 : (0 : Int) ≤ (p : Int) := by omega
            have pz : (0 : Int) ≤ (p : Int) + 4 := by omega
            have pt0 : ((p : Int)).toNat = p := by omega
            have pt : ((p : Int) + 4).toNat = p + 4 := by omega
            have pw0 : IntKind.i64.wrap ((p : Int)) = (p : Int) := IntWalk.i64_in _ (by omega)
            have pw : IntKind.i64.wrap ((p : Int) + 4) = (p : Int) + 4 := IntWalk.i64_in _ (by omega)
            go_region_law (first
              | (go_simp; go_at_call 107; refine (HRD.out _).mono ?_; rintro e w8 ⟨rfl, m8, hw8⟩; have HT8 : Hid (BgSt A w w8 h ⟨nm, wn, dn, Sv0, C, rn, K, T, E⟩) := Lib.hid (hw8 ▸ ((HS.out.drewN 1).drewN m8)); have hk8 : w8.cell? ⟨A + 1, 6, none⟩ = some (.slice h.a1 K.length h.c1) := HT8.out.cells.2.2.2.2.2.2.1; have hz8 := HT8.out.lt; clear hw8)
              | (refine step_append1w (f := Value.int .i64) (d := 0) (base := A + 1 + 1) (xs := K) und_ise info_i (fun _ => rfl) N (HT8.out.bx.own.ks.alloc _) rfl _ _ rfl w8.heap.size rfl rfl (heap_alloc_new w8 _) (by omega) (by omega) (by simp; omega) ?_; intro a9 c9 w9x ho9 hg9 hl9; have O9 := HT8.out.pushK (x := ⟨nm, wn, dn, Sv0, C, rn, K, T, E⟩) ho9 hg9 hl9; have o9c := O9.1; have o9f := O9.2.1; have HO9 := Lib.hid O9.2.2; clear O9 ho9 hg9 hl9))
            all_goals
              go_wp2_with fail
              go_meet
              exact ⟨{ h with a1 := a9, c1 := c9 }, K ++ [N], T, E, by rw [List.length_append]; simp; omega, hT, hE, HO9, HC1⟩
          case rest =>
            clear HS HC hK hT hE
            obtain ⟨h, K, T, E, hK, hT, hE, HS, HC⟩ := hcut
            go_wp2_with fail
            go_upto_region 25 with (fail)
            go_cut [] (fun wx => ∃ (h : SvH) (K T E : List Int), K.length ≤ k + 1 ∧ T.length ≤ k + 1 ∧ E.length ≤ k ∧ Hid (BgSt A w wx h ⟨nm, wn, dn, Sv0, C, rn, K, T, E⟩) ∧ Hid (K = nums4 s a4 12 (k + 1) ∧ T = nums4 s (a4 + 4) 12 (k + 1) ∧ E = nums4 s (a4 + 8) 12 k))
            case first =>
              have hcell := HS.out.cells.2.2.2.2.2.2.2.1
              obtain ⟨txx, htx⟩ : ∃ z, s.extract (p + 4) (p + 8) = z := ⟨_, rfl⟩
              have htz : txx.size = 4 := by rw [← htx, ByteArray.size_extract]; omega
              have HRD := Lib.hid (fun w' => l07Read_any (t := txx) (w := w') (by omega) (by omega))
              have hnb : nb4 txx 0 = nb4 s (p + 4) := by
                rw [← htx]; unfold nb4
                rw [byt_extract (by omega) (by omega), byt_extract (by omega) (by omega), byt_extract (by omega) (by omega), byt_extract (by omega) (by omega)] <;> rfl
              have HC1 : Hid (K = nums4 s a4 12 (k + 1) ∧ T ++ [nb4 s (p + 4)] = nums4 s (a4 + 4) 12 (k + 1) ∧ E = nums4 s (a4 + 8) 12 k) := Lib.hid ⟨HC.out.1, by rw [nums4_succ, ← HC.out.2.1]; congr 3; have := HPE.out; omega, HC.out.2.2⟩
              rw [hnb] at HRD
              generalize nb4 s (p + 4) = N at HRD HC1
              clear hnb htz HC
              have ps : (p : Int) + 8 ≤ (s.size : Int) := by omega
              have pl : (p : Int) + 4 ≤ (p : Int) + 8 := by omega
              have pz0 : (0 : Int) ≤ (p : Int) + 4 := by omega
              have pz : (0 : Int) ≤ (p : Int) + 8 := by omega
              have pt0 : ((p : Int) + 4).toNat = p + 4 := by omega
              have pt : ((p : Int) + 8).toNat = p + 8 := by omega
              have pw0 : IntKind.i64.wrap ((p : Int) + 4) = (p : Int) + 4 := IntWalk.i64_in _ (by omega)
              have pw : IntKind.i64.wrap ((p : Int) + 8) = (p : Int) + 8 := IntWalk.i64_in _ (by omega)
              go_region_law (first
                | (go_simp; go_at_call 107; refine (HRD.out _).mono ?_; rintro e w8 ⟨rfl, m8, hw8⟩; have HT8 : Hid (BgSt A w w8 h ⟨nm, wn, dn, Sv0, C, rn, K, T, E⟩) := Lib.hid (hw8 ▸ ((HS.out.drewN 1).drewN m8)); have hk8 : w8.cell? ⟨A + 1, 7, none⟩ = some (.slice h.a2 T.length h.c2) := HT8.out.cells.2.2.2.2.2.2.2.1; have hz8 := HT8.out.lt; clear hw8)
                | (refine step_append1w (f := Value.int .i64) (d := 0) (base := A + 1 + 1) (xs := T) und_ise info_i (fun _ => rfl) N (HT8.out.bx.own.ts.alloc _) rfl _ _ rfl w8.heap.size rfl rfl (heap_alloc_new w8 _) (by omega) (by omega) (by simp; omega) ?_; intro a9 c9 w9x ho9 hg9 hl9; have O9 := HT8.out.pushT (x := ⟨nm, wn, dn, Sv0, C, rn, K, T, E⟩) ho9 hg9 hl9; have o9c := O9.1; have o9f := O9.2.1; have HO9 := Lib.hid O9.2.2; clear O9 ho9 hg9 hl9))
              all_goals
                go_wp2_with fail
                go_meet
                exact ⟨{ h with a2 := a9, c2 := c9 }, K, T ++ [N], E, hK, by rw [List.length_append]; simp; omega, hE, HO9, HC1⟩
            case rest =>
              clear HS HC hK hT hE
              obtain ⟨h, K, T, E, hK, hT, hE, HS, HC⟩ := hcut
              go_wp2_with fail
              go_upto_region 26 with (fail)
              go_cut [] (fun wx => ∃ (h : SvH) (K T E : List Int), K.length ≤ k + 1 ∧ T.length ≤ k + 1 ∧ E.length ≤ k + 1 ∧ Hid (BgSt A w wx h ⟨nm, wn, dn, Sv0, C, rn, K, T, E⟩) ∧ Hid (K = nums4 s a4 12 (k + 1) ∧ T = nums4 s (a4 + 4) 12 (k + 1) ∧ E = nums4 s (a4 + 8) 12 (k + 1)))
              case first =>
                have hcell := HS.out.cells.2.2.2.2.2.2.2.2
                obtain ⟨txx, htx⟩ : ∃ z, s.extract (p + 8) (p + 12) = z := ⟨_, rfl⟩
                have htz : txx.size = 4 := by rw [← htx, ByteArray.size_extract]; omega
                have HRD := Lib.hid (fun w' => l07Read_any (t := txx) (w := w') (by omega) (by omega))
                have hnb : nb4 txx 0 = nb4 s (p + 8) := by
                  rw [← htx]; unfold nb4
                  rw [byt_extract (by omega) (by omega), byt_extract (by omega) (by omega), byt_extract (by omega) (by omega), byt_extract (by omega) (by omega)] <;> rfl
                have HC1 : Hid (K = nums4 s a4 12 (k + 1) ∧ T = nums4 s (a4 + 4) 12 (k + 1) ∧ E ++ [nb4 s (p + 8)] = nums4 s (a4 + 8) 12 (k + 1)) := Lib.hid ⟨HC.out.1, HC.out.2.1, by rw [nums4_succ, ← HC.out.2.2]; congr 3; have := HPE.out; omega⟩
                rw [hnb] at HRD
                generalize nb4 s (p + 8) = N at HRD HC1
                clear hnb htz HC
                have ps : (p : Int) + 12 ≤ (s.size : Int) := by omega
                have pl : (p : Int) + 8 ≤ (p : Int) + 12 := by omega
                have pz0 : (0 : Int) ≤ (p : Int) + 8 := by omega
                have pz : (0 : Int) ≤ (p : Int) + 12 := by omega
                have pt0 : ((p : Int) + 8).toNat = p + 8 := by omega
                have pt : ((p : Int) + 12).toNat = p + 12 := by omega
                have pw0 : IntKind.i64.wrap ((p : Int) + 8) = (p : Int) + 8 := IntWalk.i64_in _ (by omega)
                have pw : IntKind.i64.wrap ((p : Int) + 12) = (p : Int) + 12 := IntWalk.i64_in _ (by omega)
                go_region_law (first
                  | (go_simp; go_at_call 107; refine (HRD.out _).mono ?_; rintro e w8 ⟨rfl, m8, hw8⟩; have HT8 : Hid (BgSt A w w8 h ⟨nm, wn, dn, Sv0, C, rn, K, T, E⟩) := Lib.hid (hw8 ▸ ((HS.out.drewN 1).drewN m8)); have hk8 : w8.cell? ⟨A + 1, 8, none⟩ = some (.slice h.a3 E.length h.c3) := HT8.out.cells.2.2.2.2.2.2.2.2; have hz8 := HT8.out.lt; clear hw8)
                  | (refine step_append1w (f := Value.int .i64) (d := 0) (base := A + 1 + 1) (xs := E) und_ise info_i (fun _ => rfl) N (HT8.out.bx.own.es.alloc _) rfl _ _ rfl w8.heap.size rfl rfl (heap_alloc_new w8 _) (by omega) (by omega) (by simp; omega) ?_; intro a9 c9 w9x ho9 hg9 hl9; have O9 := HT8.out.pushE (x := ⟨nm, wn, dn, Sv0, C, rn, K, T, E⟩) ho9 hg9 hl9; have o9c := O9.1; have o9f := O9.2.1; have HO9 := Lib.hid O9.2.2; clear O9 ho9 hg9 hl9))
                all_goals
                  go_wp2_with fail
                  go_meet
                  exact ⟨{ h with a3 := a9, c3 := c9 }, K, T, E ++ [N], hK, hT, by rw [List.length_append]; simp; omega, HO9, HC1⟩
              case rest =>
                clear HS HC hK hT hE
                obtain ⟨h, K, T, E, hK, hT, hE, HS, HC⟩ := hcut
                go_wp2
                go_roundw
                case rel => exact ⟨k + 1, h, K, T, E, HQ.out.2.2, by have := HQ.out.1; rw [show (p : Int) + 12 = ((a4 + 12 * (k + 1) : Nat) : Int) by omega], by rw [← HQ.out.2.1] <;> go_num, hK, hT, hE, HS, HC⟩
                case measure => simp [intOf] <;> omega
        · obtain rfl : c = 0 := by omega
          have hkn : k = kn := by omega
          have HEE : Hid (ldE s = p + 2) := Lib.hid (by have := HE4.out; omega)
          have hpe : p + 2 ≤ s.size := by omega
          have HXS : Hid ((⟨nm, wn, dn, Sv0, C, rn, K, T, E⟩ : Sv) = ldS s) := Lib.hid (by
            obtain ⟨-, a2, a3, a4', a5⟩ := HLN.out
            have a6 := HCC.out
            have a7 := HRK.out.1
            have a8 : K = (ldS s).ks := by rw [HC.out.1, hkn, ← HP4.out, ← HRK.out.2]; rfl
            have a9 : T = (ldS s).ts := by rw [HC.out.2.1, hkn, ← HP4.out, ← HRK.out.2]; rfl
            have a10 : E = (ldS s).es := by rw [HC.out.2.2, hkn, ← HP4.out, ← HRK.out.2]; rfl
            rw [a2, a3, a4', a5, a6, a7, a8, a9, a10])
          clear hkn hc hp hk hlt HC
          go_wp2_with fail
          have pz : (0 : Int) ≤ (p : Int) + 2 := by omega
          have ps : (p : Int) + 2 ≤ (s.size : Int) := by omega
          have pt : ((p : Int) + 2).toNat = p + 2 := by omega
          have pw : IntKind.i64.wrap ((p : Int) + 2) = (p : Int) + 2 := IntWalk.i64_in _ (by omega)
          cases hv : savedV ⟨nm, wn, dn, Sv0, C, rn, K, T, E⟩ with
          | false =>
            have hok : ldOk s = false := ldOk_invalid (by rw [← HXS.out]; exact hv)
            have hxv : xv = sv0 := by rw [← HXV.out]; unfold ldV; rw [hok]; rfl
            have hxn : xn = 0 := by rw [← HXN.out]; unfold ldN0; rw [hok]; rfl
            subst hxv hxn
            obtain ⟨ι, hne, G, hG, hS⟩ := calm_family wr
            have hAw : A ≤ wr.heap.size := by have := HS.out.lt; omega
            have HSG : Hid (∀ i, BgSt A w (G i) h ⟨nm, wn, dn, Sv0, C, rn, K, T, E⟩) := Lib.hid (fun i => HS.out.below hAw (hG i))
            have HV := Lib.hid (fun i => l07Saved_any (b0 := A + 1) (o := 0) (w := G i) (HSG.out i).bx.own.cs.rd (HSG.out i).bx.own.ks.rd (HSG.out i).bx.own.ts.rd (HSG.out i).bx.own.es.rd (HSG.out i).bx.own.nm (HSG.out i).cells.1 (HSG.out i).cells.2.1 (HSG.out i).cells.2.2.1 (HSG.out i).cells.2.2.2.1 (HSG.out i).cells.2.2.2.2.1 (HSG.out i).cells.2.2.2.2.2.1 (HSG.out i).cells.2.2.2.2.2.2.1 (HSG.out i).cells.2.2.2.2.2.2.2.1 (HSG.out i).cells.2.2.2.2.2.2.2.2)
            have hv2 : savedB nm wn dn Sv0 C rn K T E = false := hv
            have HV2 : Hid (∀ i, Calls Try.prog 62 #[.pointer (some ⟨A + 1, 0, none⟩)] (G i) fun e w' => e = .returned (.bool false) ∧ Below (G i).heap.size (G i) w') := Lib.hid (fun i => hv2 ▸ HV.out i)
            have HG := Lib.hid hG
            have HSU := Lib.hid hS
            clear hG hS hv2 HV
            refine wp_region_calm (G := G) (by kernel_rfl) (by kernel_rfl) HSU.out ?_
            repeat (go_big_quiet_step ((first | (go_at_call 62; exact calm_call HG.out HSU.out (HV2.out _)))))
            refine wpQuiet_nil ?_
            intro _ hw'
            obtain ⟨i, hw''⟩ := hw'
            subst hw''
            have HRW := Lib.hid (HSG.out i).res
            have HBW := Lib.hid (HSG.out i).B
            generalize G i = wz at HRW HBW ⊢
            have r0 := HRW.out.cell (i := 0) (v := .string ⟨#[]⟩) rfl
            have q0 := HRW.out.free 0
            have r1 := HRW.out.cell (i := 1) (v := .int .i64 0) rfl
            have q1 := HRW.out.free 1
            have r2 := HRW.out.cell (i := 2) (v := .int .i64 0) rfl
            have q2 := HRW.out.free 2
            have r3 := HRW.out.cell (i := 3) (v := .int .i64 0) rfl
            have q3 := HRW.out.free 3
            have r4 := HRW.out.cell (i := 4) (v := .slice none 0 0) rfl
            have q4 := HRW.out.free 4
            have r5 := HRW.out.cell (i := 5) (v := .int .i64 0) rfl
            have q5 := HRW.out.free 5
            have r6 := HRW.out.cell (i := 6) (v := .slice none 0 0) rfl
            have q6 := HRW.out.free 6
            have r7 := HRW.out.cell (i := 7) (v := .slice none 0 0) rfl
            have q7 := HRW.out.free 7
            have r8 := HRW.out.cell (i := 8) (v := .slice none 0 0) rfl
            have q8 := HRW.out.free 8
            go_wp2
            refine bodyPost_ret (v := .tuple #[.agg #[.string ⟨#[]⟩, .int .i64 0, .int .i64 0, .int .i64 0, .slice none 0 0, .int .i64 0, .slice none 0 0, .slice none 0 0, .slice none 0 0], .int .i64 0]) (by simp [results, Try.results50, go_sem, r0, r1, r2, r3, r4, r5, r6, r7, r8]) rfl ⟨hd0, rfl, svOwn0 _ _, svSep0, ?_⟩
            rw [HA.out]
            exact put9_below HBW.out (Nat.le_refl _)
          | true =>
            have hok0 := ldOk_yes (s := s) (by rw [HEE.out]; exact hpe) (by rw [← HXS.out]; exact hv)
            rw [← HXS.out, HEE.out] at hok0
            have HOKS := Lib.hid (svOk_of hv)
            obtain ⟨ι, hne, G, hG, hS⟩ := calm_family wr
            have hAw : A ≤ wr.heap.size := by have := HS.out.lt; omega
            have HSG : Hid (∀ i, BgSt A w (G i) h ⟨nm, wn, dn, Sv0, C, rn, K, T, E⟩) := Lib.hid (fun i => HS.out.below hAw (hG i))
            have HV := Lib.hid (fun i => l07Saved_any (b0 := A + 1) (o := 0) (w := G i) (HSG.out i).bx.own.cs.rd (HSG.out i).bx.own.ks.rd (HSG.out i).bx.own.ts.rd (HSG.out i).bx.own.es.rd (HSG.out i).bx.own.nm (HSG.out i).cells.1 (HSG.out i).cells.2.1 (HSG.out i).cells.2.2.1 (HSG.out i).cells.2.2.2.1 (HSG.out i).cells.2.2.2.2.1 (HSG.out i).cells.2.2.2.2.2.1 (HSG.out i).cells.2.2.2.2.2.2.1 (HSG.out i).cells.2.2.2.2.2.2.2.1 (HSG.out i).cells.2.2.2.2.2.2.2.2)
            have hv2 : savedB nm wn dn Sv0 C rn K T E = true := hv
            have HV2 : Hid (∀ i, Calls Try.prog 62 #[.pointer (some ⟨A + 1, 0, none⟩)] (G i) fun e w' => e = .returned (.bool true) ∧ Below (G i).heap.size (G i) w') := Lib.hid (fun i => hv2 ▸ HV.out i)
            have HG := Lib.hid hG
            have HSU := Lib.hid hS
            clear hG hS hv2 HV
            have HSTO := Lib.hid (fun i => l07Store_any (b0 := A + 1) (o := 0) (h := h) (s := ⟨nm, wn, dn, Sv0, C, rn, K, T, E⟩) (HSG.out i).bx.own.rd HOKS.out (HSG.out i).cells.1 (HSG.out i).cells.2.1 (HSG.out i).cells.2.2.1 (HSG.out i).cells.2.2.2.1 (HSG.out i).cells.2.2.2.2.1 (HSG.out i).cells.2.2.2.2.2.1 (HSG.out i).cells.2.2.2.2.2.2.1 (HSG.out i).cells.2.2.2.2.2.2.2.1 (HSG.out i).cells.2.2.2.2.2.2.2.2)
            obtain ⟨tx, htx⟩ : ∃ z, storeT ⟨nm, wn, dn, Sv0, C, rn, K, T, E⟩ = z := ⟨_, rfl⟩
            rw [htx] at hok0 HSTO
            clear htx
            have hneq : (tx.toList != (s.extract 0 (p + 2)).toList) = !ldOk s := by rw [hok0]; rfl
            have hneq0 : (tx.toList == (s.extract 0 (p + 2)).toList) = ldOk s := hok0.symm
            cases hok : ldOk s with
            | false =>
              rw [hok] at hneq hneq0
              have hxv : xv = sv0 := by rw [← HXV.out]; unfold ldV; rw [hok]; rfl
              have hxn : xn = 0 := by rw [← HXN.out]; unfold ldN0; rw [hok]; rfl
              subst hxv hxn
              have hne2 : (tx.toList != (s.extract 0 (p + 2)).toList) = true := hneq
              have hbq : (tx.toList == (s.extract 0 (p + 2)).toList) = false := hneq0
              clear hneq hneq0 hok0 hok
              refine wp_region_calm (G := G) (by kernel_rfl) (by kernel_rfl) HSU.out ?_
              repeat (go_big_quiet_step ((first | (go_at_call 62; exact calm_call HG.out HSU.out (HV2.out _)) | (go_at_call 63; exact calm_call HG.out HSU.out (HSTO.out _)))))
              refine wpQuiet_nil ?_
              intro _ hw'
              obtain ⟨i, hw''⟩ := hw'
              subst hw''
              have HRW := Lib.hid (HSG.out i).res
              have HBW := Lib.hid (HSG.out i).B
              have HSF := Lib.hid (HSG.out i)
              generalize G i = wz at HRW HBW HSF ⊢
              have r0 := HRW.out.cell (i := 0) (v := .string ⟨#[]⟩) rfl
              have q0 := HRW.out.free 0
              have r1 := HRW.out.cell (i := 1) (v := .int .i64 0) rfl
              have q1 := HRW.out.free 1
              have r2 := HRW.out.cell (i := 2) (v := .int .i64 0) rfl
              have q2 := HRW.out.free 2
              have r3 := HRW.out.cell (i := 3) (v := .int .i64 0) rfl
              have q3 := HRW.out.free 3
              have r4 := HRW.out.cell (i := 4) (v := .slice none 0 0) rfl
              have q4 := HRW.out.free 4
              have r5 := HRW.out.cell (i := 5) (v := .int .i64 0) rfl
              have q5 := HRW.out.free 5
              have r6 := HRW.out.cell (i := 6) (v := .slice none 0 0) rfl
              have q6 := HRW.out.free 6
              have r7 := HRW.out.cell (i := 7) (v := .slice none 0 0) rfl
              have q7 := HRW.out.free 7
              have r8 := HRW.out.cell (i := 8) (v := .slice none 0 0) rfl
              have q8 := HRW.out.free 8
              go_wp2
              refine bodyPost_ret (v := .tuple #[.agg #[.string ⟨#[]⟩, .int .i64 0, .int .i64 0, .int .i64 0, .slice none 0 0, .int .i64 0, .slice none 0 0, .slice none 0 0, .slice none 0 0], .int .i64 0]) (by simp [results, Try.results50, go_sem, r0, r1, r2, r3, r4, r5, r6, r7, r8]) rfl ⟨hd0, rfl, svOwn0 _ _, svSep0, ?_⟩
              rw [HA.out]
              exact put9_below HBW.out (Nat.le_refl _)
            | true =>
              rw [hok] at hneq hneq0
              have hxv : xv = ⟨nm, wn, dn, Sv0, C, rn, K, T, E⟩ := by rw [← HXV.out, HXS.out]; unfold ldV; rw [hok]; rfl
              have hxn : xn = p + 2 := by rw [← HXN.out, ← HEE.out]; unfold ldN0; rw [hok]; rfl
              subst hxv
              have HXNN := Lib.hid hxn
              clear hxn
              have hne2 : (tx.toList != (s.extract 0 (p + 2)).toList) = false := hneq
              have hbq : (tx.toList == (s.extract 0 (p + 2)).toList) = true := hneq0
              clear hneq hneq0 hok0 hok
              refine wp_region_calm (G := G) (by kernel_rfl) (by kernel_rfl) HSU.out ?_
              repeat (go_big_quiet_step ((first | (go_at_call 62; exact calm_call HG.out HSU.out (HV2.out _)) | (go_at_call 63; exact calm_call HG.out HSU.out (HSTO.out _)))))
              refine wpQuiet_nil ?_
              intro _ hw'
              obtain ⟨i, hw''⟩ := hw'
              subst hw''
              have HRW := Lib.hid (HSG.out i).res
              have HBW := Lib.hid (HSG.out i).B
              have HSF := Lib.hid (HSG.out i)
              generalize G i = wz at HRW HBW HSF ⊢
              have c0 := HSF.out.cells.1
              have c1 := HSF.out.cells.2.1
              have c2 := HSF.out.cells.2.2.1
              have c3 := HSF.out.cells.2.2.2.1
              have c4 := HSF.out.cells.2.2.2.2.1
              have c5 := HSF.out.cells.2.2.2.2.2.1
              have c6 := HSF.out.cells.2.2.2.2.2.2.1
              have c7 := HSF.out.cells.2.2.2.2.2.2.2.1
              have c8 := HSF.out.cells.2.2.2.2.2.2.2.2
              simp only [] at c0 c1 c2 c3 c4 c5 c6 c7 c8
              have r0 := HRW.out.cell (i := 0) (v := .string ⟨#[]⟩) rfl
              have q0 := HRW.out.free 0
              have r1 := HRW.out.cell (i := 1) (v := .int .i64 0) rfl
              have q1 := HRW.out.free 1
              have r2 := HRW.out.cell (i := 2) (v := .int .i64 0) rfl
              have q2 := HRW.out.free 2
              have r3 := HRW.out.cell (i := 3) (v := .int .i64 0) rfl
              have q3 := HRW.out.free 3
              have r4 := HRW.out.cell (i := 4) (v := .slice none 0 0) rfl
              have q4 := HRW.out.free 4
              have r5 := HRW.out.cell (i := 5) (v := .int .i64 0) rfl
              have q5 := HRW.out.free 5
              have r6 := HRW.out.cell (i := 6) (v := .slice none 0 0) rfl
              have q6 := HRW.out.free 6
              have r7 := HRW.out.cell (i := 7) (v := .slice none 0 0) rfl
              have q7 := HRW.out.free 7
              have r8 := HRW.out.cell (i := 8) (v := .slice none 0 0) rfl
              have q8 := HRW.out.free 8
              go_wp2
              refine bodyPost_ret (v := .tuple #[.agg #[.string nm, .int .i64 wn, .int .i64 dn, .int .i64 Sv0, .slice h.a0 C.length h.c0, .int .i64 rn, .slice h.a1 K.length h.c1, .slice h.a2 T.length h.c2, .slice h.a3 E.length h.c3], .int .i64 ((p : Int) + 2)]) (by simp [results, Try.results50, go_sem, r0, r1, r2, r3, r4, r5, r6, r7, r8]) rfl ⟨h, by rw [HXNN.out] <;> rfl, ?_, HSF.out.bx.sep, ?_⟩
              · exact (SvOwn.put9 (g := A) (o := 0) HSF.out.bx.own (by omega)).mono (by rw [HA.out]; omega)
              · rw [HA.out]
                exact put9_below HBW.out (Nat.le_refl _)

end Go.Proofs.Ytdpolaedfjljmaa
