/- The bytes of what is saved, in the program's text. -/
import Derived.Test.YtdpolaedfjljmaaStoD
import Derived.Test.YtdpolaedfjljmaaSvH
namespace Go.Proofs.Ytdpolaedfjljmaa
open Go.RowKit

set_option maxRecDepth 8000 in
set_option maxHeartbeats 4000000 in
theorem store_any {h : SvH} {s : Sv} {w : World} (g : SvRd w h s) (ok : SvOk s) :
    Calls Try.prog 61 #[.agg #[.string s.nm, .int .i64 s.W, .int .i64 s.D, .int .i64 s.S, .slice h.a0 s.cs.length h.c0, .int .i64 s.R, .slice h.a1 s.ks.length h.c1, .slice h.a2 s.ts.length h.c2, .slice h.a3 s.es.length h.c3]] w fun e w' => e = .returned (.string (storeT s)) ∧ Below w.heap.size w w' := by
  obtain ⟨res, hres⟩ : ∃ r, storeT s = r := ⟨_, rfl⟩
  rw [hres]
  have HRES := Lib.hid hres
  clear hres
  have B0 : Below w.heap.size w (w.alloc (.cells #[.string s.nm, .int .i64 s.W, .int .i64 s.D, .int .i64 s.S, .slice h.a0 s.cs.length h.c0, .int .i64 s.R, .slice h.a1 s.ks.length h.c1, .slice h.a2 s.ts.length h.c2, .slice h.a3 s.es.length h.c3] 28)) := (Below.refl _ _).alloc (Nat.le_refl _) _
  have I0 : Blk (w.alloc (.cells #[.string s.nm, .int .i64 s.W, .int .i64 s.D, .int .i64 s.S, .slice h.a0 s.cs.length h.c0, .int .i64 s.R, .slice h.a1 s.ks.length h.c1, .slice h.a2 s.ts.length h.c2, .slice h.a3 s.es.length h.c3] 28)) w.heap.size #[.string s.nm, .int .i64 s.W, .int .i64 s.D, .int .i64 s.S, .slice h.a0 s.cs.length h.c0, .int .i64 s.R, .slice h.a1 s.ks.length h.c1, .slice h.a2 s.ts.length h.c2, .slice h.a3 s.es.length h.c3] 28 := Blk.new _ _ _
  have hcv0 : (convert 43 43 (.slice (some ⟨w.heap.size + 1, 0, none⟩) 4 4)).run Try.prog ((w.alloc (.cells #[.string s.nm, .int .i64 s.W, .int .i64 s.D, .int .i64 s.S, .slice h.a0 s.cs.length h.c0, .int .i64 s.R, .slice h.a1 s.ks.length h.c1, .slice h.a2 s.ts.length h.c2, .slice h.a3 s.es.length h.c3] 28)).alloc (.cells #[.int .u8 83, .int .u8 75, .int .u8 84, .int .u8 49] 5)) = .ok (.slice (some ⟨w.heap.size + 1, 0, none⟩) 4 4) ((w.alloc (.cells #[.string s.nm, .int .i64 s.W, .int .i64 s.D, .int .i64 s.S, .slice h.a0 s.cs.length h.c0, .int .i64 s.R, .slice h.a1 s.ks.length h.c1, .slice h.a2 s.ts.length h.c2, .slice h.a3 s.es.length h.c3] 28)).alloc (.cells #[.int .u8 83, .int .u8 75, .int .u8 84, .int .u8 49] 5 (4, 5))) := by
    have := Lib.run_convert_bytes_const (P := Try.prog) (w.alloc (.cells #[.string s.nm, .int .i64 s.W, .int .i64 s.D, .int .i64 s.S, .slice h.a0 s.cs.length h.c0, .int .i64 s.R, .slice h.a1 s.ks.length h.c1, .slice h.a2 s.ts.length h.c2, .slice h.a3 s.es.length h.c3] 28)) 43 5 #[.int .u8 83, .int .u8 75, .int .u8 84, .int .u8 49] 4 4 und_ye und_y1
    simpa using this
  have O0 : ((w.alloc (.cells #[.string s.nm, .int .i64 s.W, .int .i64 s.D, .int .i64 s.S, .slice h.a0 s.cs.length h.c0, .int .i64 s.R, .slice h.a1 s.ks.length h.c1, .slice h.a2 s.ts.length h.c2, .slice h.a3 s.es.length h.c3] 28)).alloc (.cells #[.int .u8 83, .int .u8 75, .int .u8 84, .int .u8 49] 5 (4, 5))).heap[w.heap.size + 1]? = some (.cells (([83, 75, 84, 49] : List Int).map (Value.int .u8)).toArray 5 (4, 5)) := by
    have := heap_alloc_new (w.alloc (.cells #[.string s.nm, .int .i64 s.W, .int .i64 s.D, .int .i64 s.S, .slice h.a0 s.cs.length h.c0, .int .i64 s.R, .slice h.a1 s.ks.length h.c1, .slice h.a2 s.ts.length h.c2, .slice h.a3 s.es.length h.c3] 28)) (.cells #[.int .u8 83, .int .u8 75, .int .u8 84, .int .u8 49] 5 (4, 5))
    simpa using this
  have HQ : Hid (Below (w.heap.size + 1) (w.alloc (.cells #[.string s.nm, .int .i64 s.W, .int .i64 s.D, .int .i64 s.S, .slice h.a0 s.cs.length h.c0, .int .i64 s.R, .slice h.a1 s.ks.length h.c1, .slice h.a2 s.ts.length h.c2, .slice h.a3 s.es.length h.c3] 28)) ((w.alloc (.cells #[.string s.nm, .int .i64 s.W, .int .i64 s.D, .int .i64 s.S, .slice h.a0 s.cs.length h.c0, .int .i64 s.R, .slice h.a1 s.ks.length h.c1, .slice h.a2 s.ts.length h.c2, .slice h.a3 s.es.length h.c3] 28)).alloc (.cells #[.int .u8 83, .int .u8 75, .int .u8 84, .int .u8 49] 5 (4, 5)))) := Lib.hid ((Below.refl _ _).alloc (by simp) _)
  have H0 := Lib.hid (And.intro B0 I0)
  have HO0 := Lib.hid O0
  clear B0 I0 O0
  have f0 : IntKind.u8.wrap (s.nm.size : Int) = (s.nm.size : Int) := by have := ok.nm; rw [IntKind.wrap_u8']; omega
  have f1 : IntKind.u8.wrap s.W = s.W := by have := ok.W; rw [IntKind.wrap_u8']; omega
  have f2 : IntKind.u8.wrap s.D = s.D := by have := ok.D; rw [IntKind.wrap_u8']; omega
  have f3 : IntKind.u8.wrap s.R = s.R := by have := ok.R; rw [IntKind.wrap_u8']; omega
  have f4 : IntKind.u8.wrap (s.ks.length : Int) = (s.ks.length : Int) := by have := ok.ksl; rw [IntKind.wrap_u8']; omega
  have nb := ok.nm
  have HOK := Lib.hid ok
  have HG := Lib.hid g
  clear ok g
  go_enter Try.func61, Try.ntmps61
  go_upto_region 2 with (at_builtin; refine wpl_appendF (base := w.heap.size + 1) und_ye info_y [83, 75, 84, 49] [(s.nm.size : Int)] HO0.out (by simp) rfl _ _ rfl rfl rfl (by simp) (by simp) (by simp <;> omega) ?_; intro a1 c1 w1 o1 g1)
  have B1 := Lib.hid (HQ.out.trans g1)
  have B0 := Lib.hid H0.out.1
  have IA := Lib.hid H0.out.2
  have hAs : (w.alloc (.cells #[.string s.nm, .int .i64 s.W, .int .i64 s.D, .int .i64 s.S, .slice h.a0 s.cs.length h.c0, .int .i64 s.R, .slice h.a1 s.ks.length h.c1, .slice h.a2 s.ts.length h.c2, .slice h.a3 s.es.length h.c3] 28)).heap.size = w.heap.size + 1 := by simp
  clear HQ HO0 H0 g1
  generalize (w.alloc (.cells #[.string s.nm, .int .i64 s.W, .int .i64 s.D, .int .i64 s.S, .slice h.a0 s.cs.length h.c0, .int .i64 s.R, .slice h.a1 s.ks.length h.c1, .slice h.a2 s.ts.length h.c2, .slice h.a3 s.es.length h.c3] 28)) = wA at B1 B0 IA hAs
  have hb1 : w.heap.size + 1 ≤ w1.heap.size := by have := B1.out.size; omega
  have I1 := Lib.hid (IA.out.below B1.out (by omega))
  have O1 := Lib.hid o1
  clear o1
  have i0 := I1.out.cell (i := 0) (v := .string s.nm) rfl
  go_upto_region 3 with (at_builtin; refine wpl_appendS (base := w.heap.size + 1) und_ye und_str info_y s.nm O1.out rfl _ _ rfl rfl rfl (by simp <;> omega) hb1 ?_; intro a2 c2 w2 o2 g2)
  clear i0
  obtain ⟨X2, hX2⟩ : ∃ X, ([83, 75, 84, 49] ++ [(s.nm.size : Int)]) ++ bytesI s.nm = X := ⟨_, rfl⟩
  have el2 : 5 + s.nm.size = X2.length := by rw [← hX2]; rw [List.length_append, bytesI_len]; rfl
  rw [hX2] at o2
  rw [el2]
  have B2 := Lib.hid (B1.out.trans (grown_belowOwn O1.out g2 (Nat.le_refl _) hb1))
  have hb2 : w.heap.size + 1 ≤ w2.heap.size := by have := B2.out.size; omega
  have I2 := Lib.hid (IA.out.below B2.out (by omega))
  have O2 := Lib.hid o2
  clear o2 g2 O1 B1 hb1 I1
  have HX2 := Lib.hid hX2
  have l2 : X2.length ≤ 13 := by omega
  clear hX2 el2
  have i1 := I2.out.cell (i := 1) (v := .int .i64 s.W) rfl
  have i2 := I2.out.cell (i := 2) (v := .int .i64 s.D) rfl
  go_upto_region 4 with (at_builtin; refine wpl_appendL (f := Value.int .u8) (d := 0) (base := w.heap.size + 1) und_ye info_y (fun _ => rfl) [s.W, s.D] O2.out rfl _ _ rfl rfl rfl (by simp <;> omega) (by omega) hb2 ?_; intro a3 c3 w3 o3 g3)
  clear i1 i2
  obtain ⟨X3, hX3⟩ : ∃ X, X2 ++ [s.W, s.D] = X := ⟨_, rfl⟩
  have el3 : X2.length + 2 = X3.length := by rw [← hX3]; rw [List.length_append]; rfl
  rw [hX3] at o3
  rw [el3]
  have B3 := Lib.hid (B2.out.trans (grown_belowOwn O2.out g3 (Nat.le_refl _) hb2))
  have hb3 : w.heap.size + 1 ≤ w3.heap.size := by have := B3.out.size; omega
  have I3 := Lib.hid (IA.out.below B3.out (by omega))
  have O3 := Lib.hid o3
  clear o3 g3 O2 B2 hb2 I2
  have HX3 := Lib.hid hX3
  have l3 : X3.length ≤ 15 := by omega
  clear hX3 el3 l2
  have i3 := I3.out.cell (i := 3) (v := .int .i64 s.S) rfl
  go_wp2_with fail
  refine (bytesOf4_any O3.out hb3 (by omega) HOK.out.S).mono ?_
  rintro e w4 ⟨a4, c4, rfl, o4, hc4⟩
  clear i3
  obtain ⟨X4, hX4⟩ : ∃ X, X3 ++ le s.S 4 = X := ⟨_, rfl⟩
  have l4 : X4.length ≤ 19 := by rw [← hX4, List.length_append, le_len]; omega
  rw [hX4] at o4 ⊢
  have B4 := Lib.hid (B3.out.trans hc4)
  have hb4 : w.heap.size + 1 ≤ w4.heap.size := by have := B4.out.size; omega
  have I4 := Lib.hid (IA.out.below B4.out (by omega))
  have O4 := Lib.hid o4
  clear o4 hc4 O3 B3 hb3 I3
  have HH : Hid (X4 = headL s) := Lib.hid (by rw [← hX4, ← HX3.out, ← HX2.out]; rfl)
  clear HX2 HX3 hX4 l3
  have i4 := I4.out.cell (i := 4) (v := .slice h.a0 s.cs.length h.c0) rfl
  have hlc := HG.out.cs.len
  have csl := HOK.out.csl
  have HL : Hid (∀ k, cntL s (k + 1) = cntL s k ++ le (at0 s.cs k) 4) := Lib.hid (fun _ => rfl)
  have HN : Hid (∀ k, (cntL s k).length = 4 * k) := Lib.hid (cntL_len s)
  have H00 : Hid (cntL s 0 = []) := Lib.hid rfl
  obtain ⟨C, hC⟩ : ∃ C, cntL s = C := ⟨_, rfl⟩
  rw [hC] at HL HN H00
  have HC := Lib.hid hC
  clear hC
  go_wp2_with fail
  clear i4
  go_loopw [3, 5, 42] (fun si _ vi wr => ∃ (k : Nat) (a' : Option Addr) (c' : Nat), vi = .int .i64 k ∧ k ≤ s.cs.length ∧ si = .slice a' (X4 ++ C k).length c' ∧ Hid (Own (Value.int .u8) 5 wr (w.heap.size + 1) a' c' (X4 ++ C k) ∧ Below (w.heap.size + 1) wA wr)) (fun _ _ vi _ => s.cs.length - (intOf vi).toNat)
  case atStart => exact ⟨0, a4, c4, rfl, Nat.zero_le _, by rw [H00.out, List.append_nil], Lib.hid ⟨by rw [H00.out, List.append_nil]; exact O4.out, B4.out⟩⟩
  case round =>
    clear O4 B4 I4 hb4
    obtain ⟨k, a', c', rfl, hk, rfl, HI⟩ := hrel
    by_cases hlt : k < s.cs.length
    · have hltz : (k : Int) < (s.cs.length : Int) := by omega
      have ewk : IntKind.i64.wrap ((k : Int) + 1) = (k : Int) + 1 := IntWalk.i64_in _ (by omega)
      have hbw : w.heap.size + 1 ≤ wr.heap.size := by have := HI.out.2.size; omega
      have hr := HG.out.cs.below (B0.out.trans (HI.out.2.mono (by omega))) (Nat.le_refl _)
      have hix := hr.idx und_is siz_is
      have hcx := hr.cell k hlt
      have hx0 := HOK.out.cs k hlt
      have HL1 := Lib.hid (HL.out k)
      have ex : at0 s.cs k = s.cs[k] := by simp [at0, hlt]
      rw [ex] at hx0 HL1
      simp only [List.getElem?_eq_getElem hlt, Option.getD_some] at hcx
      generalize s.cs[k] = x at hx0 HL1 hcx
      have hl : (X4 ++ C k).length ≤ 19 + 1536 := by rw [List.length_append, HN.out]; omega
      obtain ⟨Y, hY⟩ : ∃ Y, X4 ++ C k = Y := ⟨_, rfl⟩
      have HY := Lib.hid hY
      rw [hY] at HI hl ⊢
      clear hY hr ex
      go_wp2_with fail
      refine (bytesOf4_any HI.out.1 hbw (by omega) hx0).mono ?_
      rintro e w5 ⟨a5, c5, rfl, o5, hc5⟩
      have HO5 := Lib.hid o5
      have HB5 := Lib.hid (HI.out.2.trans hc5)
      have he : Hid (Y ++ le x 4 = X4 ++ C (k + 1)) := Lib.hid (by rw [HL1.out, ← HY.out, List.append_assoc])
      rw [he.out] at HO5 ⊢
      obtain ⟨Z, hZ⟩ : ∃ Z, X4 ++ C (k + 1) = Z := ⟨_, rfl⟩
      have HZ := Lib.hid hZ
      rw [hZ]
      clear o5 hc5 hZ
      go_wp2
      go_roundw
      case rel => exact ⟨k + 1, a5, c5, by go_num, by omega, by rw [HZ.out], Lib.hid ⟨HO5.out, HB5.out⟩⟩
      case measure => simp [intOf]; omega
    · obtain rfl : k = s.cs.length := by omega
      have hltz : ¬ (s.cs.length : Int) < (s.cs.length : Int) := by omega
      have IW := Lib.hid (IA.out.below HI.out.2 (by omega))
      have hbw : w.heap.size + 1 ≤ wr.heap.size := by have := HI.out.2.size; omega
      have hl : (X4 ++ C s.cs.length).length ≤ 19 + 1536 := by rw [List.length_append, HN.out]; omega
      obtain ⟨X5, hX5⟩ : ∃ Y, X4 ++ C s.cs.length = Y := ⟨_, rfl⟩
      have HX5 : Hid (X5 = headL s ++ cntL s s.cs.length) := Lib.hid (by rw [← hX5, HH.out, HC.out])
      rw [hX5] at HI hl ⊢
      clear hX5 HL HN H00 HH HC hk hlc
      have i5 := IW.out.cell (i := 5) (v := .int .i64 s.R) rfl
      have i6 := IW.out.cell (i := 6) (v := .slice h.a1 s.ks.length h.c1) rfl
      go_upto_region 11 with (at_builtin; refine wpl_appendL (f := Value.int .u8) (d := 0) (base := w.heap.size + 1) und_ye info_y (fun _ => rfl) [s.R, (s.ks.length : Int)] HI.out.1 rfl _ _ rfl rfl rfl (by simp <;> omega) (by omega) hbw ?_; intro a6 c6 w6 o6 g6)
      obtain ⟨X6, hX6⟩ : ∃ X, X5 ++ [s.R, (s.ks.length : Int)] = X := ⟨_, rfl⟩
      have el6 : X5.length + 2 = X6.length := by rw [← hX6, List.length_append]; rfl
      rw [hX6] at o6
      rw [el6]
      have B6 := Lib.hid (HI.out.2.trans (grown_belowOwn HI.out.1 g6 (Nat.le_refl _) hbw))
      have hb6 : w.heap.size + 1 ≤ w6.heap.size := by have := B6.out.size; omega
      have I6 := Lib.hid (IA.out.below B6.out (by omega))
      have O6 := Lib.hid o6
      have HX6 : Hid (X6 = (headL s ++ cntL s s.cs.length) ++ [s.R, (s.ks.length : Int)]) := Lib.hid (by rw [← hX6, HX5.out])
      have l6 : X6.length ≤ 1600 := by omega
      clear o6 g6 HI hbw IW hX6 el6 HX5 i5 i6 hl
      have hlk := HG.out.ks.len
      have ksl := HOK.out.ksl
      have HL : Hid (∀ k, rowsL s (k + 1) = ((rowsL s k ++ le (at0 s.ks k) 4) ++ le (at0 s.ts k) 4) ++ le (at0 s.es k) 4) := Lib.hid (fun _ => rfl)
      have HN : Hid (∀ k, (rowsL s k).length = 12 * k) := Lib.hid (rowsL_len s)
      have H00 : Hid (rowsL s 0 = []) := Lib.hid rfl
      obtain ⟨R, hR⟩ : ∃ R, rowsL s = R := ⟨_, rfl⟩
      rw [hR] at HL HN H00
      have HRW := Lib.hid hR
      clear hR
      have i6 := I6.out.cell (i := 6) (v := .slice h.a1 s.ks.length h.c1) rfl
      go_wp2_with fail
      clear i6
      go_loopw [3, 6, 7, 66] (fun si _ _ vi wr => ∃ (k : Nat) (a' : Option Addr) (c' : Nat), vi = .int .i64 k ∧ k ≤ s.ks.length ∧ si = .slice a' (X6 ++ R k).length c' ∧ Hid (Own (Value.int .u8) 5 wr (w.heap.size + 1) a' c' (X6 ++ R k) ∧ Below (w.heap.size + 1) wA wr)) (fun _ _ _ vi _ => s.ks.length - (intOf vi).toNat)
      case atStart => exact ⟨0, a6, c6, rfl, Nat.zero_le _, by rw [H00.out, List.append_nil], Lib.hid ⟨by rw [H00.out, List.append_nil]; exact O6.out, B6.out⟩⟩
      case round =>
        clear O6 B6 I6 hb6
        obtain ⟨k, a', c', rfl, hk, rfl, HI⟩ := hrel
        by_cases hlt : k < s.ks.length
        · have hltz : (k : Int) < (s.ks.length : Int) := by omega
          have hltt : k < s.ts.length := by rw [HOK.out.tsl]; exact hlt
          have hlte : k < s.es.length := by rw [HOK.out.esl]; exact hlt
          have ewk : IntKind.i64.wrap ((k : Int) + 1) = (k : Int) + 1 := IntWalk.i64_in _ (by omega)
          have hbw : w.heap.size + 1 ≤ wr.heap.size := by have := HI.out.2.size; omega
          have hx0 := HOK.out.ks k hlt
          have hy0 := HOK.out.ts k hlt
          have hz0 := HOK.out.es k hlt
          have HL1 := Lib.hid (HL.out k)
          have ex : at0 s.ks k = s.ks[k] := by simp [at0, hlt]
          have ey : at0 s.ts k = s.ts[k] := by simp [at0, hltt]
          have ez : at0 s.es k = s.es[k] := by simp [at0, hlte]
          rw [ex] at hx0
          rw [ey] at hy0
          rw [ez] at hz0
          rw [ex, ey, ez] at HL1
          have HKX : Hid (∀ w', Below (w.heap.size + 1) wA w' → Rd (Value.int .i64) w' h.a1 h.c1 s.ks ∧ Rd (Value.int .i64) w' h.a2 h.c2 s.ts ∧ Rd (Value.int .i64) w' h.a3 h.c3 s.es) := Lib.hid (fun w' hb => ⟨HG.out.ks.below (B0.out.trans (hb.mono (by omega))) (Nat.le_refl _), HG.out.ts.below (B0.out.trans (hb.mono (by omega))) (Nat.le_refl _), HG.out.es.below (B0.out.trans (hb.mono (by omega))) (Nat.le_refl _)⟩)
          have hixk := (HKX.out _ HI.out.2).1.idx und_is siz_is
          have hixt := (HKX.out _ HI.out.2).2.1.idx und_is siz_is
          have hixe := (HKX.out _ HI.out.2).2.2.idx und_is siz_is
          have HCX : Hid (∀ w', Below (w.heap.size + 1) wA w' → w'.cell? (elt h.a1 k) = some (.int .i64 s.ks[k]) ∧ w'.cell? (elt h.a2 k) = some (.int .i64 s.ts[k]) ∧ w'.cell? (elt h.a3 k) = some (.int .i64 s.es[k])) := Lib.hid (fun w' hb => by
            have h1 := (HKX.out w' hb).1.cell k hlt
            have h2 := (HKX.out w' hb).2.1.cell k hltt
            have h3 := (HKX.out w' hb).2.2.cell k hlte
            simp only [List.getElem?_eq_getElem hlt, Option.getD_some] at h1
            simp only [List.getElem?_eq_getElem hltt, Option.getD_some] at h2
            simp only [List.getElem?_eq_getElem hlte, Option.getD_some] at h3
            exact ⟨h1, h2, h3⟩)
          generalize s.ks[k] = x at hx0 HL1 HCX
          generalize s.ts[k] = y at hy0 HL1 HCX
          generalize s.es[k] = z at hz0 HL1 HCX
          have hcx := (HCX.out _ HI.out.2).1
          have hl : (X6 ++ R k).length ≤ 1600 + 384 := by rw [List.length_append, HN.out]; omega
          obtain ⟨Y, hY⟩ : ∃ Y, X6 ++ R k = Y := ⟨_, rfl⟩
          have HY := Lib.hid hY
          rw [hY] at HI hl ⊢
          clear hY ex ey ez HKX
          go_wp2_with fail
          refine (bytesOf4_any HI.out.1 hbw (by omega) hx0).mono ?_
          rintro e w7 ⟨a7, c7, rfl, o7, hc7⟩
          have B7 := Lib.hid (HI.out.2.trans hc7)
          have hb7 : w.heap.size + 1 ≤ w7.heap.size := by have := B7.out.size; omega
          have O7 := Lib.hid o7
          have i7 := (IA.out.below B7.out (by omega)).cell (i := 7) (v := .slice h.a2 s.ts.length h.c2) rfl
          have hcy := (HCX.out _ B7.out).2.1
          obtain ⟨Y1, hY1⟩ : ∃ Z, Y ++ le x 4 = Z := ⟨_, rfl⟩
          have hl1 : Y1.length ≤ 1600 + 388 := by rw [← hY1, List.length_append, le_len]; omega
          have HY1 := Lib.hid hY1
          rw [hY1] at O7 ⊢
          clear o7 hc7 HI hY1 hcx hl
          go_wp2_with fail
          refine (bytesOf4_any O7.out hb7 (by omega) hy0).mono ?_
          rintro e w8 ⟨a8, c8, rfl, o8, hc8⟩
          have B8 := Lib.hid (B7.out.trans hc8)
          have hb8 : w.heap.size + 1 ≤ w8.heap.size := by have := B8.out.size; omega
          have O8 := Lib.hid o8
          have i8 := (IA.out.below B8.out (by omega)).cell (i := 8) (v := .slice h.a3 s.es.length h.c3) rfl
          have hcz := (HCX.out _ B8.out).2.2
          obtain ⟨Y2, hY2⟩ : ∃ Z, Y1 ++ le y 4 = Z := ⟨_, rfl⟩
          have hl2 : Y2.length ≤ 1600 + 392 := by rw [← hY2, List.length_append, le_len]; omega
          have HY2 := Lib.hid hY2
          rw [hY2] at O8 ⊢
          clear o8 hc8 O7 B7 hY2 hcy i7 hl1 hb7
          go_wp2_with fail
          refine (bytesOf4_any O8.out hb8 (by omega) hz0).mono ?_
          rintro e w9 ⟨a9, c9, rfl, o9, hc9⟩
          have HB9 := Lib.hid (B8.out.trans hc9)
          have HO9 := Lib.hid o9
          have he : Hid (Y2 ++ le z 4 = X6 ++ R (k + 1)) := Lib.hid (by rw [HL1.out, ← HY2.out, ← HY1.out, ← HY.out]; simp only [List.append_assoc])
          rw [he.out] at HO9 ⊢
          obtain ⟨Z, hZ⟩ : ∃ Z, X6 ++ R (k + 1) = Z := ⟨_, rfl⟩
          have HZ := Lib.hid hZ
          rw [hZ]
          clear o9 hc9 hZ hcz i8 B8 O8 hb8 hl2 hixk hixt hixe
          go_wp2
          go_roundw
          case rel => exact ⟨k + 1, a9, c9, by go_num, by omega, by rw [HZ.out], Lib.hid ⟨HO9.out, HB9.out⟩⟩
          case measure => simp [intOf]; omega
        · obtain rfl : k = s.ks.length := by omega
          have hltz : ¬ (s.ks.length : Int) < (s.ks.length : Int) := by omega
          have hbw : w.heap.size + 1 ≤ wr.heap.size := by have := HI.out.2.size; omega
          have HBD : Hid (X6 ++ R s.ks.length = bodyL s) := Lib.hid (by rw [HX6.out, ← HRW.out]; rfl)
          have hl : (X6 ++ R s.ks.length).length ≤ 1600 + 384 := by rw [List.length_append, HN.out]; omega
          have hl0 : 0 < (X6 ++ R s.ks.length).length := by rw [HBD.out, bodyL_len]; omega
          obtain ⟨Y, hY⟩ : ∃ Y, X6 ++ R s.ks.length = Y := ⟨_, rfl⟩
          rw [hY] at HI hl hl0 HBD ⊢
          have hcv := conv_own HI.out.1 hl0
          have hsz : (strOf Y).size ≤ 9223372036854775807 := by rw [strOf_size]; omega
          have hck := chk_bd (n := 0) (s := strOf Y) (by omega) (strOf Y).size
          have HT : Hid (res = strOf (Y ++ le (chk 0 (strOf Y) (strOf Y).size) 2)) := Lib.hid (by rw [← HRES.out, HBD.out]; rfl)
          have HCK := Lib.hid (fun w' => checkOf_any (n := 0) (s := strOf Y) (w := w') (by omega) hsz)
          obtain ⟨N, hN⟩ : ∃ N, chk 0 (strOf Y) (strOf Y).size = N := ⟨_, rfl⟩
          rw [hN] at hck HT HCK
          generalize strOf Y = st at hcv hsz HCK
          clear hY HBD hN HL HN H00 HRW HX6 hk hlk
          go_wp2_with fail
          refine (HCK.out _).mono ?_
          rintro e w10 ⟨rfl, rfl⟩
          clear hcv
          go_wp2_with fail
          refine (bytesOf2_any HI.out.1 hbw (by omega) (by omega)).mono ?_
          rintro e w11 ⟨a11, c11, rfl, o11, hc11⟩
          have hcv2 := conv_own o11 (by rw [List.length_append]; omega)
          have HB11 := Lib.hid (B0.out.trans ((HI.out.2.trans hc11).mono (by omega)))
          obtain ⟨Z, hZ⟩ : ∃ Z, Y ++ le N 2 = Z := ⟨_, rfl⟩
          rw [hZ] at hcv2 HT ⊢
          clear o11 hc11 HI
          go_wp2
          go_ret
          exact ⟨by rw [HT.out]; rfl, HB11.out⟩

end Go.Proofs.Ytdpolaedfjljmaa
