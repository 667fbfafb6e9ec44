/- The bytes of what is saved, plain. The bytes of what is saved, in the program's text. The bytes of what is saved, in the reference's text. StoreSaved, StoreAll in both texts. -/
import Derived.Test.YtdpolaedfjljmaaQSVF16
import Derived.Test.YtdpolaedfjljmaaQSVF23
import Derived.Test.YtdpolaedfjljmaaQSVF4
namespace Go.Proofs.Ytdpolaedfjljmaa
open Go.RowKit

def savedV (s : Sv) : Bool := savedB s.nm s.W s.D s.S s.cs s.R s.ks s.ts s.es
theorem keys_at {xs : List Int} (h : keysB xs = true) {k : Nat} (hk : k < xs.length) : 0 ≤ at0 xs k ∧ at0 xs k < 4294967296 := by
  unfold keysB at h
  rw [List.all_eq_true] at h
  have e : at0 xs k = xs[k] := by simp [at0, hk]
  rw [e]
  exact isKey_bd (h _ (List.getElem_mem hk))
theorem svOk_of {s : Sv} (h : savedV s = true) : SvOk s := by
  unfold savedV savedB at h
  simp only [Bool.and_eq_true] at h
  obtain ⟨⟨⟨⟨h1, h2⟩, h3⟩, h4⟩, h5⟩ := h
  unfold cellsB at h2
  unfold topsB at h4
  simp only [Bool.and_eq_true, decide_eq_true_eq] at h2 h4
  obtain ⟨⟨⟨⟨w1, d1⟩, s1⟩, l1⟩, c1⟩ := h2
  obtain ⟨⟨⟨⟨⟨⟨r1, l2⟩, l3⟩, l4⟩, ce⟩, kk⟩, df⟩ := h4
  have hp := prod_bd w1 d1
  rw [inR_eq] at w1 d1 r1
  have s2 := isKey_bd s1
  unfold nameB at h1
  simp only [Bool.and_eq_true, decide_eq_true_eq] at h1
  have hts : ∀ k, k < s.ks.length → 0 ≤ at0 s.ts k ∧ at0 s.ts k < 4294967296 := fun k hk => keys_at h5 (by omega)
  refine ⟨h1.1.1, h1.1.2, by omega, by omega, s2, by omega, fun k hk => keys_at h3 hk, by omega, by omega, by omega, by omega, fun k hk => keys_at kk hk, hts, fun k hk => ?_⟩
  unfold ceB at ce
  rw [List.all_eq_true] at ce
  have := ce k (List.mem_range.2 (by omega))
  unfold ceR at this
  rw [Bool.and_eq_true, inR_eq, inR_eq] at this
  have := hts k hk
  omega

end Go.Proofs.Ytdpolaedfjljmaa

namespace Go.Proofs.Ytdpolaedfjljmaa
open Go.RowKit

set_option maxRecDepth 8000 in
set_option maxHeartbeats 4000000 in
theorem store_any {h : SvH} {s : Sv} {w : World} (g : SvRd w h s) (ok : SvOk s) :
    Calls Try.prog 61 #[.agg #[.string s.nm, .int .i64 s.W, .int .i64 s.D, .int .i64 s.S, .slice h.a0 s.cs.length h.c0, .int .i64 s.R, .slice h.a1 s.ks.length h.c1, .slice h.a2 s.ts.length h.c2, .slice h.a3 s.es.length h.c3]] w fun e w' => e = .returned (.string (storeT s)) ∧ Below w.heap.size w w' := by
  obtain ⟨res, hres⟩ : ∃ r, storeT s = r := ⟨_, rfl⟩
  rw [hres]
  have HRES := Lib.hid hres
  clear hres
  have B0 : Below w.heap.size w (w.alloc (.cells #[.string s.nm, .int .i64 s.W, .int .i64 s.D, .int .i64 s.S, .slice h.a0 s.cs.length h.c0, .int .i64 s.R, .slice h.a1 s.ks.length h.c1, .slice h.a2 s.ts.length h.c2, .slice h.a3 s.es.length h.c3] 28)) := (Below.refl _ _).alloc (Nat.le_refl _) _
  have I0 : Blk (w.alloc (.cells #[.string s.nm, .int .i64 s.W, .int .i64 s.D, .int .i64 s.S, .slice h.a0 s.cs.length h.c0, .int .i64 s.R, .slice h.a1 s.ks.length h.c1, .slice h.a2 s.ts.length h.c2, .slice h.a3 s.es.length h.c3] 28)) w.heap.size #[.string s.nm, .int .i64 s.W, .int .i64 s.D, .int .i64 s.S, .slice h.a0 s.cs.length h.c0, .int .i64 s.R, .slice h.a1 s.ks.length h.c1, .slice h.a2 s.ts.length h.c2, .slice h.a3 s.es.length h.c3] 28 := Blk.new _ _ _
  have hcv0 : (convert 43 43 (.slice (some ⟨w.heap.size + 1, 0, none⟩) 4 4)).run Try.prog ((w.alloc (.cells #[.string s.nm, .int .i64 s.W, .int .i64 s.D, .int .i64 s.S, .slice h.a0 s.cs.length h.c0, .int .i64 s.R, .slice h.a1 s.ks.length h.c1, .slice h.a2 s.ts.length h.c2, .slice h.a3 s.es.length h.c3] 28)).alloc (.cells #[.int .u8 83, .int .u8 75, .int .u8 84, .int .u8 49] 5)) = .ok (.slice (some ⟨w.heap.size + 1, 0, none⟩) 4 4) ((w.alloc (.cells #[.string s.nm, .int .i64 s.W, .int .i64 s.D, .int .i64 s.S, .slice h.a0 s.cs.length h.c0, .int .i64 s.R, .slice h.a1 s.ks.length h.c1, .slice h.a2 s.ts.length h.c2, .slice h.a3 s.es.length h.c3] 28)).alloc (.cells #[.int .u8 83, .int .u8 75, .int .u8 84, .int .u8 49] 5 (4, 5))) := by
    have := Lib.run_convert_bytes_const (P := Try.prog) (w.alloc (.cells #[.string s.nm, .int .i64 s.W, .int .i64 s.D, .int .i64 s.S, .slice h.a0 s.cs.length h.c0, .int .i64 s.R, .slice h.a1 s.ks.length h.c1, .slice h.a2 s.ts.length h.c2, .slice h.a3 s.es.length h.c3] 28)) 43 5 #[.int .u8 83, .int .u8 75, .int .u8 84, .int .u8 49] 4 4 und_ye und_y1
    simpa using this
  have O0 : ((w.alloc (.cells #[.string s.nm, .int .i64 s.W, .int .i64 s.D, .int .i64 s.S, .slice h.a0 s.cs.length h.c0, .int .i64 s.R, .slice h.a1 s.ks.length h.c1, .slice h.a2 s.ts.length h.c2, .slice h.a3 s.es.length h.c3] 28)).alloc (.cells #[.int .u8 83, .int .u8 75, .int .u8 84, .int .u8 49] 5 (4, 5))).heap[w.heap.size + 1]? = some (.cells (([83, 75, 84, 49] : List Int).map (Value.int .u8)).toArray 5 (4, 5)) := by
    have := heap_alloc_new (w.alloc (.cells #[.string s.nm, .int .i64 s.W, .int .i64 s.D, .int .i64 s.S, .slice h.a0 s.cs.length h.c0, .int .i64 s.R, .slice h.a1 s.ks.length h.c1, .slice h.a2 s.ts.length h.c2, .slice h.a3 s.es.length h.c3] 28)) (.cells #[.int .u8 83, .int .u8 75, .int .u8 84, .int .u8 49] 5 (4, 5))
    simpa using this
  have HQ : Hid (Below (w.heap.size + 1) (w.alloc (.cells #[.string s.nm, .int .i64 s.W, .int .i64 s.D, .int .i64 s.S, .slice h.a0 s.cs.length h.c0, .int .i64 s.R, .slice h.a1 s.ks.length h.c1, .slice h.a2 s.ts.length h.c2, .slice h.a3 s.es.length h.c3] 28)) ((w.alloc (.cells #[.string s.nm, .int .i64 s.W, .int .i64 s.D, .int .i64 s.S, .slice h.a0 s.cs.length h.c0, .int .i64 s.R, .slice h.a1 s.ks.length h.c1, .slice h.a2 s.ts.length h.c2, .slice h.a3 s.es.length h.c3] 28)).alloc (.cells #[.int .u8 83, .int .u8 75, .int .u8 84, .int .u8 49] 5 (4, 5)))) := Lib.hid ((Below.refl _ _).alloc (by simp) _)
  have H0 := Lib.hid (And.intro B0 I0)
  have HO0 := Lib.hid O0
  clear B0 I0 O0
  have f0 : IntKind.u8.wrap (s.nm.size : Int) = (s.nm.size : Int) := by have := ok.nm; rw [IntKind.wrap_u8']; omega
  have f1 : IntKind.u8.wrap s.W = s.W := by have := ok.W; rw [IntKind.wrap_u8']; omega
  have f2 : IntKind.u8.wrap s.D = s.D := by have := ok.D; rw [IntKind.wrap_u8']; omega
  have f3 : IntKind.u8.wrap s.R = s.R := by have := ok.R; rw [IntKind.wrap_u8']; omega
  have f4 : IntKind.u8.wrap (s.ks.length : Int) = (s.ks.length : Int) := by have := ok.ksl; rw [IntKind.wrap_u8']; omega
  have nb := ok.nm
  have HOK := Lib.hid ok
  have HG := Lib.hid g
  clear ok g
  go_enter Try.func61, Try.ntmps61
  go_upto_region 2 with (at_builtin; refine wpl_appendF (base := w.heap.size + 1) und_ye info_y [83, 75, 84, 49] [(s.nm.size : Int)] HO0.out (by simp) rfl _ _ rfl rfl rfl (by simp) (by simp) (by simp <;> omega) ?_; intro a1 c1 w1 o1 g1)
  have B1 := Lib.hid (HQ.out.trans g1)
  have B0 := Lib.hid H0.out.1
  have IA := Lib.hid H0.out.2
  have hAs : (w.alloc (.cells #[.string s.nm, .int .i64 s.W, .int .i64 s.D, .int .i64 s.S, .slice h.a0 s.cs.length h.c0, .int .i64 s.R, .slice h.a1 s.ks.length h.c1, .slice h.a2 s.ts.length h.c2, .slice h.a3 s.es.length h.c3] 28)).heap.size = w.heap.size + 1 := by simp
  clear HQ HO0 H0 g1
  generalize (w.alloc (.cells #[.string s.nm, .int .i64 s.W, .int .i64 s.D, .int .i64 s.S, .slice h.a0 s.cs.length h.c0, .int .i64 s.R, .slice h.a1 s.ks.length h.c1, .slice h.a2 s.ts.length h.c2, .slice h.a3 s.es.length h.c3] 28)) = wA at B1 B0 IA hAs
  have hb1 : w.heap.size + 1 ≤ w1.heap.size := by have := B1.out.size; omega
  have I1 := Lib.hid (IA.out.below B1.out (by omega))
  have O1 := Lib.hid o1
  clear o1
  have i0 := I1.out.cell (i := 0) (v := .string s.nm) rfl
  go_upto_region 3 with (at_builtin; refine wpl_appendS (base := w.heap.size + 1) und_ye und_str info_y s.nm O1.out rfl _ _ rfl rfl rfl (by simp <;> omega) hb1 ?_; intro a2 c2 w2 o2 g2)
  clear i0
  obtain ⟨X2, hX2⟩ : ∃ X, ([83, 75, 84, 49] ++ [(s.nm.size : Int)]) ++ bytesI s.nm = X := ⟨_, rfl⟩
  have el2 : 5 + s.nm.size = X2.length := by rw [← hX2]; rw [List.length_append, bytesI_len]; rfl
  rw [hX2] at o2
  rw [el2]
  have B2 := Lib.hid (B1.out.trans (grown_belowOwn O1.out g2 (Nat.le_refl _) hb1))
  have hb2 : w.heap.size + 1 ≤ w2.heap.size := by have := B2.out.size; omega
  have I2 := Lib.hid (IA.out.below B2.out (by omega))
  have O2 := Lib.hid o2
  clear o2 g2 O1 B1 hb1 I1
  have HX2 := Lib.hid hX2
  have l2 : X2.length ≤ 13 := by omega
  clear hX2 el2
  have i1 := I2.out.cell (i := 1) (v := .int .i64 s.W) rfl
  have i2 := I2.out.cell (i := 2) (v := .int .i64 s.D) rfl
  go_upto_region 4 with (at_builtin; refine wpl_appendL (f := Value.int .u8) (d := 0) (base := w.heap.size + 1) und_ye info_y (fun _ => rfl) [s.W, s.D] O2.out rfl _ _ rfl rfl rfl (by simp <;> omega) (by omega) hb2 ?_; intro a3 c3 w3 o3 g3)
  clear i1 i2
  obtain ⟨X3, hX3⟩ : ∃ X, X2 ++ [s.W, s.D] = X := ⟨_, rfl⟩
  have el3 : X2.length + 2 = X3.length := by rw [← hX3]; rw [List.length_append]; rfl
  rw [hX3] at o3
  rw [el3]
  have B3 := Lib.hid (B2.out.trans (grown_belowOwn O2.out g3 (Nat.le_refl _) hb2))
  have hb3 : w.heap.size + 1 ≤ w3.heap.size := by have := B3.out.size; omega
  have I3 := Lib.hid (IA.out.below B3.out (by omega))
  have O3 := Lib.hid o3
  clear o3 g3 O2 B2 hb2 I2
  have HX3 := Lib.hid hX3
  have l3 : X3.length ≤ 15 := by omega
  clear hX3 el3 l2
  have i3 := I3.out.cell (i := 3) (v := .int .i64 s.S) rfl
  go_wp2_with fail
  refine (bytesOf4_any O3.out hb3 (by omega) HOK.out.S).mono ?_
  rintro e w4 ⟨a4, c4, rfl, o4, hc4⟩
  clear i3
  obtain ⟨X4, hX4⟩ : ∃ X, X3 ++ le s.S 4 = X := ⟨_, rfl⟩
  have l4 : X4.length ≤ 19 := by rw [← hX4, List.length_append, le_len]; omega
  rw [hX4] at o4 ⊢
  have B4 := Lib.hid (B3.out.trans hc4)
  have hb4 : w.heap.size + 1 ≤ w4.heap.size := by have := B4.out.size; omega
  have I4 := Lib.hid (IA.out.below B4.out (by omega))
  have O4 := Lib.hid o4
  clear o4 hc4 O3 B3 hb3 I3
  have HH : Hid (X4 = headL s) := Lib.hid (by rw [← hX4, ← HX3.out, ← HX2.out]; rfl)
  clear HX2 HX3 hX4 l3
  have i4 := I4.out.cell (i := 4) (v := .slice h.a0 s.cs.length h.c0) rfl
  have hlc := HG.out.cs.len
  have csl := HOK.out.csl
  have HL : Hid (∀ k, cntL s (k + 1) = cntL s k ++ le (at0 s.cs k) 4) := Lib.hid (fun _ => rfl)
  have HN : Hid (∀ k, (cntL s k).length = 4 * k) := Lib.hid (cntL_len s)
  have H00 : Hid (cntL s 0 = []) := Lib.hid rfl
  obtain ⟨C, hC⟩ : ∃ C, cntL s = C := ⟨_, rfl⟩
  rw [hC] at HL HN H00
  have HC := Lib.hid hC
  clear hC
  go_wp2_with fail
  clear i4
  go_loopw [3, 5, 42] (fun si _ vi wr => ∃ (k : Nat) (a' : Option Addr) (c' : Nat), vi = .int .i64 k ∧ k ≤ s.cs.length ∧ si = .slice a' (X4 ++ C k).length c' ∧ Hid (Own (Value.int .u8) 5 wr (w.heap.size + 1) a' c' (X4 ++ C k) ∧ Below (w.heap.size + 1) wA wr)) (fun _ _ vi _ => s.cs.length - (intOf vi).toNat)
  case atStart => exact ⟨0, a4, c4, rfl, Nat.zero_le _, by rw [H00.out, List.append_nil], Lib.hid ⟨by rw [H00.out, List.append_nil]; exact O4.out, B4.out⟩⟩
  case round =>
    clear O4 B4 I4 hb4
    obtain ⟨k, a', c', rfl, hk, rfl, HI⟩ := hrel
    by_cases hlt : k < s.cs.length
    · have hltz : (k : Int) < (s.cs.length : Int) := by omega
      have ewk : IntKind.i64.wrap ((k : Int) + 1) = (k : Int) + 1 := IntWalk.i64_in _ (by omega)
      have hbw : w.heap.size + 1 ≤ wr.heap.size := by have := HI.out.2.size; omega
      have hr := HG.out.cs.below (B0.out.trans (HI.out.2.mono (by omega))) (Nat.le_refl _)
      have hix := hr.idx und_is siz_is
      have hcx := hr.cell k hlt
      have hx0 := HOK.out.cs k hlt
      have HL1 := Lib.hid (HL.out k)
      have ex : at0 s.cs k = s.cs[k] := by simp [at0, hlt]
      rw [ex] at hx0 HL1
      simp only [List.getElem?_eq_getElem hlt, Option.getD_some] at hcx
      generalize s.cs[k] = x at hx0 HL1 hcx
      have hl : (X4 ++ C k).length ≤ 19 + 1536 := by rw [List.length_append, HN.out]; omega
      obtain ⟨Y, hY⟩ : ∃ Y, X4 ++ C k = Y := ⟨_, rfl⟩
      have HY := Lib.hid hY
      rw [hY] at HI hl ⊢
      clear hY hr ex
      go_wp2_with fail
      refine (bytesOf4_any HI.out.1 hbw (by omega) hx0).mono ?_
      rintro e w5 ⟨a5, c5, rfl, o5, hc5⟩
      have HO5 := Lib.hid o5
      have HB5 := Lib.hid (HI.out.2.trans hc5)
      have he : Hid (Y ++ le x 4 = X4 ++ C (k + 1)) := Lib.hid (by rw [HL1.out, ← HY.out, List.append_assoc])
      rw [he.out] at HO5 ⊢
      obtain ⟨Z, hZ⟩ : ∃ Z, X4 ++ C (k + 1) = Z := ⟨_, rfl⟩
      have HZ := Lib.hid hZ
      rw [hZ]
      clear o5 hc5 hZ
      go_wp2
      go_roundw
      case rel => exact ⟨k + 1, a5, c5, by go_num, by omega, by rw [HZ.out], Lib.hid ⟨HO5.out, HB5.out⟩⟩
      case measure => simp [intOf]; omega
    · obtain rfl : k = s.cs.length := by omega
      have hltz : ¬ (s.cs.length : Int) < (s.cs.length : Int) := by omega
      have IW := Lib.hid (IA.out.below HI.out.2 (by omega))
      have hbw : w.heap.size + 1 ≤ wr.heap.size := by have := HI.out.2.size; omega
      have hl : (X4 ++ C s.cs.length).length ≤ 19 + 1536 := by rw [List.length_append, HN.out]; omega
      obtain ⟨X5, hX5⟩ : ∃ Y, X4 ++ C s.cs.length = Y := ⟨_, rfl⟩
      have HX5 : Hid (X5 = headL s ++ cntL s s.cs.length) := Lib.hid (by rw [← hX5, HH.out, HC.out])
      rw [hX5] at HI hl ⊢
      clear hX5 HL HN H00 HH HC hk hlc
      have i5 := IW.out.cell (i := 5) (v := .int .i64 s.R) rfl
      have i6 := IW.out.cell (i := 6) (v := .slice h.a1 s.ks.length h.c1) rfl
      go_upto_region 11 with (at_builtin; refine wpl_appendL (f := Value.int .u8) (d := 0) (base := w.heap.size + 1) und_ye info_y (fun _ => rfl) [s.R, (s.ks.length : Int)] HI.out.1 rfl _ _ rfl rfl rfl (by simp <;> omega) (by omega) hbw ?_; intro a6 c6 w6 o6 g6)
      obtain ⟨X6, hX6⟩ : ∃ X, X5 ++ [s.R, (s.ks.length : Int)] = X := ⟨_, rfl⟩
      have el6 : X5.length + 2 = X6.length := by rw [← hX6, List.length_append]; rfl
      rw [hX6] at o6
      rw [el6]
      have B6 := Lib.hid (HI.out.2.trans (grown_belowOwn HI.out.1 g6 (Nat.le_refl _) hbw))
      have hb6 : w.heap.size + 1 ≤ w6.heap.size := by have := B6.out.size; omega
      have I6 := Lib.hid (IA.out.below B6.out (by omega))
      have O6 := Lib.hid o6
      have HX6 : Hid (X6 = (headL s ++ cntL s s.cs.length) ++ [s.R, (s.ks.length : Int)]) := Lib.hid (by rw [← hX6, HX5.out])
      have l6 : X6.length ≤ 1600 := by omega
      clear o6 g6 HI hbw IW hX6 el6 HX5 i5 i6 hl
      have hlk := HG.out.ks.len
      have ksl := HOK.out.ksl
      have HL : Hid (∀ k, rowsL s (k + 1) = ((rowsL s k ++ le (at0 s.ks k) 4) ++ le (at0 s.ts k) 4) ++ le (at0 s.es k) 4) := Lib.hid (fun _ => rfl)
      have HN : Hid (∀ k, (rowsL s k).length = 12 * k) := Lib.hid (rowsL_len s)
      have H00 : Hid (rowsL s 0 = []) := Lib.hid rfl
      obtain ⟨R, hR⟩ : ∃ R, rowsL s = R := ⟨_, rfl⟩
      rw [hR] at HL HN H00
      have HRW := Lib.hid hR
      clear hR
      have i6 := I6.out.cell (i := 6) (v := .slice h.a1 s.ks.length h.c1) rfl
      go_wp2_with fail
      clear i6
      go_loopw [3, 6, 7, 66] (fun si _ _ vi wr => ∃ (k : Nat) (a' : Option Addr) (c' : Nat), vi = .int .i64 k ∧ k ≤ s.ks.length ∧ si = .slice a' (X6 ++ R k).length c' ∧ Hid (Own (Value.int .u8) 5 wr (w.heap.size + 1) a' c' (X6 ++ R k) ∧ Below (w.heap.size + 1) wA wr)) (fun _ _ _ vi _ => s.ks.length - (intOf vi).toNat)
      case atStart => exact ⟨0, a6, c6, rfl, Nat.zero_le _, by rw [H00.out, List.append_nil], Lib.hid ⟨by rw [H00.out, List.append_nil]; exact O6.out, B6.out⟩⟩
      case round =>
        clear O6 B6 I6 hb6
        obtain ⟨k, a', c', rfl, hk, rfl, HI⟩ := hrel
        by_cases hlt : k < s.ks.length
        · have hltz : (k : Int) < (s.ks.length : Int) := by omega
          have hltt : k < s.ts.length := by rw [HOK.out.tsl]; exact hlt
          have hlte : k < s.es.length := by rw [HOK.out.esl]; exact hlt
          have ewk : IntKind.i64.wrap ((k : Int) + 1) = (k : Int) + 1 := IntWalk.i64_in _ (by omega)
          have hbw : w.heap.size + 1 ≤ wr.heap.size := by have := HI.out.2.size; omega
          have hx0 := HOK.out.ks k hlt
          have hy0 := HOK.out.ts k hlt
          have hz0 := HOK.out.es k hlt
          have HL1 := Lib.hid (HL.out k)
          have ex : at0 s.ks k = s.ks[k] := by simp [at0, hlt]
          have ey : at0 s.ts k = s.ts[k] := by simp [at0, hltt]
          have ez : at0 s.es k = s.es[k] := by simp [at0, hlte]
          rw [ex] at hx0
          rw [ey] at hy0
          rw [ez] at hz0
          rw [ex, ey, ez] at HL1
          have HKX : Hid (∀ w', Below (w.heap.size + 1) wA w' → Rd (Value.int .i64) w' h.a1 h.c1 s.ks ∧ Rd (Value.int .i64) w' h.a2 h.c2 s.ts ∧ Rd (Value.int .i64) w' h.a3 h.c3 s.es) := Lib.hid (fun w' hb => ⟨HG.out.ks.below (B0.out.trans (hb.mono (by omega))) (Nat.le_refl _), HG.out.ts.below (B0.out.trans (hb.mono (by omega))) (Nat.le_refl _), HG.out.es.below (B0.out.trans (hb.mono (by omega))) (Nat.le_refl _)⟩)
          have hixk := (HKX.out _ HI.out.2).1.idx und_is siz_is
          have hixt := (HKX.out _ HI.out.2).2.1.idx und_is siz_is
          have hixe := (HKX.out _ HI.out.2).2.2.idx und_is siz_is
          have HCX : Hid (∀ w', Below (w.heap.size + 1) wA w' → w'.cell? (elt h.a1 k) = some (.int .i64 s.ks[k]) ∧ w'.cell? (elt h.a2 k) = some (.int .i64 s.ts[k]) ∧ w'.cell? (elt h.a3 k) = some (.int .i64 s.es[k])) := Lib.hid (fun w' hb => by
            have h1 := (HKX.out w' hb).1.cell k hlt
            have h2 := (HKX.out w' hb).2.1.cell k hltt
            have h3 := (HKX.out w' hb).2.2.cell k hlte
            simp only [List.getElem?_eq_getElem hlt, Option.getD_some] at h1
            simp only [List.getElem?_eq_getElem hltt, Option.getD_some] at h2
            simp only [List.getElem?_eq_getElem hlte, Option.getD_some] at h3
            exact ⟨h1, h2, h3⟩)
          generalize s.ks[k] = x at hx0 HL1 HCX
          generalize s.ts[k] = y at hy0 HL1 HCX
          generalize s.es[k] = z at hz0 HL1 HCX
          have hcx := (HCX.out _ HI.out.2).1
          have hl : (X6 ++ R k).length ≤ 1600 + 384 := by rw [List.length_append, HN.out]; omega
          obtain ⟨Y, hY⟩ : ∃ Y, X6 ++ R k = Y := ⟨_, rfl⟩
          have HY := Lib.hid hY
          rw [hY] at HI hl ⊢
          clear hY ex ey ez HKX
          go_wp2_with fail
          refine (bytesOf4_any HI.out.1 hbw (by omega) hx0).mono ?_
          rintro e w7 ⟨a7, c7, rfl, o7, hc7⟩
          have B7 := Lib.hid (HI.out.2.trans hc7)
          have hb7 : w.heap.size + 1 ≤ w7.heap.size := by have := B7.out.size; omega
          have O7 := Lib.hid o7
          have i7 := (IA.out.below B7.out (by omega)).cell (i := 7) (v := .slice h.a2 s.ts.length h.c2) rfl
          have hcy := (HCX.out _ B7.out).2.1
          obtain ⟨Y1, hY1⟩ : ∃ Z, Y ++ le x 4 = Z := ⟨_, rfl⟩
          have hl1 : Y1.length ≤ 1600 + 388 := by rw [← hY1, List.length_append, le_len]; omega
          have HY1 := Lib.hid hY1
          rw [hY1] at O7 ⊢
          clear o7 hc7 HI hY1 hcx hl
          go_wp2_with fail
          refine (bytesOf4_any O7.out hb7 (by omega) hy0).mono ?_
          rintro e w8 ⟨a8, c8, rfl, o8, hc8⟩
          have B8 := Lib.hid (B7.out.trans hc8)
          have hb8 : w.heap.size + 1 ≤ w8.heap.size := by have := B8.out.size; omega
          have O8 := Lib.hid o8
          have i8 := (IA.out.below B8.out (by omega)).cell (i := 8) (v := .slice h.a3 s.es.length h.c3) rfl
          have hcz := (HCX.out _ B8.out).2.2
          obtain ⟨Y2, hY2⟩ : ∃ Z, Y1 ++ le y 4 = Z := ⟨_, rfl⟩
          have hl2 : Y2.length ≤ 1600 + 392 := by rw [← hY2, List.length_append, le_len]; omega
          have HY2 := Lib.hid hY2
          rw [hY2] at O8 ⊢
          clear o8 hc8 O7 B7 hY2 hcy i7 hl1 hb7
          go_wp2_with fail
          refine (bytesOf4_any O8.out hb8 (by omega) hz0).mono ?_
          rintro e w9 ⟨a9, c9, rfl, o9, hc9⟩
          have HB9 := Lib.hid (B8.out.trans hc9)
          have HO9 := Lib.hid o9
          have he : Hid (Y2 ++ le z 4 = X6 ++ R (k + 1)) := Lib.hid (by rw [HL1.out, ← HY2.out, ← HY1.out, ← HY.out]; simp only [List.append_assoc])
          rw [he.out] at HO9 ⊢
          obtain ⟨Z, hZ⟩ : ∃ Z, X6 ++ R (k + 1) = Z := ⟨_, rfl⟩
          have HZ := Lib.hid hZ
          rw [hZ]
          clear o9 hc9 hZ hcz i8 B8 O8 hb8 hl2 hixk hixt hixe
          go_wp2
          go_roundw
          case rel => exact ⟨k + 1, a9, c9, by go_num, by omega, by rw [HZ.out], Lib.hid ⟨HO9.out, HB9.out⟩⟩
          case measure => simp [intOf]; omega
        · obtain rfl : k = s.ks.length := by omega
          have hltz : ¬ (s.ks.length : Int) < (s.ks.length : Int) := by omega
          have hbw : w.heap.size + 1 ≤ wr.heap.size := by have := HI.out.2.size; omega
          have HBD : Hid (X6 ++ R s.ks.length = bodyL s) := Lib.hid (by rw [HX6.out, ← HRW.out]; rfl)
          have hl : (X6 ++ R s.ks.length).length ≤ 1600 + 384 := by rw [List.length_append, HN.out]; omega
          have hl0 : 0 < (X6 ++ R s.ks.length).length := by rw [HBD.out, bodyL_len]; omega
          obtain ⟨Y, hY⟩ : ∃ Y, X6 ++ R s.ks.length = Y := ⟨_, rfl⟩
          rw [hY] at HI hl hl0 HBD ⊢
          have hcv := conv_own HI.out.1 hl0
          have hsz : (strOf Y).size ≤ 9223372036854775807 := by rw [strOf_size]; omega
          have hck := chk_bd (n := 0) (s := strOf Y) (by omega) (strOf Y).size
          have HT : Hid (res = strOf (Y ++ le (chk 0 (strOf Y) (strOf Y).size) 2)) := Lib.hid (by rw [← HRES.out, HBD.out]; rfl)
          have HCK := Lib.hid (fun w' => checkOf_any (n := 0) (s := strOf Y) (w := w') (by omega) hsz)
          obtain ⟨N, hN⟩ : ∃ N, chk 0 (strOf Y) (strOf Y).size = N := ⟨_, rfl⟩
          rw [hN] at hck HT HCK
          generalize strOf Y = st at hcv hsz HCK
          clear hY HBD hN HL HN H00 HRW HX6 hk hlk
          go_wp2_with fail
          refine (HCK.out _).mono ?_
          rintro e w10 ⟨rfl, rfl⟩
          clear hcv
          go_wp2_with fail
          refine (bytesOf2_any HI.out.1 hbw (by omega) (by omega)).mono ?_
          rintro e w11 ⟨a11, c11, rfl, o11, hc11⟩
          have hcv2 := conv_own o11 (by rw [List.length_append]; omega)
          have HB11 := Lib.hid (B0.out.trans ((HI.out.2.trans hc11).mono (by omega)))
          obtain ⟨Z, hZ⟩ : ∃ Z, Y ++ le N 2 = Z := ⟨_, rfl⟩
          rw [hZ] at hcv2 HT ⊢
          clear o11 hc11 HI
          go_wp2
          go_ret
          exact ⟨by rw [HT.out]; rfl, HB11.out⟩

end Go.Proofs.Ytdpolaedfjljmaa

namespace Go.Proofs.Ytdpolaedfjljmaa
open Go.RowKit

set_option maxRecDepth 8000 in
set_option maxHeartbeats 8000000 in
theorem l07Store_any {b0 o : Nat} {h : SvH} {s : Sv} {w : World} (g : SvRd w h s) (ok : SvOk s) (d0 : w.cell? ⟨b0, o, none⟩ = some (.string s.nm)) (d1 : w.cell? ⟨b0, o + 1, none⟩ = some (.int .i64 s.W)) (d2 : w.cell? ⟨b0, o + 2, none⟩ = some (.int .i64 s.D)) (d3 : w.cell? ⟨b0, o + 3, none⟩ = some (.int .i64 s.S)) (d4 : w.cell? ⟨b0, o + 4, none⟩ = some (.slice h.a0 s.cs.length h.c0)) (d5 : w.cell? ⟨b0, o + 5, none⟩ = some (.int .i64 s.R)) (d6 : w.cell? ⟨b0, o + 6, none⟩ = some (.slice h.a1 s.ks.length h.c1)) (d7 : w.cell? ⟨b0, o + 7, none⟩ = some (.slice h.a2 s.ts.length h.c2)) (d8 : w.cell? ⟨b0, o + 8, none⟩ = some (.slice h.a3 s.es.length h.c3)) :
    Calls Try.prog 63 #[.pointer (some ⟨b0, o, none⟩)] w fun e w' => e = .returned (.string (storeT s)) ∧ Below w.heap.size w w' := by
  obtain ⟨res, hres⟩ : ∃ r, storeT s = r := ⟨_, rfl⟩
  rw [hres]
  have HRES := Lib.hid hres
  clear hres
  have hcv0 : (convert 43 43 (.slice (some ⟨w.heap.size, 0, none⟩) 4 4)).run Try.prog (w.alloc (.cells #[.int .u8 83, .int .u8 75, .int .u8 84, .int .u8 49] 5)) = .ok (.slice (some ⟨w.heap.size, 0, none⟩) 4 4) (w.alloc (.cells #[.int .u8 83, .int .u8 75, .int .u8 84, .int .u8 49] 5 (4, 5))) := Lib.run_convert_bytes_const (P := Try.prog) w 43 5 #[.int .u8 83, .int .u8 75, .int .u8 84, .int .u8 49] 4 4 und_ye und_y1
  have O0 : (w.alloc (.cells #[.int .u8 83, .int .u8 75, .int .u8 84, .int .u8 49] 5 (4, 5))).heap[w.heap.size]? = some (.cells (([83, 75, 84, 49] : List Int).map (Value.int .u8)).toArray 5 (4, 5)) := heap_alloc_new w _
  have HQ : Hid (Below w.heap.size w (w.alloc (.cells #[.int .u8 83, .int .u8 75, .int .u8 84, .int .u8 49] 5 (4, 5)))) := Lib.hid ((Below.refl _ _).alloc (Nat.le_refl _) _)
  have HO0 := Lib.hid O0
  clear O0
  have HD : Hid (∀ w', Below w.heap.size w w' → w'.cell? ⟨b0, o, none⟩ = some (.string s.nm) ∧ w'.cell? ⟨b0, o + 1, none⟩ = some (.int .i64 s.W) ∧ w'.cell? ⟨b0, o + 2, none⟩ = some (.int .i64 s.D) ∧ w'.cell? ⟨b0, o + 3, none⟩ = some (.int .i64 s.S) ∧ w'.cell? ⟨b0, o + 4, none⟩ = some (.slice h.a0 s.cs.length h.c0) ∧ w'.cell? ⟨b0, o + 5, none⟩ = some (.int .i64 s.R) ∧ w'.cell? ⟨b0, o + 6, none⟩ = some (.slice h.a1 s.ks.length h.c1) ∧ w'.cell? ⟨b0, o + 7, none⟩ = some (.slice h.a2 s.ts.length h.c2) ∧ w'.cell? ⟨b0, o + 8, none⟩ = some (.slice h.a3 s.es.length h.c3)) := Lib.hid (fun w' hb => ⟨k_below hb (Nat.le_refl _) d0, k_below hb (Nat.le_refl _) d1, k_below hb (Nat.le_refl _) d2, k_below hb (Nat.le_refl _) d3, k_below hb (Nat.le_refl _) d4, k_below hb (Nat.le_refl _) d5, k_below hb (Nat.le_refl _) d6, k_below hb (Nat.le_refl _) d7, k_below hb (Nat.le_refl _) d8⟩)
  have k0 : (w.alloc (.cells #[.int .u8 83, .int .u8 75, .int .u8 84, .int .u8 49] 5)).cell? ⟨b0, o, none⟩ = some (.string s.nm) := k_below ((Below.refl w.heap.size w).alloc (Nat.le_refl _) _) (Nat.le_refl _) d0
  have k0' : (w.alloc (.cells #[.int .u8 83, .int .u8 75, .int .u8 84, .int .u8 49] 5 (4, 5))).cell? ⟨b0, o, none⟩ = some (.string s.nm) := k_below ((Below.refl w.heap.size w).alloc (Nat.le_refl _) _) (Nat.le_refl _) d0
  have f0 : IntKind.u8.wrap (s.nm.size : Int) = (s.nm.size : Int) := by have := ok.nm; rw [IntKind.wrap_u8']; omega
  have f1 : IntKind.u8.wrap s.W = s.W := by have := ok.W; rw [IntKind.wrap_u8']; omega
  have f2 : IntKind.u8.wrap s.D = s.D := by have := ok.D; rw [IntKind.wrap_u8']; omega
  have f3 : IntKind.u8.wrap s.R = s.R := by have := ok.R; rw [IntKind.wrap_u8']; omega
  have f4 : IntKind.u8.wrap (s.ks.length : Int) = (s.ks.length : Int) := by have := ok.ksl; rw [IntKind.wrap_u8']; omega
  have nb := ok.nm
  have HOK := Lib.hid ok
  have HG := Lib.hid g
  clear ok g d1 d2 d3 d4 d5 d6 d7 d8
  go_enter Try.func63, Try.ntmps63
  go_upto_region 2 with (at_builtin; refine wpl_appendF (base := w.heap.size) und_ye info_y [83, 75, 84, 49] [(s.nm.size : Int)] HO0.out (by simp) rfl _ _ rfl rfl rfl (by simp) (by simp) (by simp) ?_; intro a1 c1 w1 o1 g1)
  have B1 := Lib.hid (HQ.out.trans g1)
  have hb1 : w.heap.size ≤ w1.heap.size := B1.out.size
  have O1 := Lib.hid o1
  clear HQ HO0 g1 o1 hcv0 k0 k0' d0
  obtain ⟨cp, XB, hcb, hrb⟩ := conv_bytes w1 s.nm (by omega)
  obtain ⟨BN, hBN⟩ : ∃ l, bytesI s.nm = l := ⟨_, rfl⟩
  have hbl : BN.length ≤ 8 := by rw [← hBN, bytesI_len]; exact nb
  rw [hBN] at hcb hrb
  have HRB := Lib.hid hrb
  have HBN := Lib.hid hBN
  clear hrb hBN
  have j0 := (HD.out _ B1.out).1
  have O1' := Lib.hid ((O1.out.alloc XB).drew)
  have B1' := Lib.hid (B1.out.trans (((Below.refl w.heap.size w1).alloc hb1 XB).trans (below_of_drewN (w1.alloc XB) 1 _)))
  have hb1' : w.heap.size ≤ ((w1.alloc XB).drew).heap.size := B1'.out.size
  go_upto_region 3 with (at_builtin; refine wpl_appendN (f := Value.int .u8) (d := 0) (base := w.heap.size) und_ye info_y (fun _ => rfl) O1'.out HRB.out rfl _ _ rfl rfl rfl (by simp) (by omega) (by omega) hb1' ?_; intro a2 c2 w2 o2 g2)
  clear j0 hcb
  obtain ⟨X2, hX2⟩ : ∃ X, ([83, 75, 84, 49] ++ [(s.nm.size : Int)]) ++ BN = X := ⟨_, rfl⟩
  have el2 : 5 + BN.length = X2.length := by rw [← hX2, List.length_append]; rfl
  rw [hX2] at o2
  rw [el2]
  have B2 := Lib.hid (B1'.out.trans (grown_belowOwn O1'.out g2 (Nat.le_refl _) hb1'))
  have hb2 : w.heap.size ≤ w2.heap.size := B2.out.size
  have O2 := Lib.hid o2
  have HX2 := Lib.hid hX2
  have l2 : X2.length ≤ 13 := by omega
  clear o2 g2 O1 B1 hb1 O1' B1' hb1' HRB hX2 el2 hbl
  have j1 := (HD.out _ B2.out).2.1
  have j2 := (HD.out _ B2.out).2.2.1
  go_wp2_with fail
  go_region_held3 (fun w' => w'.cell? ⟨b0, o + 1, none⟩ = some (.int .i64 s.W) ∧ w'.cell? ⟨b0, o + 2, none⟩ = some (.int .i64 s.D))
      (first | go_keep)
      ((refine step_appendL (f := Value.int .u8) (d := 0) (base := w.heap.size) und_ye info_y (fun _ => rfl) [s.W, s.D] (by simp) ((O2.out.alloc _).drew) rfl _ _ rfl w2.heap.size rfl rfl (heap_alloc_new w2 _) (by simp <;> omega) (by omega) (by simp <;> omega) ?_; intro a3 c3 w3 o3 g3; have hbq : Below w.heap.size w w3 := ((B2.out.alloc hb2 _).drew).trans (grown_belowOwn ((O2.out.alloc _).drew) g3 (Nat.le_refl _) (by simp <;> omega)); have q1 := (HD.out _ hbq).2.1; have q2 := (HD.out _ hbq).2.2.1))
  clear q1 q2
  clear j1 j2
  simp only [show ([s.W, s.D] : List Int).length = 2 from rfl]
  obtain ⟨X3, hX3⟩ : ∃ X, X2 ++ [s.W, s.D] = X := ⟨_, rfl⟩
  have el3 : X2.length + 2 = X3.length := by rw [← hX3, List.length_append]; rfl
  rw [hX3] at o3
  rw [el3]
  have B3 := Lib.hid hbq
  have hb3 : w.heap.size ≤ w3.heap.size := B3.out.size
  have O3 := Lib.hid o3
  have HX3 := Lib.hid hX3
  have l3 : X3.length ≤ 15 := by omega
  clear o3 g3 hbq O2 B2 hb2 hX3 el3 l2
  have j3 := (HD.out _ B3.out).2.2.2.1
  go_wp2_with fail
  refine (l07Word_any O3.out hb3 (by omega) HOK.out.S).mono ?_
  rintro e w4 ⟨a4, c4, rfl, o4, hc4⟩
  clear j3
  obtain ⟨X4, hX4⟩ : ∃ X, X3 ++ le s.S 4 = X := ⟨_, rfl⟩
  have l4 : X4.length ≤ 19 := by rw [← hX4, List.length_append, le_len]; omega
  rw [hX4] at o4 ⊢
  have B4 := Lib.hid (B3.out.trans hc4)
  have hb4 : w.heap.size ≤ w4.heap.size := B4.out.size
  have O4 := Lib.hid o4
  clear o4 hc4 O3 B3 hb3
  have HH : Hid (X4 = headL s) := Lib.hid (by rw [← hX4, ← HX3.out, ← HX2.out, ← HBN.out]; rfl)
  clear HBN HX2 HX3 hX4 l3
  have hlc := HG.out.cs.len
  have csl := HOK.out.csl
  have HL : Hid (∀ k, cntL s (k + 1) = cntL s k ++ le (at0 s.cs k) 4) := Lib.hid (fun _ => rfl)
  have HN : Hid (∀ k, (cntL s k).length = 4 * k) := Lib.hid (cntL_len s)
  have H00 : Hid (cntL s 0 = []) := Lib.hid rfl
  obtain ⟨C, hC⟩ : ∃ C, cntL s = C := ⟨_, rfl⟩
  rw [hC] at HL HN H00
  have HC := Lib.hid hC
  clear hC
  have j4 := (HD.out _ B4.out).2.2.2.2.1
  go_wp2_with fail
  clear j4
  go_loopw [3, 4, 52] (fun si _ vi wr => ∃ (k : Nat) (a' : Option Addr) (c' : Nat), vi = .int .i64 k ∧ k ≤ s.cs.length ∧ si = .slice a' (X4 ++ C k).length c' ∧ Hid (Own (Value.int .u8) 5 wr w.heap.size a' c' (X4 ++ C k) ∧ Below w.heap.size w wr)) (fun _ _ vi _ => s.cs.length - (intOf vi).toNat)
  case atStart => exact ⟨0, a4, c4, rfl, Nat.zero_le _, by rw [H00.out, List.append_nil], Lib.hid ⟨by rw [H00.out, List.append_nil]; exact O4.out, B4.out⟩⟩
  case round =>
    clear O4 B4 hb4
    obtain ⟨k, a', c', rfl, hk, rfl, HI⟩ := hrel
    by_cases hlt : k < s.cs.length
    · have hltz : (k : Int) < (s.cs.length : Int) := by omega
      have ewk : IntKind.i64.wrap ((k : Int) + 1) = (k : Int) + 1 := IntWalk.i64_in _ (by omega)
      have hbw : w.heap.size ≤ wr.heap.size := HI.out.2.size
      have j4 := (HD.out _ HI.out.2).2.2.2.2.1
      have hr := HG.out.cs.below HI.out.2 (Nat.le_refl _)
      have hix := hr.idx und_is siz_is
      have hcx := hr.cell k hlt
      have hx0 := HOK.out.cs k hlt
      have HL1 := Lib.hid (HL.out k)
      have ex : at0 s.cs k = s.cs[k] := by simp [at0, hlt]
      rw [ex] at hx0 HL1
      simp only [List.getElem?_eq_getElem hlt, Option.getD_some] at hcx
      generalize s.cs[k] = x at hx0 HL1 hcx
      have hl : (X4 ++ C k).length ≤ 19 + 1536 := by rw [List.length_append, HN.out]; omega
      obtain ⟨Y, hY⟩ : ∃ Y, X4 ++ C k = Y := ⟨_, rfl⟩
      have HY := Lib.hid hY
      rw [hY] at HI hl ⊢
      clear hY hr ex
      go_wp2_with fail
      refine (l07Word_any HI.out.1 hbw (by omega) hx0).mono ?_
      rintro e w5 ⟨a5, c5, rfl, o5, hc5⟩
      have HO5 := Lib.hid o5
      have HB5 := Lib.hid (HI.out.2.trans hc5)
      have he : Hid (Y ++ le x 4 = X4 ++ C (k + 1)) := Lib.hid (by rw [HL1.out, ← HY.out, List.append_assoc])
      rw [he.out] at HO5 ⊢
      obtain ⟨Z, hZ⟩ : ∃ Z, X4 ++ C (k + 1) = Z := ⟨_, rfl⟩
      have HZ := Lib.hid hZ
      rw [hZ]
      clear o5 hc5 hZ j4
      go_wp2
      go_roundw
      case rel => exact ⟨k + 1, a5, c5, by go_num, by omega, by rw [HZ.out], Lib.hid ⟨HO5.out, HB5.out⟩⟩
      case measure => simp [intOf]; omega
    · obtain rfl : k = s.cs.length := by omega
      have hltz : ¬ (s.cs.length : Int) < (s.cs.length : Int) := by omega
      have hbw : w.heap.size ≤ wr.heap.size := HI.out.2.size
      have hl : (X4 ++ C s.cs.length).length ≤ 19 + 1536 := by rw [List.length_append, HN.out]; omega
      obtain ⟨X5, hX5⟩ : ∃ Y, X4 ++ C s.cs.length = Y := ⟨_, rfl⟩
      have HX5 : Hid (X5 = headL s ++ cntL s s.cs.length) := Lib.hid (by rw [← hX5, HH.out, HC.out])
      rw [hX5] at HI hl ⊢
      clear hX5 HL HN H00 HH HC hk hlc
      have j5 := (HD.out _ HI.out.2).2.2.2.2.2.1
      have j6 := (HD.out _ HI.out.2).2.2.2.2.2.2.1
      have OI := Lib.hid HI.out.1
      go_wp2_with fail
      go_region_held3 (fun w' => w'.cell? ⟨b0, o + 5, none⟩ = some (.int .i64 s.R) ∧ w'.cell? ⟨b0, o + 6, none⟩ = some (.slice h.a1 s.ks.length h.c1))
          (first | go_keep)
          ((refine step_appendL (f := Value.int .u8) (d := 0) (base := w.heap.size) und_ye info_y (fun _ => rfl) [s.R, (s.ks.length : Int)] (by simp) ((OI.out.alloc _).drew) rfl _ _ rfl wr.heap.size rfl rfl (heap_alloc_new wr _) (by simp <;> omega) (by omega) (by simp <;> omega) ?_; intro a6 c6 w6 o6 g6; have hbq : Below w.heap.size w w6 := ((HI.out.2.alloc hbw _).drew).trans (grown_belowOwn ((OI.out.alloc _).drew) g6 (Nat.le_refl _) (by simp <;> omega)); have q5 := (HD.out _ hbq).2.2.2.2.2.1; have q6 := (HD.out _ hbq).2.2.2.2.2.2.1))
      clear q5 q6
      simp only [show ([s.R, (s.ks.length : Int)] : List Int).length = 2 from rfl]
      obtain ⟨X6, hX6⟩ : ∃ X, X5 ++ [s.R, (s.ks.length : Int)] = X := ⟨_, rfl⟩
      have el6 : X5.length + 2 = X6.length := by rw [← hX6, List.length_append]; rfl
      rw [hX6] at o6
      rw [el6]
      have B6 := Lib.hid hbq
      have hb6 : w.heap.size ≤ w6.heap.size := B6.out.size
      have O6 := Lib.hid o6
      have HX6 : Hid (X6 = (headL s ++ cntL s s.cs.length) ++ [s.R, (s.ks.length : Int)]) := Lib.hid (by rw [← hX6, HX5.out])
      have l6 : X6.length ≤ 1600 := by omega
      clear o6 g6 hbq OI HI hbw hX6 el6 HX5 j5 j6 hl
      have hlk := HG.out.ks.len
      have ksl := HOK.out.ksl
      have HL : Hid (∀ k, rowsL s (k + 1) = ((rowsL s k ++ le (at0 s.ks k) 4) ++ le (at0 s.ts k) 4) ++ le (at0 s.es k) 4) := Lib.hid (fun _ => rfl)
      have HN : Hid (∀ k, (rowsL s k).length = 12 * k) := Lib.hid (rowsL_len s)
      have H00 : Hid (rowsL s 0 = []) := Lib.hid rfl
      obtain ⟨R, hR⟩ : ∃ R, rowsL s = R := ⟨_, rfl⟩
      rw [hR] at HL HN H00
      have HRW := Lib.hid hR
      clear hR
      have j6 := (HD.out _ B6.out).2.2.2.2.2.2.1
      go_wp2_with fail
      clear j6
      go_loopw [3, 5, 88] (fun si _ vi wr => ∃ (k : Nat) (a' : Option Addr) (c' : Nat), vi = .int .i64 k ∧ k ≤ s.ks.length ∧ si = .slice a' (X6 ++ R k).length c' ∧ Hid (Own (Value.int .u8) 5 wr w.heap.size a' c' (X6 ++ R k) ∧ Below w.heap.size w wr)) (fun _ _ vi _ => s.ks.length - (intOf vi).toNat)
      case atStart => exact ⟨0, a6, c6, rfl, Nat.zero_le _, by rw [H00.out, List.append_nil], Lib.hid ⟨by rw [H00.out, List.append_nil]; exact O6.out, B6.out⟩⟩
      case round =>
        clear O6 B6 hb6
        obtain ⟨k, a', c', rfl, hk, rfl, HI⟩ := hrel
        by_cases hlt : k < s.ks.length
        · have hltz : (k : Int) < (s.ks.length : Int) := by omega
          have hltt : k < s.ts.length := by rw [HOK.out.tsl]; exact hlt
          have hlte : k < s.es.length := by rw [HOK.out.esl]; exact hlt
          have ewk : IntKind.i64.wrap ((k : Int) + 1) = (k : Int) + 1 := IntWalk.i64_in _ (by omega)
          have hbw : w.heap.size ≤ wr.heap.size := HI.out.2.size
          have hx0 := HOK.out.ks k hlt
          have hy0 := HOK.out.ts k hlt
          have hz0 := HOK.out.es k hlt
          have HL1 := Lib.hid (HL.out k)
          have ex : at0 s.ks k = s.ks[k] := by simp [at0, hlt]
          have ey : at0 s.ts k = s.ts[k] := by simp [at0, hltt]
          have ez : at0 s.es k = s.es[k] := by simp [at0, hlte]
          rw [ex] at hx0
          rw [ey] at hy0
          rw [ez] at hz0
          rw [ex, ey, ez] at HL1
          have HKX : Hid (∀ w', Below w.heap.size w w' → Rd (Value.int .i64) w' h.a1 h.c1 s.ks ∧ Rd (Value.int .i64) w' h.a2 h.c2 s.ts ∧ Rd (Value.int .i64) w' h.a3 h.c3 s.es) := Lib.hid (fun w' hb => ⟨HG.out.ks.below hb (Nat.le_refl _), HG.out.ts.below hb (Nat.le_refl _), HG.out.es.below hb (Nat.le_refl _)⟩)
          have hixk := (HKX.out _ HI.out.2).1.idx und_is siz_is
          have hixt := (HKX.out _ HI.out.2).2.1.idx und_is siz_is
          have hixe := (HKX.out _ HI.out.2).2.2.idx und_is siz_is
          have HCX : Hid (∀ w', Below w.heap.size w w' → w'.cell? (elt h.a1 k) = some (.int .i64 s.ks[k]) ∧ w'.cell? (elt h.a2 k) = some (.int .i64 s.ts[k]) ∧ w'.cell? (elt h.a3 k) = some (.int .i64 s.es[k])) := Lib.hid (fun w' hb => by
            have h1 := (HKX.out w' hb).1.cell k hlt
            have h2 := (HKX.out w' hb).2.1.cell k hltt
            have h3 := (HKX.out w' hb).2.2.cell k hlte
            simp only [List.getElem?_eq_getElem hlt, Option.getD_some] at h1
            simp only [List.getElem?_eq_getElem hltt, Option.getD_some] at h2
            simp only [List.getElem?_eq_getElem hlte, Option.getD_some] at h3
            exact ⟨h1, h2, h3⟩)
          generalize s.ks[k] = x at hx0 HL1 HCX
          generalize s.ts[k] = y at hy0 HL1 HCX
          generalize s.es[k] = z at hz0 HL1 HCX
          have hcx := (HCX.out _ HI.out.2).1
          have j6 := (HD.out _ HI.out.2).2.2.2.2.2.2.1
          have hl : (X6 ++ R k).length ≤ 1600 + 384 := by rw [List.length_append, HN.out]; omega
          obtain ⟨Y, hY⟩ : ∃ Y, X6 ++ R k = Y := ⟨_, rfl⟩
          have HY := Lib.hid hY
          rw [hY] at HI hl ⊢
          clear hY ex ey ez HKX
          go_wp2_with fail
          refine (l07Word_any HI.out.1 hbw (by omega) hx0).mono ?_
          rintro e w7 ⟨a7, c7, rfl, o7, hc7⟩
          have B7 := Lib.hid (HI.out.2.trans hc7)
          have hb7 : w.heap.size ≤ w7.heap.size := B7.out.size
          have O7 := Lib.hid o7
          have j7 := (HD.out _ B7.out).2.2.2.2.2.2.2.1
          have hcy := (HCX.out _ B7.out).2.1
          obtain ⟨Y1, hY1⟩ : ∃ Z, Y ++ le x 4 = Z := ⟨_, rfl⟩
          have hl1 : Y1.length ≤ 1600 + 388 := by rw [← hY1, List.length_append, le_len]; omega
          have HY1 := Lib.hid hY1
          rw [hY1] at O7 ⊢
          clear o7 hc7 HI hY1 hcx hl j6
          go_wp2_with fail
          refine (l07Word_any O7.out hb7 (by omega) hy0).mono ?_
          rintro e w8 ⟨a8, c8, rfl, o8, hc8⟩
          have B8 := Lib.hid (B7.out.trans hc8)
          have hb8 : w.heap.size ≤ w8.heap.size := B8.out.size
          have O8 := Lib.hid o8
          have j8 := (HD.out _ B8.out).2.2.2.2.2.2.2.2
          have hcz := (HCX.out _ B8.out).2.2
          obtain ⟨Y2, hY2⟩ : ∃ Z, Y1 ++ le y 4 = Z := ⟨_, rfl⟩
          have hl2 : Y2.length ≤ 1600 + 392 := by rw [← hY2, List.length_append, le_len]; omega
          have HY2 := Lib.hid hY2
          rw [hY2] at O8 ⊢
          clear o8 hc8 O7 B7 hY2 hcy j7 hl1 hb7
          go_wp2_with fail
          refine (l07Word_any O8.out hb8 (by omega) hz0).mono ?_
          rintro e w9 ⟨a9, c9, rfl, o9, hc9⟩
          have HB9 := Lib.hid (B8.out.trans hc9)
          have HO9 := Lib.hid o9
          have he : Hid (Y2 ++ le z 4 = X6 ++ R (k + 1)) := Lib.hid (by rw [HL1.out, ← HY2.out, ← HY1.out, ← HY.out]; simp only [List.append_assoc])
          rw [he.out] at HO9 ⊢
          obtain ⟨Z, hZ⟩ : ∃ Z, X6 ++ R (k + 1) = Z := ⟨_, rfl⟩
          have HZ := Lib.hid hZ
          rw [hZ]
          clear o9 hc9 hZ hcz j8 B8 O8 hb8 hl2 hixk hixt hixe
          go_wp2
          go_roundw
          case rel => exact ⟨k + 1, a9, c9, by go_num, by omega, by rw [HZ.out], Lib.hid ⟨HO9.out, HB9.out⟩⟩
          case measure => simp [intOf]; omega
        · obtain rfl : k = s.ks.length := by omega
          have hltz : ¬ (s.ks.length : Int) < (s.ks.length : Int) := by omega
          have hbw : w.heap.size ≤ wr.heap.size := HI.out.2.size
          have HBD : Hid (X6 ++ R s.ks.length = bodyL s) := Lib.hid (by rw [HX6.out, ← HRW.out]; rfl)
          have hl : (X6 ++ R s.ks.length).length ≤ 1600 + 384 := by rw [List.length_append, HN.out]; omega
          have hl0 : 0 < (X6 ++ R s.ks.length).length := by rw [HBD.out, bodyL_len]; omega
          obtain ⟨Y, hY⟩ : ∃ Y, X6 ++ R s.ks.length = Y := ⟨_, rfl⟩
          rw [hY] at HI hl hl0 HBD ⊢
          have hcv := conv_own HI.out.1 hl0
          have hsz : (strOf Y).size ≤ 9223372036854775807 := by rw [strOf_size]; omega
          have hck := chk_bd (n := 0) (s := strOf Y) (by omega) (strOf Y).size
          have HT : Hid (res = strOf (Y ++ le (chk 0 (strOf Y) (strOf Y).size) 2)) := Lib.hid (by rw [← HRES.out, HBD.out]; rfl)
          have HCK := Lib.hid (fun w' => l01Check_any (n := 0) (s := strOf Y) (w := w') (by omega) hsz)
          obtain ⟨N, hN⟩ : ∃ N, chk 0 (strOf Y) (strOf Y).size = N := ⟨_, rfl⟩
          rw [hN] at hck HT HCK
          generalize strOf Y = st at hcv hsz HCK
          clear hY HBD hN HL HN H00 HRW HX6 hk hlk
          go_wp2_with fail
          refine (HCK.out _).mono ?_
          rintro e w10 ⟨rfl, rfl⟩
          clear hcv
          have q0 : IntKind.u8.wrap (N % 256) = N % 256 := by rw [IntKind.wrap_u8']; omega
          have q1 : IntKind.u8.wrap (N / 256) = N / 256 := by rw [IntKind.wrap_u8']; omega
          have q2 : IntKind.i64.wrap (N % 256) = N % 256 := IntWalk.i64_in _ (by omega)
          have q3 : IntKind.i64.wrap (N / 256) = N / 256 := IntWalk.i64_in _ (by omega)
          have hN0 : 0 ≤ N := hck.1
          have e2 : le N 2 = [N % 256, N / 256] := by rw [le_2, show N / 256 % 256 = N / 256 by omega]
          rw [e2] at HT
          clear e2
          have HCV := Lib.hid (fun (w' : World) (a' : Option Addr) (c' : Nat) (ho : Own (Value.int .u8) 5 w' w.heap.size a' c' (Y ++ [N % 256, N / 256])) => conv_own ho (by rw [List.length_append]; omega))
          obtain ⟨Z, hZ⟩ : ∃ Z, Y ++ [N % 256, N / 256] = Z := ⟨_, rfl⟩
          have elz : Y.length + 2 = Z.length := by rw [← hZ, List.length_append]; rfl
          rw [hZ] at HCV HT
          go_wp2_with (at_builtin; refine wpl_appendL (f := Value.int .u8) (d := 0) (base := w.heap.size) und_ye info_y (fun _ => rfl) [N % 256, N / 256] HI.out.1 rfl _ _ rfl rfl rfl (by simp <;> omega) (by omega) hbw ?_; intro a11 c11 w11 o11 g11; rw [hZ] at o11; rw [show Y.length + [N % 256, N / 256].length = Z.length from elz]; have hcv2 := HCV.out _ _ _ o11; have HB11 := Lib.hid (HI.out.2.trans (grown_belowOwn HI.out.1 g11 (Nat.le_refl _) hbw)); clear o11 g11 elz hZ)
          go_ret
          exact ⟨by rw [HT.out]; rfl, HB11.out⟩

end Go.Proofs.Ytdpolaedfjljmaa

namespace Go.Proofs.Ytdpolaedfjljmaa
open Go.RowKit

def stoT (s : Sv) : ByteArray := if savedV s then storeT s else ⟨#[]⟩
theorem stoT_yes {s : Sv} (h : savedV s = true) : stoT s = storeT s := by unfold stoT; rw [h]; rfl
theorem stoT_no {s : Sv} (h : savedV s = false) : stoT s = ⟨#[]⟩ := by unfold stoT; rw [h]; rfl
theorem validSv_any {h : SvH} {s : Sv} {w : World} (g : SvRd w h s) :
    Calls Try.prog 27 #[.agg #[.string s.nm, .int .i64 s.W, .int .i64 s.D, .int .i64 s.S, .slice h.a0 s.cs.length h.c0, .int .i64 s.R, .slice h.a1 s.ks.length h.c1, .slice h.a2 s.ts.length h.c2, .slice h.a3 s.es.length h.c3]] w fun e w' => e = .returned (.bool (savedV s)) ∧ Below w.heap.size w w' := validSaved_any g.cs g.ks g.ts g.es g.nm

set_option maxHeartbeats 1000000 in
theorem storeSaved_any {h : SvH} {s : Sv} {w : World} (g : SvRd w h s) :
    Calls Try.prog 21 #[.agg #[.string s.nm, .int .i64 s.W, .int .i64 s.D, .int .i64 s.S, .slice h.a0 s.cs.length h.c0, .int .i64 s.R, .slice h.a1 s.ks.length h.c1, .slice h.a2 s.ts.length h.c2, .slice h.a3 s.es.length h.c3]] w fun e w' => e = .returned (.tuple #[.string (stoT s), .bool (savedV s)]) ∧ Below w.heap.size w w' := by
  have B0 : Below w.heap.size w (w.alloc (.cells #[.string s.nm, .int .i64 s.W, .int .i64 s.D, .int .i64 s.S, .slice h.a0 s.cs.length h.c0, .int .i64 s.R, .slice h.a1 s.ks.length h.c1, .slice h.a2 s.ts.length h.c2, .slice h.a3 s.es.length h.c3] 28)) := (Below.refl _ _).alloc (Nat.le_refl _) _
  have I0 : Blk (w.alloc (.cells #[.string s.nm, .int .i64 s.W, .int .i64 s.D, .int .i64 s.S, .slice h.a0 s.cs.length h.c0, .int .i64 s.R, .slice h.a1 s.ks.length h.c1, .slice h.a2 s.ts.length h.c2, .slice h.a3 s.es.length h.c3] 28)) w.heap.size #[.string s.nm, .int .i64 s.W, .int .i64 s.D, .int .i64 s.S, .slice h.a0 s.cs.length h.c0, .int .i64 s.R, .slice h.a1 s.ks.length h.c1, .slice h.a2 s.ts.length h.c2, .slice h.a3 s.es.length h.c3] 28 := Blk.new _ _ _
  have H0 := Lib.hid (And.intro B0 I0)
  have HG := Lib.hid g
  clear B0 I0 g
  cases hv : savedV s with
  | false =>
    rw [stoT_no hv]
    go_enter Try.func21, Try.ntmps21
    go_wp2_with fail
    generalize (w.alloc (.cells #[.string s.nm, .int .i64 s.W, .int .i64 s.D, .int .i64 s.S, .slice h.a0 s.cs.length h.c0, .int .i64 s.R, .slice h.a1 s.ks.length h.c1, .slice h.a2 s.ts.length h.c2, .slice h.a3 s.es.length h.c3] 28)) = w0 at H0 ⊢
    refine (validSv_any (HG.out.below H0.out.1 (Nat.le_refl _))).mono ?_
    rintro e w1 ⟨rfl, hb1⟩
    rw [hv]
    have HB1 := Lib.hid (H0.out.1.trans (hb1.mono H0.out.1.size))
    clear hb1
    go_wp2
    go_ret2
    exact ⟨rfl, HB1.out⟩
  | true =>
  rw [stoT_yes hv]
  have HOK := Lib.hid (svOk_of hv)
  obtain ⟨tt, ht⟩ : ∃ t, storeT s = t := ⟨_, rfl⟩
  rw [ht]
  have HT := Lib.hid ht
  clear ht
  go_enter Try.func21, Try.ntmps21
  go_wp2_with fail
  generalize (w.alloc (.cells #[.string s.nm, .int .i64 s.W, .int .i64 s.D, .int .i64 s.S, .slice h.a0 s.cs.length h.c0, .int .i64 s.R, .slice h.a1 s.ks.length h.c1, .slice h.a2 s.ts.length h.c2, .slice h.a3 s.es.length h.c3] 28)) = w0 at H0 ⊢
  refine (validSv_any (HG.out.below H0.out.1 (Nat.le_refl _))).mono ?_
  rintro e w1 ⟨rfl, hb1⟩
  rw [hv]
  have HB1 := Lib.hid (H0.out.1.trans (hb1.mono H0.out.1.size))
  have I1 := H0.out.2.below hb1 (Nat.le_refl _)
  have i0 := I1.cell (i := 0) (v := .string s.nm) rfl
  have i1 := I1.cell (i := 1) (v := .int .i64 s.W) rfl
  have i2 := I1.cell (i := 2) (v := .int .i64 s.D) rfl
  have i3 := I1.cell (i := 3) (v := .int .i64 s.S) rfl
  have i4 := I1.cell (i := 4) (v := .slice h.a0 s.cs.length h.c0) rfl
  have i5 := I1.cell (i := 5) (v := .int .i64 s.R) rfl
  have i6 := I1.cell (i := 6) (v := .slice h.a1 s.ks.length h.c1) rfl
  have i7 := I1.cell (i := 7) (v := .slice h.a2 s.ts.length h.c2) rfl
  have i8 := I1.cell (i := 8) (v := .slice h.a3 s.es.length h.c3) rfl
  clear hb1 I1 H0
  go_wp2_with fail
  refine (store_any (HG.out.below HB1.out (Nat.le_refl _)) HOK.out).mono ?_
  rintro e w2 ⟨rfl, hb2⟩
  rw [HT.out]
  have HB2 := Lib.hid (HB1.out.trans (hb2.mono HB1.out.size))
  clear hb2 i0 i1 i2 i3 i4 i5 i6 i7 i8
  go_wp2
  go_ret2
  exact ⟨rfl, HB2.out⟩

theorem l07SavedS_any {b0 o : Nat} {h : SvH} {s : Sv} {w : World} (g : SvRd w h s) (d0 : w.cell? ⟨b0, o, none⟩ = some (.string s.nm)) (d1 : w.cell? ⟨b0, o + 1, none⟩ = some (.int .i64 s.W)) (d2 : w.cell? ⟨b0, o + 2, none⟩ = some (.int .i64 s.D)) (d3 : w.cell? ⟨b0, o + 3, none⟩ = some (.int .i64 s.S)) (d4 : w.cell? ⟨b0, o + 4, none⟩ = some (.slice h.a0 s.cs.length h.c0)) (d5 : w.cell? ⟨b0, o + 5, none⟩ = some (.int .i64 s.R)) (d6 : w.cell? ⟨b0, o + 6, none⟩ = some (.slice h.a1 s.ks.length h.c1)) (d7 : w.cell? ⟨b0, o + 7, none⟩ = some (.slice h.a2 s.ts.length h.c2)) (d8 : w.cell? ⟨b0, o + 8, none⟩ = some (.slice h.a3 s.es.length h.c3)) :
    Calls Try.prog 62 #[.pointer (some ⟨b0, o, none⟩)] w fun e w' => e = .returned (.bool (savedV s)) ∧ Below w.heap.size w w' := l07Saved_any g.cs g.ks g.ts g.es g.nm d0 d1 d2 d3 d4 d5 d6 d7 d8

set_option maxHeartbeats 1000000 in
theorem specStoreSaved_any {h : SvH} {s : Sv} {w : World} (g : SvRd w h s) :
    Calls Try.prog 22 #[.agg #[.string s.nm, .int .i64 s.W, .int .i64 s.D, .int .i64 s.S, .slice h.a0 s.cs.length h.c0, .int .i64 s.R, .slice h.a1 s.ks.length h.c1, .slice h.a2 s.ts.length h.c2, .slice h.a3 s.es.length h.c3]] w fun e w' => e = .returned (.tuple #[.string (stoT s), .bool (savedV s)]) ∧ Below w.heap.size w w' := by
  have B0 : Below w.heap.size w (w.alloc (.cells #[.string s.nm, .int .i64 s.W, .int .i64 s.D, .int .i64 s.S, .slice h.a0 s.cs.length h.c0, .int .i64 s.R, .slice h.a1 s.ks.length h.c1, .slice h.a2 s.ts.length h.c2, .slice h.a3 s.es.length h.c3] 28)) := (Below.refl _ _).alloc (Nat.le_refl _) _
  have I0 : Blk (w.alloc (.cells #[.string s.nm, .int .i64 s.W, .int .i64 s.D, .int .i64 s.S, .slice h.a0 s.cs.length h.c0, .int .i64 s.R, .slice h.a1 s.ks.length h.c1, .slice h.a2 s.ts.length h.c2, .slice h.a3 s.es.length h.c3] 28)) w.heap.size #[.string s.nm, .int .i64 s.W, .int .i64 s.D, .int .i64 s.S, .slice h.a0 s.cs.length h.c0, .int .i64 s.R, .slice h.a1 s.ks.length h.c1, .slice h.a2 s.ts.length h.c2, .slice h.a3 s.es.length h.c3] 28 := Blk.new _ _ _
  have HC : Hid (∀ w1, Below (w.heap.size + 1) (w.alloc (.cells #[.string s.nm, .int .i64 s.W, .int .i64 s.D, .int .i64 s.S, .slice h.a0 s.cs.length h.c0, .int .i64 s.R, .slice h.a1 s.ks.length h.c1, .slice h.a2 s.ts.length h.c2, .slice h.a3 s.es.length h.c3] 28)) w1 → SvRd w1 h s ∧ w1.cell? ⟨w.heap.size, 0, none⟩ = some (.string s.nm) ∧ w1.cell? ⟨w.heap.size, 0 + 1, none⟩ = some (.int .i64 s.W) ∧ w1.cell? ⟨w.heap.size, 0 + 2, none⟩ = some (.int .i64 s.D) ∧ w1.cell? ⟨w.heap.size, 0 + 3, none⟩ = some (.int .i64 s.S) ∧ w1.cell? ⟨w.heap.size, 0 + 4, none⟩ = some (.slice h.a0 s.cs.length h.c0) ∧ w1.cell? ⟨w.heap.size, 0 + 5, none⟩ = some (.int .i64 s.R) ∧ w1.cell? ⟨w.heap.size, 0 + 6, none⟩ = some (.slice h.a1 s.ks.length h.c1) ∧ w1.cell? ⟨w.heap.size, 0 + 7, none⟩ = some (.slice h.a2 s.ts.length h.c2) ∧ w1.cell? ⟨w.heap.size, 0 + 8, none⟩ = some (.slice h.a3 s.es.length h.c3)) := Lib.hid (fun w1 hb => by
    have I1 := I0.below hb (by simp)
    exact ⟨(g.below B0 (Nat.le_refl _)).below hb (by simp), I1.cell (i := 0) rfl, I1.cell (i := 1) rfl, I1.cell (i := 2) rfl, I1.cell (i := 3) rfl, I1.cell (i := 4) rfl, I1.cell (i := 5) rfl, I1.cell (i := 6) rfl, I1.cell (i := 7) rfl, I1.cell (i := 8) rfl⟩)
  have HS0 : Hid ((w.alloc (.cells #[.string s.nm, .int .i64 s.W, .int .i64 s.D, .int .i64 s.S, .slice h.a0 s.cs.length h.c0, .int .i64 s.R, .slice h.a1 s.ks.length h.c1, .slice h.a2 s.ts.length h.c2, .slice h.a3 s.es.length h.c3] 28)).heap.size = w.heap.size + 1) := Lib.hid (by simp)
  have HB0 := Lib.hid B0
  clear B0 I0 g
  have hsv : Hid (∀ w1, Below (w.heap.size + 1) (w.alloc (.cells #[.string s.nm, .int .i64 s.W, .int .i64 s.D, .int .i64 s.S, .slice h.a0 s.cs.length h.c0, .int .i64 s.R, .slice h.a1 s.ks.length h.c1, .slice h.a2 s.ts.length h.c2, .slice h.a3 s.es.length h.c3] 28)) w1 → Calls Try.prog 62 #[.pointer (some ⟨w.heap.size, 0, none⟩)] w1 fun e w' => e = .returned (.bool (savedV s)) ∧ Below w1.heap.size w1 w') := Lib.hid (fun w1 hb => by
    obtain ⟨g, d0, d1, d2, d3, d4, d5, d6, d7, d8⟩ := HC.out w1 hb
    exact l07SavedS_any g d0 d1 d2 d3 d4 d5 d6 d7 d8)
  have hst : Hid (SvOk s → ∀ w1, Below (w.heap.size + 1) (w.alloc (.cells #[.string s.nm, .int .i64 s.W, .int .i64 s.D, .int .i64 s.S, .slice h.a0 s.cs.length h.c0, .int .i64 s.R, .slice h.a1 s.ks.length h.c1, .slice h.a2 s.ts.length h.c2, .slice h.a3 s.es.length h.c3] 28)) w1 → Calls Try.prog 63 #[.pointer (some ⟨w.heap.size, 0, none⟩)] w1 fun e w' => e = .returned (.string (storeT s)) ∧ Below w1.heap.size w1 w') := Lib.hid (fun ok w1 hb => by
    obtain ⟨g, d0, d1, d2, d3, d4, d5, d6, d7, d8⟩ := HC.out w1 hb
    exact l07Store_any g ok d0 d1 d2 d3 d4 d5 d6 d7 d8)
  clear HC
  cases hv : savedV s with
  | false =>
    rw [stoT_no hv]
    rw [hv] at hsv
    go_enter Try.func22, Try.ntmps22
    go_wp2_with fail
    generalize (w.alloc (.cells #[.string s.nm, .int .i64 s.W, .int .i64 s.D, .int .i64 s.S, .slice h.a0 s.cs.length h.c0, .int .i64 s.R, .slice h.a1 s.ks.length h.c1, .slice h.a2 s.ts.length h.c2, .slice h.a3 s.es.length h.c3] 28)) = w0 at HB0 HS0 hsv hst ⊢
    refine (hsv.out w0 (Below.refl _ _)).mono ?_
    rintro e w1 ⟨rfl, hb1⟩
    have HB1 := Lib.hid (HB0.out.trans (hb1.mono HB0.out.size))
    clear hb1
    go_wp2
    go_ret2
    exact ⟨rfl, HB1.out⟩
  | true =>
  rw [stoT_yes hv]
  rw [hv] at hsv
  have HOK := Lib.hid (svOk_of hv)
  obtain ⟨tt, ht⟩ : ∃ t, storeT s = t := ⟨_, rfl⟩
  rw [ht] at hst ⊢
  clear ht
  go_enter Try.func22, Try.ntmps22
  go_wp2_with fail
  generalize (w.alloc (.cells #[.string s.nm, .int .i64 s.W, .int .i64 s.D, .int .i64 s.S, .slice h.a0 s.cs.length h.c0, .int .i64 s.R, .slice h.a1 s.ks.length h.c1, .slice h.a2 s.ts.length h.c2, .slice h.a3 s.es.length h.c3] 28)) = w0 at HB0 HS0 hsv hst ⊢
  refine (hsv.out w0 (Below.refl _ _)).mono ?_
  rintro e w1 ⟨rfl, hb1⟩
  have HB1 := Lib.hid (HB0.out.trans (hb1.mono HB0.out.size))
  have hc := hst.out HOK.out w1 (by rw [← HS0.out]; exact hb1)
  have HC2 := Lib.hid hc
  clear hb1 hc hsv hst HS0
  go_wp2_with fail
  refine HC2.out.mono ?_
  rintro e w2 ⟨rfl, hb2⟩
  have HB2 := Lib.hid (HB1.out.trans (hb2.mono HB1.out.size))
  clear hb2
  go_wp2
  go_ret2
  exact ⟨rfl, HB2.out⟩

/-- The bytes of all. -/
def catT (ss : List Sv) : Nat → ByteArray
  | 0 => ⟨#[]⟩
  | k + 1 => catT ss k ++ match ss[k]? with
    | some s => storeT s
    | none => ⟨#[]⟩
theorem catT_succ {ss : List Sv} {k : Nat} (h : k < ss.length) : catT ss (k + 1) = catT ss k ++ storeT ss[k] := by
  show catT ss k ++ _ = _
  rw [List.getElem?_eq_getElem h]
theorem storeT_le {s : Sv} (h : savedV s = true) : (storeT s).size ≤ 2000 := by
  have ok := svOk_of h
  rw [storeT_size]
  have := ok.nm; have := ok.csl; have := ok.ksl
  omega
theorem catT_size {ss : List Sv} (k : Nat) (hk : k ≤ ss.length) (h : ∀ j, j < k → ∀ (h : j < ss.length), savedV ss[j] = true) : (catT ss k).size ≤ 2000 * k := by
  induction k with
  | zero => exact Nat.le_refl _
  | succ k ih =>
    rw [catT_succ (by omega), ByteArray.size_append]
    have h1 := ih (by omega) (fun j hj hl => h j (by omega) hl)
    have h2 := storeT_le (h k (by omega) (by omega))
    omega
def allB (ss : List Sv) : Bool := decide (ss.length ≤ 8) && ss.all savedV
def allT (ss : List Sv) : ByteArray := if allB ss then catT ss ss.length else ⟨#[]⟩
theorem allB_no {ss : List Sv} {k : Nat} (h : k < ss.length) (hv : savedV ss[k] = false) : allB ss = false := by
  unfold allB
  rw [Bool.and_eq_false_iff]
  right
  rw [List.all_eq_false]
  exact ⟨ss[k], List.getElem_mem h, by rw [hv]; simp⟩
theorem allB_yes {ss : List Sv} (hl : ss.length ≤ 8) (h : ∀ k (hk : k < ss.length), savedV ss[k] = true) : allB ss = true := by
  unfold allB
  rw [decide_eq_true hl, Bool.true_and, List.all_eq_true]
  intro s hs
  obtain ⟨k, hk, rfl⟩ := List.getElem_of_mem hs
  exact h k hk

set_option maxRecDepth 4000 in
set_option maxHeartbeats 2000000 in
theorem storeAll_any {a : Option Addr} {c : Nat} {hs : List SvH} {ss : List Sv} {w : World} (hr : Rd9 w a c hs ss) (hn : svsSize ss ≤ 1048576) :
    Calls Try.prog 23 #[.slice a ss.length c] w fun e w' => e = .returned (.tuple #[.string (allT ss), .bool (allB ss)]) ∧ Below w.heap.size w w' := by
  have hln := hr.len
  by_cases hl : 8 < ss.length
  · have he : allB ss = false := by unfold allB; rw [decide_eq_false (by omega)]; rfl
    have het : allT ss = ⟨#[]⟩ := by unfold allT; rw [he]; rfl
    rw [he, het]
    have hd : decide ((8 : Int) < (ss.length : Int)) = true := decide_eq_true (by omega)
    go_enter Try.func23, Try.ntmps23
    go_wp2
    go_ret2
    exact ⟨rfl, Below.refl _ _⟩
  have hd : decide ((8 : Int) < (ss.length : Int)) = false := decide_eq_false (by omega)
  obtain ⟨rb, hrb⟩ : ∃ r, allB ss = r := ⟨_, rfl⟩
  obtain ⟨rt, hrt⟩ : ∃ r, allT ss = r := ⟨_, rfl⟩
  have HNO : Hid (∀ k (h : k < ss.length), savedV ss[k] = false → rb = false ∧ rt = ⟨#[]⟩) := Lib.hid (fun k h hv => by
    have h1 := allB_no h hv
    refine ⟨hrb.symm.trans h1, ?_⟩
    rw [← hrt]; unfold allT; rw [h1]; rfl)
  have HYES : Hid ((∀ k (h : k < ss.length), savedV ss[k] = true) → rb = true ∧ rt = catT ss ss.length) := Lib.hid (fun h => by
    have h1 := allB_yes (by omega) h
    refine ⟨hrb.symm.trans h1, ?_⟩
    rw [← hrt]; unfold allT; rw [h1]; rfl)
  have HSZ : Hid (∀ k (h : k < ss.length), ss[k].ks.length ≤ 1048576) := Lib.hid (fun k h => by have := svsSize_row h hn; unfold svSize at this; omega)
  have H0 : Hid (catT ss 0 = ⟨#[]⟩) := Lib.hid rfl
  have HCZ : Hid (∀ k, k ≤ ss.length → (∀ j, j < k → ∀ (h : j < ss.length), savedV ss[j] = true) → (catT ss k).size ≤ 2000 * k) := Lib.hid (fun k => catT_size k)
  have HCS : Hid (∀ k (h : k < ss.length), catT ss (k + 1) = catT ss k ++ storeT ss[k]) := Lib.hid (fun k h => catT_succ h)
  rw [hrb, hrt]
  generalize catT ss = C at HYES H0 HCS HCZ
  clear hrb hrt hn
  go_enter Try.func23, Try.ntmps23
  go_wp2
  clear hd
  go_loopw [4, 6, 7, 8, 14] (fun oi _ _ _ vi wr => ∃ k : Nat, k ≤ ss.length ∧ vi = .int .i64 k ∧ oi = .string (C k) ∧ Hid ((∀ j, j < k → ∀ (h : j < ss.length), savedV ss[j] = true) ∧ Below w.heap.size w wr)) (fun _ _ _ _ vi _ => ss.length - (intOf vi).toNat)
  case atStart => exact ⟨0, Nat.zero_le _, rfl, by rw [H0.out], Lib.hid ⟨fun j h => by omega, Below.refl _ _⟩⟩
  case round =>
    obtain ⟨k, hk, rfl, rfl, HI⟩ := hrel
    by_cases hlt : k < ss.length
    · have hltz : (k : Int) < (ss.length : Int) := by omega
      have ewk : IntKind.i64.wrap ((k : Int) + 1) = (k : Int) + 1 := IntWalk.i64_in _ (by omega)
      obtain ⟨b1, o1, rfl, hblt⟩ := hr.here (by omega)
      obtain ⟨d1, hrx, x0, x1, x2, x3, x4, x5, x6, x7, x8⟩ := (hr.below HI.out.2 (Nat.le_refl _)).at hlt
      have hix := idx9 (b := b1) (o := o1) (n := ss.length) (c := c) und_svi siz_svi
      have HS1 := Lib.hid (HCS.out k hlt)
      have HN1 := Lib.hid (HNO.out k hlt)
      have hkl := HSZ.out k hlt
      have hcz := HCZ.out k hk HI.out.1
      have HP1 : Hid (savedV ss[k] = true → ∀ j, j < k + 1 → ∀ (h : j < ss.length), savedV ss[j] = true) := Lib.hid (fun hv j hj h => by
        by_cases e : j = k
        · subst e; exact hv
        · exact HI.out.1 j (by omega) h)
      have HC := Lib.hid (fun ob => storeSaved_any (hrx.below ((Below.refl wr.heap.size wr).alloc (Nat.le_refl _) ob) (Nat.le_refl _)))
      have HBB := Lib.hid (fun ob w1 (h : Below (wr.alloc ob).heap.size (wr.alloc ob) w1) => HI.out.2.trans ((((Below.refl wr.heap.size wr).alloc (Nat.le_refl _) ob).trans (h.mono (by simp))).mono HI.out.2.size))
      generalize ss[k] = s at HC HS1 HN1 HP1 x0 x1 x2 x3 x4 x5 x6 x7 x8
      clear hrx hkl
      cases hv : savedV s with
      | false =>
        have HE := Lib.hid (HN1.out hv)
        rw [hv, stoT_no hv] at HC
        go_wp2_with fail
        refine (HC.out _).mono ?_
        rintro e w1 ⟨rfl, hb1⟩
        have HB1 := Lib.hid (HBB.out _ _ hb1)
        clear hb1
        go_wp2
        go_ret2
        exact ⟨by rw [HE.out.1, HE.out.2]; rfl, HB1.out⟩
      | true =>
      rw [hv, stoT_yes hv] at HC
      have htz := storeT_le hv
      obtain ⟨tt, ht⟩ : ∃ t, storeT s = t := ⟨_, rfl⟩
      rw [ht] at HC HS1 htz
      have hadd : ∀ w', (Op.stringOp .add (C k) tt).run Try.prog w' = .ok (.string (C k ++ tt)) w' := fun w' => run_string_add_sum _ _ _ (by omega)
      have HP2 := Lib.hid (HP1.out hv)
      clear ht
      go_wp2_with fail
      refine (HC.out _).mono ?_
      rintro e w1 ⟨rfl, hb1⟩
      have HB1 := Lib.hid (HBB.out _ _ hb1)
      clear hb1 x0 x1 x2 x3 x4 x5 x6 x7 x8
      go_wp2
      go_roundw
      case rel => exact ⟨k + 1, by omega, by go_num, by rw [HS1.out], Lib.hid ⟨HP2.out, HB1.out⟩⟩
      case measure => simp [intOf]; omega
    · obtain rfl : k = ss.length := by omega
      have hltz : ¬ (ss.length : Int) < (ss.length : Int) := by omega
      have HE := Lib.hid (HYES.out (fun j h => HI.out.1 j h h))
      go_wp2
      go_ret2
      exact ⟨by rw [HE.out.1, HE.out.2]; rfl, HI.out.2⟩

set_option maxRecDepth 4000 in
set_option maxHeartbeats 2000000 in
theorem specStoreAll_any {a : Option Addr} {c : Nat} {hs : List SvH} {ss : List Sv} {w : World} (hr : Rd9 w a c hs ss) (hn : svsSize ss ≤ 1048576) :
    Calls Try.prog 24 #[.slice a ss.length c] w fun e w' => e = .returned (.tuple #[.string (allT ss), .bool (allB ss)]) ∧ Below w.heap.size w w' := by
  have hln := hr.len
  by_cases hl : 8 < ss.length
  · have he : allB ss = false := by unfold allB; rw [decide_eq_false (by omega)]; rfl
    have het : allT ss = ⟨#[]⟩ := by unfold allT; rw [he]; rfl
    rw [he, het]
    have hd : decide ((8 : Int) < (ss.length : Int)) = true := decide_eq_true (by omega)
    go_enter Try.func24, Try.ntmps24
    go_wp2
    go_ret2
    exact ⟨rfl, Below.refl _ _⟩
  have hd : decide ((8 : Int) < (ss.length : Int)) = false := decide_eq_false (by omega)
  obtain ⟨rb, hrb⟩ : ∃ r, allB ss = r := ⟨_, rfl⟩
  obtain ⟨rt, hrt⟩ : ∃ r, allT ss = r := ⟨_, rfl⟩
  have HNO : Hid (∀ k (h : k < ss.length), savedV ss[k] = false → rb = false ∧ rt = ⟨#[]⟩) := Lib.hid (fun k h hv => by
    have h1 := allB_no h hv
    refine ⟨hrb.symm.trans h1, ?_⟩
    rw [← hrt]; unfold allT; rw [h1]; rfl)
  have HYES : Hid ((∀ k (h : k < ss.length), savedV ss[k] = true) → rb = true ∧ rt = catT ss ss.length) := Lib.hid (fun h => by
    have h1 := allB_yes (by omega) h
    refine ⟨hrb.symm.trans h1, ?_⟩
    rw [← hrt]; unfold allT; rw [h1]; rfl)
  have HSZ : Hid (∀ k (h : k < ss.length), ss[k].ks.length ≤ 1048576) := Lib.hid (fun k h => by have := svsSize_row h hn; unfold svSize at this; omega)
  have H0 : Hid (catT ss 0 = ⟨#[]⟩) := Lib.hid rfl
  have HCZ : Hid (∀ k, k ≤ ss.length → (∀ j, j < k → ∀ (h : j < ss.length), savedV ss[j] = true) → (catT ss k).size ≤ 2000 * k) := Lib.hid (fun k => catT_size k)
  have HCS : Hid (∀ k (h : k < ss.length), catT ss (k + 1) = catT ss k ++ storeT ss[k]) := Lib.hid (fun k h => catT_succ h)
  rw [hrb, hrt]
  generalize catT ss = C at HYES H0 HCS HCZ
  clear hrb hrt hn
  go_enter Try.func24, Try.ntmps24
  go_wp2
  clear hd
  go_loopw [4, 5, 11] (fun oi _ vi wr => ∃ k : Nat, k ≤ ss.length ∧ vi = .int .i64 k ∧ oi = .string (C k) ∧ Hid ((∀ j, j < k → ∀ (h : j < ss.length), savedV ss[j] = true) ∧ Below w.heap.size w wr)) (fun _ _ vi _ => ss.length - (intOf vi).toNat)
  case atStart => exact ⟨0, Nat.zero_le _, rfl, by rw [H0.out], Lib.hid ⟨fun j h => by omega, Below.refl _ _⟩⟩
  case round =>
    obtain ⟨k, hk, rfl, rfl, HI⟩ := hrel
    by_cases hlt : k < ss.length
    · have hltz : (k : Int) < (ss.length : Int) := by omega
      have ewk : IntKind.i64.wrap ((k : Int) + 1) = (k : Int) + 1 := IntWalk.i64_in _ (by omega)
      obtain ⟨b1, o1, rfl, hblt⟩ := hr.here (by omega)
      obtain ⟨d1, hrx, x0, x1, x2, x3, x4, x5, x6, x7, x8⟩ := (hr.below HI.out.2 (Nat.le_refl _)).at hlt
      have hix := idx9 (b := b1) (o := o1) (n := ss.length) (c := c) und_svi siz_svi
      have HS1 := Lib.hid (HCS.out k hlt)
      have HN1 := Lib.hid (HNO.out k hlt)
      have hkl := HSZ.out k hlt
      have hcz := HCZ.out k hk HI.out.1
      have HP1 : Hid (savedV ss[k] = true → ∀ j, j < k + 1 → ∀ (h : j < ss.length), savedV ss[j] = true) := Lib.hid (fun hv j hj h => by
        by_cases e : j = k
        · subst e; exact hv
        · exact HI.out.1 j (by omega) h)
      have HC := Lib.hid (l07SavedS_any hrx x0 x1 x2 x3 x4 x5 x6 x7 x8)
      have HD : Hid (SvOk ss[k] → ∀ w1, Below wr.heap.size wr w1 → Calls Try.prog 63 #[.pointer (some ⟨b1, o1 + k * 9, none⟩)] w1 fun e w' => e = .returned (.string (storeT ss[k])) ∧ Below w1.heap.size w1 w') := Lib.hid (fun ok w1 hb =>
        l07Store_any (hrx.below hb (Nat.le_refl _)) ok (k_below hb (Nat.le_refl _) x0) (k_below hb (Nat.le_refl _) x1) (k_below hb (Nat.le_refl _) x2) (k_below hb (Nat.le_refl _) x3) (k_below hb (Nat.le_refl _) x4) (k_below hb (Nat.le_refl _) x5) (k_below hb (Nat.le_refl _) x6) (k_below hb (Nat.le_refl _) x7) (k_below hb (Nat.le_refl _) x8))
      clear hrx hkl x0 x1 x2 x3 x4 x5 x6 x7 x8
      generalize ss[k] = s at HC HD HS1 HN1 HP1
      cases hv : savedV s with
      | false =>
        have HE := Lib.hid (HN1.out hv)
        rw [hv] at HC
        go_wp2_with fail
        refine HC.out.mono ?_
        rintro e w1 ⟨rfl, hb1⟩
        have HB1 := Lib.hid (HI.out.2.trans (hb1.mono HI.out.2.size))
        clear hb1
        go_wp2
        go_ret2
        exact ⟨by rw [HE.out.1, HE.out.2]; rfl, HB1.out⟩
      | true =>
      rw [hv] at HC
      have HP2 := Lib.hid (HP1.out hv)
      have hok := svOk_of hv
      have HDD := Lib.hid (HD.out hok)
      have htz := storeT_le hv
      obtain ⟨tt, ht⟩ : ∃ t, storeT s = t := ⟨_, rfl⟩
      rw [ht] at HDD HS1 htz
      have hadd : ∀ w', (Op.stringOp .add (C k) tt).run Try.prog w' = .ok (.string (C k ++ tt)) w' := fun w' => run_string_add_sum _ _ _ (by omega)
      clear ht hok HD
      go_wp2_with fail
      refine HC.out.mono ?_
      rintro e w1 ⟨rfl, hb1⟩
      have HB1 := Lib.hid (HI.out.2.trans (hb1.mono HI.out.2.size))
      have HC2 := Lib.hid (HDD.out w1 hb1)
      clear hb1
      go_wp2_with fail
      refine HC2.out.mono ?_
      rintro e w2 ⟨rfl, hb2⟩
      have HB2 := Lib.hid (HB1.out.trans (hb2.mono HB1.out.size))
      clear hb2
      go_wp2
      go_roundw
      case rel => exact ⟨k + 1, by omega, by go_num, by rw [HS1.out], Lib.hid ⟨HP2.out, HB2.out⟩⟩
      case measure => simp [intOf]; omega
    · obtain rfl : k = ss.length := by omega
      have hltz : ¬ (ss.length : Int) < (ss.length : Int) := by omega
      have HE := Lib.hid (HYES.out (fun j h => HI.out.1 j h h))
      go_wp2
      go_ret2
      exact ⟨by rw [HE.out.1, HE.out.2]; rfl, HI.out.2⟩

end Go.Proofs.Ytdpolaedfjljmaa
