/- LoadSaved in both texts. -/
import Derived.Test.YtdpolaedfjljmaaQSVF34
namespace Go.Proofs.Ytdpolaedfjljmaa
open Go.RowKit
attribute [local go_sem ↓] Go.wp_at_zero Go.wp_at_succ

def lsOk (s : ByteArray) : Bool := ldOk s && decide (ldE s = s.size)
def lsV (s : ByteArray) : Sv := if lsOk s then ldS s else sv0
def RetLS (w : World) (x : Sv) (ok : Bool) (e : Ending) (w' : World) : Prop :=
  ∃ h : SvH, e = .returned (.tuple #[.agg #[.string x.nm, .int .i64 x.W, .int .i64 x.D, .int .i64 x.S, .slice h.a0 x.cs.length h.c0, .int .i64 x.R, .slice h.a1 x.ks.length h.c1, .slice h.a2 x.ts.length h.c2, .slice h.a3 x.es.length h.c3], .bool ok]) ∧ SvOwn w' w.heap.size h x ∧ SvSep h ∧ Below w.heap.size w w'

set_option maxHeartbeats 4000000 in
theorem loadSaved_any {s : ByteArray} {w : World} (hs : s.size ≤ 1048576) :
    Calls Try.prog 12 #[.string s] w (RetLS w (lsV s) (lsOk s)) := by
  obtain ⟨xv, hxv⟩ : ∃ z, lsV s = z := ⟨_, rfl⟩
  obtain ⟨xo, hxo⟩ : ∃ z, lsOk s = z := ⟨_, rfl⟩
  rw [hxv, hxo]
  have HXV := Lib.hid hxv
  have HXO := Lib.hid hxo
  clear hxv hxo
  go_enter Try.func12, Try.ntmps12
  go_upto_region 1 with (fail)
  have HRW : Hid (Blk (w.alloc (.cells (svV hd0 sv0) 28)) w.heap.size (svV hd0 sv0) 28) := Lib.hid (Blk.new _ _ _)
  have HBW : Hid (Below w.heap.size w (w.alloc (.cells (svV hd0 sv0) 28))) := Lib.hid ((Below.refl _ _).alloc (Nat.le_refl _) _)
  have hz : (w.alloc (.cells (svV hd0 sv0) 28)).heap.size = w.heap.size + 1 := by simp
  obtain ⟨A, hA⟩ : ∃ A, w.heap.size = A := ⟨_, rfl⟩
  have HA := Lib.hid hA
  rw [hA] at HRW HBW hz ⊢
  change Code.wp _ _ _ _ (w.alloc (.cells (svV hd0 sv0) 28))
  generalize w.alloc (.cells (svV hd0 sv0) 28) = wa at HRW HBW hz ⊢
  clear hA
  have HZ := Lib.hid hz
  clear hz
  go_wp2_with fail
  refine (load_any (s := s) (w := wa) hs).mono ?_
  rintro e w1 ⟨h, rfl, ho, hsp, hb1⟩
  have HB1 : Hid (Below A w w1) := Lib.hid (HBW.out.trans (hb1.mono (by rw [HZ.out]; omega)))
  have HR1 : Hid (Blk w1 A (svV hd0 sv0) 28) := Lib.hid (HRW.out.below hb1 (Nat.le_refl _))
  have hlt : A < w1.heap.size := HR1.out.lt
  rw [HZ.out] at ho
  have HO := Lib.hid ho
  have HSP := Lib.hid hsp
  clear hb1 ho hsp HRW HBW
  have HXV2 : Hid (lsV s = if lsOk s then ldV s else sv0) := Lib.hid (by unfold lsV; cases h1 : lsOk s with | false => rfl | true => rw [if_pos rfl, if_pos rfl]; unfold lsOk at h1; rw [Bool.and_eq_true] at h1; unfold ldV; rw [h1.1]; rfl)
  have HN : Hid (ldN0 s = if ldOk s then ldE s else 0) := Lib.hid rfl
  have hep := ldE_pos s
  have HLS : Hid (lsOk s = (ldOk s && decide (ldE s = s.size))) := Lib.hid rfl
  obtain ⟨x, hx⟩ : ∃ z, ldV s = z := ⟨_, rfl⟩
  rw [hx] at HO HXV2 ⊢
  clear hx
  go_upto_region 2 with (fail)
  have HBW : Hid (Below A w (w1.alloc (.cells (svV h x) 28))) := Lib.hid (HB1.out.alloc (by omega) _)
  have HRW : Hid (Blk (w1.alloc (.cells (svV h x) 28)) A (svV hd0 sv0) 28) := Lib.hid (HR1.out.alloc _)
  have HXB : Hid (Blk (w1.alloc (.cells (svV h x) 28)) w1.heap.size (svV h x) 28) := Lib.hid (Blk.new _ _ _)
  have HOX : Hid (SvOwn (w1.alloc (.cells (svV h x) 28)) (A + 1) h x) := Lib.hid (HO.out.below ((Below.refl _ _).alloc (Nat.le_refl _) _) (Nat.le_refl _))
  change Code.wp _ _ _ _ (w1.alloc (.cells (svV h x) 28))
  generalize w1.alloc (.cells (svV h x) 28) = w2 at HBW HRW HXB HOX ⊢
  generalize w1.heap.size = bx at HXB hlt ⊢
  clear HB1 HR1 HO
  cases h1 : ldOk s with
  | false =>
    have HNO : Hid (xv = sv0 ∧ xo = false) := Lib.hid (by
      have e : lsOk s = false := by rw [HLS.out, h1]; rfl
      exact ⟨by rw [← HXV.out, HXV2.out, e]; rfl, by rw [← HXO.out, e]⟩)
    have e0 : ldN0 s = 0 := by rw [HN.out, h1]; rfl
    rw [e0]
    clear e0 h1
    have r0 := HRW.out.cell (i := 0) (v := .string ⟨#[]⟩) rfl
    have q0 := HRW.out.free 0
    have r1 := HRW.out.cell (i := 1) (v := .int .i64 0) rfl
    have q1 := HRW.out.free 1
    have r2 := HRW.out.cell (i := 2) (v := .int .i64 0) rfl
    have q2 := HRW.out.free 2
    have r3 := HRW.out.cell (i := 3) (v := .int .i64 0) rfl
    have q3 := HRW.out.free 3
    have r4 := HRW.out.cell (i := 4) (v := .slice none 0 0) rfl
    have q4 := HRW.out.free 4
    have r5 := HRW.out.cell (i := 5) (v := .int .i64 0) rfl
    have q5 := HRW.out.free 5
    have r6 := HRW.out.cell (i := 6) (v := .slice none 0 0) rfl
    have q6 := HRW.out.free 6
    have r7 := HRW.out.cell (i := 7) (v := .slice none 0 0) rfl
    have q7 := HRW.out.free 7
    have r8 := HRW.out.cell (i := 8) (v := .slice none 0 0) rfl
    have q8 := HRW.out.free 8
    go_wp2
    refine bodyPost_ret (v := .tuple #[.agg #[.string ⟨#[]⟩, .int .i64 0, .int .i64 0, .int .i64 0, .slice none 0 0, .int .i64 0, .slice none 0 0, .slice none 0 0, .slice none 0 0], .bool false]) (by simp [results, Try.results12, go_sem, r0, r1, r2, r3, r4, r5, r6, r7, r8]) rfl ⟨hd0, by rw [HNO.out.1, HNO.out.2] <;> rfl, by rw [HNO.out.1]; exact svOwn0 _ _, svSep0, ?_⟩
    rw [HA.out]
    exact put9_below HBW.out (Nat.le_refl _)

  | true =>
    have e0 : ldN0 s = ldE s := by rw [HN.out, h1]; rfl
    rw [e0]
    generalize ldE s = n at hep HLS
    clear e0
    by_cases h2 : n = s.size
    · have HYES : Hid (xv = x ∧ xo = true) := Lib.hid (by
        have e : lsOk s = true := by rw [HLS.out, h1, decide_eq_true h2]; rfl
        exact ⟨by rw [← HXV.out, HXV2.out, e]; rfl, by rw [← HXO.out, e]⟩)
      obtain rfl := h2
      have h4 : ((s.size : Int) == 0) = false := beq_eq_false_iff_ne.2 (by omega)
      have h5 : ((s.size : Int) != (s.size : Int)) = false := by simp
      have h6 : ¬ (s.size : Int) = 0 := by omega
      clear h1
      have c0 := HXB.out.cell (i := 0) (v := .string x.nm) rfl
      have c1 := HXB.out.cell (i := 1) (v := .int .i64 x.W) rfl
      have c2 := HXB.out.cell (i := 2) (v := .int .i64 x.D) rfl
      have c3 := HXB.out.cell (i := 3) (v := .int .i64 x.S) rfl
      have c4 := HXB.out.cell (i := 4) (v := .slice h.a0 x.cs.length h.c0) rfl
      have c5 := HXB.out.cell (i := 5) (v := .int .i64 x.R) rfl
      have c6 := HXB.out.cell (i := 6) (v := .slice h.a1 x.ks.length h.c1) rfl
      have c7 := HXB.out.cell (i := 7) (v := .slice h.a2 x.ts.length h.c2) rfl
      have c8 := HXB.out.cell (i := 8) (v := .slice h.a3 x.es.length h.c3) rfl
      have r0 := HRW.out.cell (i := 0) (v := .string ⟨#[]⟩) rfl
      have q0 := HRW.out.free 0
      have r1 := HRW.out.cell (i := 1) (v := .int .i64 0) rfl
      have q1 := HRW.out.free 1
      have r2 := HRW.out.cell (i := 2) (v := .int .i64 0) rfl
      have q2 := HRW.out.free 2
      have r3 := HRW.out.cell (i := 3) (v := .int .i64 0) rfl
      have q3 := HRW.out.free 3
      have r4 := HRW.out.cell (i := 4) (v := .slice none 0 0) rfl
      have q4 := HRW.out.free 4
      have r5 := HRW.out.cell (i := 5) (v := .int .i64 0) rfl
      have q5 := HRW.out.free 5
      have r6 := HRW.out.cell (i := 6) (v := .slice none 0 0) rfl
      have q6 := HRW.out.free 6
      have r7 := HRW.out.cell (i := 7) (v := .slice none 0 0) rfl
      have q7 := HRW.out.free 7
      have r8 := HRW.out.cell (i := 8) (v := .slice none 0 0) rfl
      have q8 := HRW.out.free 8
      go_wp2
      refine bodyPost_ret (v := .tuple #[.agg #[.string x.nm, .int .i64 x.W, .int .i64 x.D, .int .i64 x.S, .slice h.a0 x.cs.length h.c0, .int .i64 x.R, .slice h.a1 x.ks.length h.c1, .slice h.a2 x.ts.length h.c2, .slice h.a3 x.es.length h.c3], .bool true]) (by simp [results, Try.results12, go_sem, r0, r1, r2, r3, r4, r5, r6, r7, r8]) rfl ⟨h, by rw [HYES.out.1, HYES.out.2] <;> rfl, ?_, HSP.out, ?_⟩
      · rw [HYES.out.1, HA.out]
        exact (SvOwn.put9 (g := A) (o := 0) HOX.out (by omega)).mono (by omega)
      · rw [HA.out]
        exact put9_below HBW.out (Nat.le_refl _)

    · have HNO : Hid (xv = sv0 ∧ xo = false) := Lib.hid (by
        have e : lsOk s = false := by rw [HLS.out, h1, decide_eq_false h2]; rfl
        exact ⟨by rw [← HXV.out, HXV2.out, e]; rfl, by rw [← HXO.out, e]⟩)
      have h3 : ¬ (n : Int) = (s.size : Int) := by omega
      have h4 : ((n : Int) == 0) = false := by simp; omega
      have h5 : ((n : Int) != (s.size : Int)) = true := by simp; omega
      have h6 : ¬ (n : Int) = 0 := by omega
      clear h1 h2
      have r0 := HRW.out.cell (i := 0) (v := .string ⟨#[]⟩) rfl
      have q0 := HRW.out.free 0
      have r1 := HRW.out.cell (i := 1) (v := .int .i64 0) rfl
      have q1 := HRW.out.free 1
      have r2 := HRW.out.cell (i := 2) (v := .int .i64 0) rfl
      have q2 := HRW.out.free 2
      have r3 := HRW.out.cell (i := 3) (v := .int .i64 0) rfl
      have q3 := HRW.out.free 3
      have r4 := HRW.out.cell (i := 4) (v := .slice none 0 0) rfl
      have q4 := HRW.out.free 4
      have r5 := HRW.out.cell (i := 5) (v := .int .i64 0) rfl
      have q5 := HRW.out.free 5
      have r6 := HRW.out.cell (i := 6) (v := .slice none 0 0) rfl
      have q6 := HRW.out.free 6
      have r7 := HRW.out.cell (i := 7) (v := .slice none 0 0) rfl
      have q7 := HRW.out.free 7
      have r8 := HRW.out.cell (i := 8) (v := .slice none 0 0) rfl
      have q8 := HRW.out.free 8
      go_wp2
      refine bodyPost_ret (v := .tuple #[.agg #[.string ⟨#[]⟩, .int .i64 0, .int .i64 0, .int .i64 0, .slice none 0 0, .int .i64 0, .slice none 0 0, .slice none 0 0, .slice none 0 0], .bool false]) (by simp [results, Try.results12, go_sem, r0, r1, r2, r3, r4, r5, r6, r7, r8]) rfl ⟨hd0, by rw [HNO.out.1, HNO.out.2] <;> rfl, by rw [HNO.out.1]; exact svOwn0 _ _, svSep0, ?_⟩
      rw [HA.out]
      exact put9_below HBW.out (Nat.le_refl _)


set_option maxHeartbeats 4000000 in
theorem specLoadSaved_any {s : ByteArray} {w : World} (hs : s.size ≤ 1048576) :
    Calls Try.prog 11 #[.string s] w (RetLS w (lsV s) (lsOk s)) := by
  obtain ⟨xv, hxv⟩ : ∃ z, lsV s = z := ⟨_, rfl⟩
  obtain ⟨xo, hxo⟩ : ∃ z, lsOk s = z := ⟨_, rfl⟩
  rw [hxv, hxo]
  have HXV := Lib.hid hxv
  have HXO := Lib.hid hxo
  clear hxv hxo
  go_enter Try.func11, Try.ntmps11
  go_upto_region 1 with (fail)
  have HRW : Hid (Blk (w.alloc (.cells (svV hd0 sv0) 28)) w.heap.size (svV hd0 sv0) 28) := Lib.hid (Blk.new _ _ _)
  have HBW : Hid (Below w.heap.size w (w.alloc (.cells (svV hd0 sv0) 28))) := Lib.hid ((Below.refl _ _).alloc (Nat.le_refl _) _)
  have hz : (w.alloc (.cells (svV hd0 sv0) 28)).heap.size = w.heap.size + 1 := by simp
  obtain ⟨A, hA⟩ : ∃ A, w.heap.size = A := ⟨_, rfl⟩
  have HA := Lib.hid hA
  rw [hA] at HRW HBW hz ⊢
  change Code.wp _ _ _ _ (w.alloc (.cells (svV hd0 sv0) 28))
  generalize w.alloc (.cells (svV hd0 sv0) 28) = wa at HRW HBW hz ⊢
  clear hA
  have HZ := Lib.hid hz
  clear hz
  go_wp2_with fail
  refine (l07Begin_any (s := s) (w := wa) hs).mono ?_
  rintro e w1 ⟨h, rfl, ho, hsp, hb1⟩
  have HB1 : Hid (Below A w w1) := Lib.hid (HBW.out.trans (hb1.mono (by rw [HZ.out]; omega)))
  have HR1 : Hid (Blk w1 A (svV hd0 sv0) 28) := Lib.hid (HRW.out.below hb1 (Nat.le_refl _))
  have hlt : A < w1.heap.size := HR1.out.lt
  rw [HZ.out] at ho
  have HO := Lib.hid ho
  have HSP := Lib.hid hsp
  clear hb1 ho hsp HRW HBW
  have HXV2 : Hid (lsV s = if lsOk s then ldV s else sv0) := Lib.hid (by unfold lsV; cases h1 : lsOk s with | false => rfl | true => rw [if_pos rfl, if_pos rfl]; unfold lsOk at h1; rw [Bool.and_eq_true] at h1; unfold ldV; rw [h1.1]; rfl)
  have HN : Hid (ldN0 s = if ldOk s then ldE s else 0) := Lib.hid rfl
  have hep := ldE_pos s
  have HLS : Hid (lsOk s = (ldOk s && decide (ldE s = s.size))) := Lib.hid rfl
  obtain ⟨x, hx⟩ : ∃ z, ldV s = z := ⟨_, rfl⟩
  rw [hx] at HO HXV2 ⊢
  clear hx
  go_upto_region 2 with (fail)
  have HBW : Hid (Below A w (w1.alloc (.cells (svV h x) 28))) := Lib.hid (HB1.out.alloc (by omega) _)
  have HRW : Hid (Blk (w1.alloc (.cells (svV h x) 28)) A (svV hd0 sv0) 28) := Lib.hid (HR1.out.alloc _)
  have HXB : Hid (Blk (w1.alloc (.cells (svV h x) 28)) w1.heap.size (svV h x) 28) := Lib.hid (Blk.new _ _ _)
  have HOX : Hid (SvOwn (w1.alloc (.cells (svV h x) 28)) (A + 1) h x) := Lib.hid (HO.out.below ((Below.refl _ _).alloc (Nat.le_refl _) _) (Nat.le_refl _))
  change Code.wp _ _ _ _ (w1.alloc (.cells (svV h x) 28))
  generalize w1.alloc (.cells (svV h x) 28) = w2 at HBW HRW HXB HOX ⊢
  generalize w1.heap.size = bx at HXB hlt ⊢
  clear HB1 HR1 HO
  cases h1 : ldOk s with
  | false =>
    have HNO : Hid (xv = sv0 ∧ xo = false) := Lib.hid (by
      have e : lsOk s = false := by rw [HLS.out, h1]; rfl
      exact ⟨by rw [← HXV.out, HXV2.out, e]; rfl, by rw [← HXO.out, e]⟩)
    have e0 : ldN0 s = 0 := by rw [HN.out, h1]; rfl
    rw [e0]
    clear e0 h1
    have r0 := HRW.out.cell (i := 0) (v := .string ⟨#[]⟩) rfl
    have q0 := HRW.out.free 0
    have r1 := HRW.out.cell (i := 1) (v := .int .i64 0) rfl
    have q1 := HRW.out.free 1
    have r2 := HRW.out.cell (i := 2) (v := .int .i64 0) rfl
    have q2 := HRW.out.free 2
    have r3 := HRW.out.cell (i := 3) (v := .int .i64 0) rfl
    have q3 := HRW.out.free 3
    have r4 := HRW.out.cell (i := 4) (v := .slice none 0 0) rfl
    have q4 := HRW.out.free 4
    have r5 := HRW.out.cell (i := 5) (v := .int .i64 0) rfl
    have q5 := HRW.out.free 5
    have r6 := HRW.out.cell (i := 6) (v := .slice none 0 0) rfl
    have q6 := HRW.out.free 6
    have r7 := HRW.out.cell (i := 7) (v := .slice none 0 0) rfl
    have q7 := HRW.out.free 7
    have r8 := HRW.out.cell (i := 8) (v := .slice none 0 0) rfl
    have q8 := HRW.out.free 8
    go_wp2
    refine bodyPost_ret (v := .tuple #[.agg #[.string ⟨#[]⟩, .int .i64 0, .int .i64 0, .int .i64 0, .slice none 0 0, .int .i64 0, .slice none 0 0, .slice none 0 0, .slice none 0 0], .bool false]) (by simp [results, Try.results11, go_sem, r0, r1, r2, r3, r4, r5, r6, r7, r8]) rfl ⟨hd0, by rw [HNO.out.1, HNO.out.2] <;> rfl, by rw [HNO.out.1]; exact svOwn0 _ _, svSep0, ?_⟩
    rw [HA.out]
    exact put9_below HBW.out (Nat.le_refl _)

  | true =>
    have e0 : ldN0 s = ldE s := by rw [HN.out, h1]; rfl
    rw [e0]
    generalize ldE s = n at hep HLS
    clear e0
    by_cases h2 : n = s.size
    · have HYES : Hid (xv = x ∧ xo = true) := Lib.hid (by
        have e : lsOk s = true := by rw [HLS.out, h1, decide_eq_true h2]; rfl
        exact ⟨by rw [← HXV.out, HXV2.out, e]; rfl, by rw [← HXO.out, e]⟩)
      obtain rfl := h2
      have h4 : ((s.size : Int) == 0) = false := beq_eq_false_iff_ne.2 (by omega)
      have h5 : ((s.size : Int) != (s.size : Int)) = false := by simp
      have h6 : ¬ (s.size : Int) = 0 := by omega
      clear h1
      have c0 := HXB.out.cell (i := 0) (v := .string x.nm) rfl
      have c1 := HXB.out.cell (i := 1) (v := .int .i64 x.W) rfl
      have c2 := HXB.out.cell (i := 2) (v := .int .i64 x.D) rfl
      have c3 := HXB.out.cell (i := 3) (v := .int .i64 x.S) rfl
      have c4 := HXB.out.cell (i := 4) (v := .slice h.a0 x.cs.length h.c0) rfl
      have c5 := HXB.out.cell (i := 5) (v := .int .i64 x.R) rfl
      have c6 := HXB.out.cell (i := 6) (v := .slice h.a1 x.ks.length h.c1) rfl
      have c7 := HXB.out.cell (i := 7) (v := .slice h.a2 x.ts.length h.c2) rfl
      have c8 := HXB.out.cell (i := 8) (v := .slice h.a3 x.es.length h.c3) rfl
      have r0 := HRW.out.cell (i := 0) (v := .string ⟨#[]⟩) rfl
      have q0 := HRW.out.free 0
      have r1 := HRW.out.cell (i := 1) (v := .int .i64 0) rfl
      have q1 := HRW.out.free 1
      have r2 := HRW.out.cell (i := 2) (v := .int .i64 0) rfl
      have q2 := HRW.out.free 2
      have r3 := HRW.out.cell (i := 3) (v := .int .i64 0) rfl
      have q3 := HRW.out.free 3
      have r4 := HRW.out.cell (i := 4) (v := .slice none 0 0) rfl
      have q4 := HRW.out.free 4
      have r5 := HRW.out.cell (i := 5) (v := .int .i64 0) rfl
      have q5 := HRW.out.free 5
      have r6 := HRW.out.cell (i := 6) (v := .slice none 0 0) rfl
      have q6 := HRW.out.free 6
      have r7 := HRW.out.cell (i := 7) (v := .slice none 0 0) rfl
      have q7 := HRW.out.free 7
      have r8 := HRW.out.cell (i := 8) (v := .slice none 0 0) rfl
      have q8 := HRW.out.free 8
      go_wp2
      refine bodyPost_ret (v := .tuple #[.agg #[.string x.nm, .int .i64 x.W, .int .i64 x.D, .int .i64 x.S, .slice h.a0 x.cs.length h.c0, .int .i64 x.R, .slice h.a1 x.ks.length h.c1, .slice h.a2 x.ts.length h.c2, .slice h.a3 x.es.length h.c3], .bool true]) (by simp [results, Try.results11, go_sem, r0, r1, r2, r3, r4, r5, r6, r7, r8]) rfl ⟨h, by rw [HYES.out.1, HYES.out.2] <;> rfl, ?_, HSP.out, ?_⟩
      · rw [HYES.out.1, HA.out]
        exact (SvOwn.put9 (g := A) (o := 0) HOX.out (by omega)).mono (by omega)
      · rw [HA.out]
        exact put9_below HBW.out (Nat.le_refl _)

    · have HNO : Hid (xv = sv0 ∧ xo = false) := Lib.hid (by
        have e : lsOk s = false := by rw [HLS.out, h1, decide_eq_false h2]; rfl
        exact ⟨by rw [← HXV.out, HXV2.out, e]; rfl, by rw [← HXO.out, e]⟩)
      have h3 : ¬ (n : Int) = (s.size : Int) := by omega
      have h4 : ((n : Int) == 0) = false := by simp; omega
      have h5 : ((n : Int) != (s.size : Int)) = true := by simp; omega
      have h6 : ¬ (n : Int) = 0 := by omega
      clear h1 h2
      have r0 := HRW.out.cell (i := 0) (v := .string ⟨#[]⟩) rfl
      have q0 := HRW.out.free 0
      have r1 := HRW.out.cell (i := 1) (v := .int .i64 0) rfl
      have q1 := HRW.out.free 1
      have r2 := HRW.out.cell (i := 2) (v := .int .i64 0) rfl
      have q2 := HRW.out.free 2
      have r3 := HRW.out.cell (i := 3) (v := .int .i64 0) rfl
      have q3 := HRW.out.free 3
      have r4 := HRW.out.cell (i := 4) (v := .slice none 0 0) rfl
      have q4 := HRW.out.free 4
      have r5 := HRW.out.cell (i := 5) (v := .int .i64 0) rfl
      have q5 := HRW.out.free 5
      have r6 := HRW.out.cell (i := 6) (v := .slice none 0 0) rfl
      have q6 := HRW.out.free 6
      have r7 := HRW.out.cell (i := 7) (v := .slice none 0 0) rfl
      have q7 := HRW.out.free 7
      have r8 := HRW.out.cell (i := 8) (v := .slice none 0 0) rfl
      have q8 := HRW.out.free 8
      go_wp2
      refine bodyPost_ret (v := .tuple #[.agg #[.string ⟨#[]⟩, .int .i64 0, .int .i64 0, .int .i64 0, .slice none 0 0, .int .i64 0, .slice none 0 0, .slice none 0 0, .slice none 0 0], .bool false]) (by simp [results, Try.results11, go_sem, r0, r1, r2, r3, r4, r5, r6, r7, r8]) rfl ⟨hd0, by rw [HNO.out.1, HNO.out.2] <;> rfl, by rw [HNO.out.1]; exact svOwn0 _ _, svSep0, ?_⟩
      rw [HA.out]
      exact put9_below HBW.out (Nat.le_refl _)


end Go.Proofs.Ytdpolaedfjljmaa
