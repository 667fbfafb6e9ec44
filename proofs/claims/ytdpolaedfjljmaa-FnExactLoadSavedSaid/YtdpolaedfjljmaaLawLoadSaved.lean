/- The walk of the law FnExactLoadSaved. -/
import Derived.Test.YtdpolaedfjljmaaLdL
import Derived.Test.YtdpolaedfjljmaaMkSv
import Derived.Test.YtdpolaedfjljmaaSvH
namespace Go.Proofs.Ytdpolaedfjljmaa
open Go.RowKit
attribute [local go_sem ↓] Go.wp_at_zero Go.wp_at_succ

theorem lsV_len (s : ByteArray) : (lsV s).cs.length ≤ 65025 ∧ (lsV s).ks.length ≤ 255 ∧ (lsV s).ts.length ≤ 255 ∧ (lsV s).es.length ≤ 255 := by
  have h := ldE_bd s
  unfold lsV
  split
  · refine ⟨?_, ?_, ?_, ?_⟩
    · show (nums4 _ _ _ _).length ≤ _; rw [nums4_len]; exact h.1
    · show (nums4 _ _ _ _).length ≤ _; rw [nums4_len]; exact h.2.1
    · show (nums4 _ _ _ _).length ≤ _; rw [nums4_len]; exact h.2.1
    · show (nums4 _ _ _ _).length ≤ _; rw [nums4_len]; exact h.2.1
  · exact ⟨Nat.zero_le _, Nat.zero_le _, Nat.zero_le _, Nat.zero_le _⟩

set_option maxRecDepth 20000 in
set_option maxHeartbeats 4000000 in
theorem lawLoadSaved_walk {s : ByteArray} {w : World} :
    Calls Try.prog 3 #[.string s] w fun e w' => e = .returned (.bool true) ∧ Below w.heap.size w w' := by
  by_cases hs : s.size ≤ 1048576
  · have HS := Lib.hid (fun w' => specLoadSaved_any (s := s) (w := w') hs)
    have HI := Lib.hid (fun w' => loadSaved_any (s := s) (w := w') hs)
    obtain ⟨l1, l2, l3, l4⟩ := lsV_len s
    generalize lsV s = x at HS HI l1 l2 l3 l4
    generalize lsOk s = ok at HS HI
    obtain ⟨tot, htot⟩ : ∃ t, 1 + x.cs.length + x.ks.length + x.ts.length + x.es.length = t := ⟨_, rfl⟩
    have htb : tot ≤ 4611686018427387904 := by omega
    have HTOT := Lib.hid htot
    clear htot
    have hsz2 : ¬ (1048576 : Int) < (s.size : Int) := by omega
    have hnb : (ok ^^ ok) = false := by simp
    have hnb2 : (ok != ok) = false := by simp
    have hnf : ((tot : Int) != (tot : Int)) = false := by simp
    have hng : ¬ ((tot : Int) < 0) := by omega
    go_enter Try.func3, Try.ntmps3
    go_wp2_with fail
    refine (HS.out _).mono ?_
    rintro e w1 ⟨h1, rfl, o1, sp1, b1⟩
    have B1 := Lib.hid b1
    have O1 := Lib.hid o1
    clear b1 o1 sp1
    go_upto_region 4 with (fail)
    have X1 : Hid (Blk (w1.alloc (.cells (svV h1 x) 28)) w1.heap.size (svV h1 x) 28) := Lib.hid (Blk.new _ _ _)
    have D1 : Hid (Below w1.heap.size w1 (w1.alloc (.cells (svV h1 x) 28))) := Lib.hid ((Below.refl _ _).alloc (Nat.le_refl _) _)
    change Code.wp _ _ _ _ (w1.alloc (.cells (svV h1 x) 28))
    generalize w1.alloc (.cells (svV h1 x) 28) = w1b at X1 D1 ⊢
    have O1b := Lib.hid (O1.out.below D1.out (Nat.le_refl _))
    have B1b := Lib.hid (B1.out.trans (D1.out.mono B1.out.size))
    clear O1 B1 D1
    generalize w1.heap.size = p1 at X1 ⊢
    go_wp2_with fail
    refine (HI.out _).mono ?_
    rintro e w2 ⟨h2, rfl, o2, sp2, b2⟩
    have C2 := Lib.hid b2
    have O2 := Lib.hid o2
    have HLT := Lib.hid (And.intro o2.cs.lt (And.intro o2.ks.lt (And.intro o2.ts.lt o2.es.lt)))
    have SP2 := Lib.hid sp2
    clear b2 o2 sp2
    go_upto_region 5 with (fail)
    have X2 : Hid (Blk (w2.alloc (.cells (svV h2 x) 28)) w2.heap.size (svV h2 x) 28) := Lib.hid (Blk.new _ _ _)
    have D2 : Hid (Below w2.heap.size w2 (w2.alloc (.cells (svV h2 x) 28))) := Lib.hid ((Below.refl _ _).alloc (Nat.le_refl _) _)
    change Code.wp _ _ _ _ (w2.alloc (.cells (svV h2 x) 28))
    generalize w2.alloc (.cells (svV h2 x) 28) = w2b at X2 D2 ⊢
    have O2b := Lib.hid (O2.out.below D2.out (Nat.le_refl _))
    have C2b := Lib.hid (C2.out.trans (D2.out.mono C2.out.size))
    have hp2 := C2.out.size
    have HP2 := Lib.hid hp2
    clear O2 C2 D2 hp2
    generalize w2.heap.size = p2 at X2 HP2 HLT ⊢
    have X1c := Lib.hid (X1.out.below C2b.out (Nat.le_refl _))
    have r0 := X1c.out.cell (i := 0) (v := .string x.nm) rfl
    have r1 := X1c.out.cell (i := 1) (v := .int .i64 x.W) rfl
    have r2 := X1c.out.cell (i := 2) (v := .int .i64 x.D) rfl
    have r3 := X1c.out.cell (i := 3) (v := .int .i64 x.S) rfl
    have r4 := X1c.out.cell (i := 4) (v := .slice h1.a0 x.cs.length h1.c0) rfl
    have r5 := X1c.out.cell (i := 5) (v := .int .i64 x.R) rfl
    have r6 := X1c.out.cell (i := 6) (v := .slice h1.a1 x.ks.length h1.c1) rfl
    have r7 := X1c.out.cell (i := 7) (v := .slice h1.a2 x.ts.length h1.c2) rfl
    have r8 := X1c.out.cell (i := 8) (v := .slice h1.a3 x.es.length h1.c3) rfl
    have q0 := X2.out.cell (i := 0) (v := .string x.nm) rfl
    have q1 := X2.out.cell (i := 1) (v := .int .i64 x.W) rfl
    have q2 := X2.out.cell (i := 2) (v := .int .i64 x.D) rfl
    have q3 := X2.out.cell (i := 3) (v := .int .i64 x.S) rfl
    have q4 := X2.out.cell (i := 4) (v := .slice h2.a0 x.cs.length h2.c0) rfl
    have q5 := X2.out.cell (i := 5) (v := .int .i64 x.R) rfl
    have q6 := X2.out.cell (i := 6) (v := .slice h2.a1 x.ks.length h2.c1) rfl
    have q7 := X2.out.cell (i := 7) (v := .slice h2.a2 x.ts.length h2.c2) rfl
    have q8 := X2.out.cell (i := 8) (v := .slice h2.a3 x.es.length h2.c3) rfl
    go_wp2_with fail
    refine (eqSv_same O2b.out.rd (O1b.out.below C2b.out (Nat.le_refl _)).rd).mono ?_
    rintro e w3 ⟨rfl, b3⟩
    have O3 := Lib.hid (O2b.out.below b3 (Nat.le_refl _))
    have C3 := Lib.hid (C2b.out.trans (b3.mono C2b.out.size))
    have X3 := Lib.hid (X2.out.below b3 (Nat.le_refl _))
    clear b3 O2b C2b X2 X1c
    clear r0 r1 r2 r3 r4 r5 r6 r7 r8 q0 q1 q2 q3 q4 q5 q6 q7 q8
    have q0 := X3.out.cell (i := 0) (v := .string x.nm) rfl
    have q1 := X3.out.cell (i := 1) (v := .int .i64 x.W) rfl
    have q2 := X3.out.cell (i := 2) (v := .int .i64 x.D) rfl
    have q3 := X3.out.cell (i := 3) (v := .int .i64 x.S) rfl
    have q4 := X3.out.cell (i := 4) (v := .slice h2.a0 x.cs.length h2.c0) rfl
    have q5 := X3.out.cell (i := 5) (v := .int .i64 x.R) rfl
    have q6 := X3.out.cell (i := 6) (v := .slice h2.a1 x.ks.length h2.c1) rfl
    have q7 := X3.out.cell (i := 7) (v := .slice h2.a2 x.ts.length h2.c2) rfl
    have q8 := X3.out.cell (i := 8) (v := .slice h2.a3 x.es.length h2.c3) rfl
    go_wp2_with fail
    refine (markSaved_any (k0 := 1) O3.out HLT.out SP2.out (by omega)).mono ?_
    rintro e w4 ⟨rfl, o4, t4⟩
    rw [HTOT.out]
    have X4 := Lib.hid (X3.out.turned t4 (.inr (Nat.le_refl _)))
    have O4 := Lib.hid o4
    have C4 := Lib.hid (C3.out.trans (t4.below (Nat.le_refl _) C3.out.size))
    clear o4 t4 X3 O3 C3
    clear q0 q1 q2 q3 q4 q5 q6 q7 q8
    have q0 := X4.out.cell (i := 0) (v := .string x.nm) rfl
    have q1 := X4.out.cell (i := 1) (v := .int .i64 x.W) rfl
    have q2 := X4.out.cell (i := 2) (v := .int .i64 x.D) rfl
    have q3 := X4.out.cell (i := 3) (v := .int .i64 x.S) rfl
    have q4 := X4.out.cell (i := 4) (v := .slice h2.a0 x.cs.length h2.c0) rfl
    have q5 := X4.out.cell (i := 5) (v := .int .i64 x.R) rfl
    have q6 := X4.out.cell (i := 6) (v := .slice h2.a1 x.ks.length h2.c1) rfl
    have q7 := X4.out.cell (i := 7) (v := .slice h2.a2 x.ts.length h2.c2) rfl
    have q8 := X4.out.cell (i := 8) (v := .slice h2.a3 x.es.length h2.c3) rfl
    go_wp2_with fail
    refine (heldSaved_any (k0 := 1) (x := x) O4.out.rd (by omega)).mono ?_
    rintro e w5 ⟨rfl, b5⟩
    rw [HTOT.out]
    have O5 := Lib.hid (O4.out.below b5 (Nat.le_refl _))
    have C5 := Lib.hid (C4.out.trans (b5.mono C4.out.size))
    have X5 := Lib.hid (X4.out.below b5 (Nat.le_refl _))
    clear b5 O4 C4 X4
    clear q0 q1 q2 q3 q4 q5 q6 q7 q8
    go_wp2_with fail
    refine (HI.out _).mono ?_
    rintro e w6 ⟨h6, rfl, o6, sp6, b6⟩
    have O6 := Lib.hid (O5.out.below b6 (Nat.le_refl _))
    have C6 := Lib.hid (C5.out.trans (b6.mono C5.out.size))
    have X6 := Lib.hid (X5.out.below b6 (Nat.le_refl _))
    have N6 := Lib.hid o6
    clear b6 O5 C5 X5 o6 sp6
    go_upto_region 16 with (fail)
    have X7 : Hid (Blk (w6.alloc (.cells (svV h6 x) 28)) w6.heap.size (svV h6 x) 28) := Lib.hid (Blk.new _ _ _)
    have D7 : Hid (Below w6.heap.size w6 (w6.alloc (.cells (svV h6 x) 28))) := Lib.hid ((Below.refl _ _).alloc (Nat.le_refl _) _)
    change Code.wp _ _ _ _ (w6.alloc (.cells (svV h6 x) 28))
    generalize w6.alloc (.cells (svV h6 x) 28) = w6b at X7 D7 ⊢
    have O7 := Lib.hid (O6.out.below D7.out (Nat.le_refl _))
    have N7 := Lib.hid (N6.out.below D7.out (Nat.le_refl _))
    have C7 := Lib.hid (C6.out.trans (D7.out.mono C6.out.size))
    have Y7 := Lib.hid (X6.out.below D7.out (Nat.le_refl _))
    clear O6 N6 C6 X6 D7
    generalize w6.heap.size = p6 at X7 ⊢
    have X1d := Lib.hid (X1.out.below C7.out (Nat.le_refl _))
    have r0 := X1d.out.cell (i := 0) (v := .string x.nm) rfl
    have r1 := X1d.out.cell (i := 1) (v := .int .i64 x.W) rfl
    have r2 := X1d.out.cell (i := 2) (v := .int .i64 x.D) rfl
    have r3 := X1d.out.cell (i := 3) (v := .int .i64 x.S) rfl
    have r4 := X1d.out.cell (i := 4) (v := .slice h1.a0 x.cs.length h1.c0) rfl
    have r5 := X1d.out.cell (i := 5) (v := .int .i64 x.R) rfl
    have r6 := X1d.out.cell (i := 6) (v := .slice h1.a1 x.ks.length h1.c1) rfl
    have r7 := X1d.out.cell (i := 7) (v := .slice h1.a2 x.ts.length h1.c2) rfl
    have r8 := X1d.out.cell (i := 8) (v := .slice h1.a3 x.es.length h1.c3) rfl
    have q0 := X7.out.cell (i := 0) (v := .string x.nm) rfl
    have q1 := X7.out.cell (i := 1) (v := .int .i64 x.W) rfl
    have q2 := X7.out.cell (i := 2) (v := .int .i64 x.D) rfl
    have q3 := X7.out.cell (i := 3) (v := .int .i64 x.S) rfl
    have q4 := X7.out.cell (i := 4) (v := .slice h6.a0 x.cs.length h6.c0) rfl
    have q5 := X7.out.cell (i := 5) (v := .int .i64 x.R) rfl
    have q6 := X7.out.cell (i := 6) (v := .slice h6.a1 x.ks.length h6.c1) rfl
    have q7 := X7.out.cell (i := 7) (v := .slice h6.a2 x.ts.length h6.c2) rfl
    have q8 := X7.out.cell (i := 8) (v := .slice h6.a3 x.es.length h6.c3) rfl
    go_wp2_with fail
    refine (eqSv_same N7.out.rd (O1b.out.below C7.out (Nat.le_refl _)).rd).mono ?_
    rintro e w8 ⟨rfl, b8⟩
    have O8 := Lib.hid (O7.out.below b8 (Nat.le_refl _))
    have C8 := Lib.hid (C7.out.trans (b8.mono C7.out.size))
    have Y8 := Lib.hid (Y7.out.below b8 (Nat.le_refl _))
    clear b8 O7 N7 C7 Y7 X7 X1d
    clear r0 r1 r2 r3 r4 r5 r6 r7 r8 q0 q1 q2 q3 q4 q5 q6 q7 q8
    have q0 := Y8.out.cell (i := 0) (v := .string x.nm) rfl
    have q1 := Y8.out.cell (i := 1) (v := .int .i64 x.W) rfl
    have q2 := Y8.out.cell (i := 2) (v := .int .i64 x.D) rfl
    have q3 := Y8.out.cell (i := 3) (v := .int .i64 x.S) rfl
    have q4 := Y8.out.cell (i := 4) (v := .slice h2.a0 x.cs.length h2.c0) rfl
    have q5 := Y8.out.cell (i := 5) (v := .int .i64 x.R) rfl
    have q6 := Y8.out.cell (i := 6) (v := .slice h2.a1 x.ks.length h2.c1) rfl
    have q7 := Y8.out.cell (i := 7) (v := .slice h2.a2 x.ts.length h2.c2) rfl
    have q8 := Y8.out.cell (i := 8) (v := .slice h2.a3 x.es.length h2.c3) rfl
    go_wp2_with fail
    refine (heldSaved_any (k0 := 1) (x := x) O8.out.rd (by omega)).mono ?_
    rintro e w9 ⟨rfl, b9⟩
    rw [HTOT.out]
    have C9 := Lib.hid (C8.out.trans (b9.mono C8.out.size))
    clear b9 O8 C8 Y8
    clear q0 q1 q2 q3 q4 q5 q6 q7 q8
    go_wp2
    go_ret
    exact ⟨rfl, B1b.out.trans (C9.out.mono B1b.out.size)⟩
  · have hd : (1048576 : Int) < (s.size : Int) := by omega
    go_enter Try.func3, Try.ntmps3
    go_wp2
    go_ret
    exact ⟨rfl, Below.refl _ _⟩

end Go.Proofs.Ytdpolaedfjljmaa
