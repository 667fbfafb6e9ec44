/- Are two the same: Tops. -/
import Derived.Test.YtdpolaedfjljmaaSeqL00
import Derived.Test.YtdpolaedfjljmaaSeqSlI
import Derived.Test.YtdpolaedfjljmaaLib
import Derived.Test.YtdpolaedfjljmaaCalm
namespace Go.Proofs.Ytdpolaedfjljmaa
open Go.RowKit

def sameTops (R1 R2 : Int) (ks1 ks2 : List Int) (ts1 ts2 : List Int) (es1 es2 : List Int) : Bool := decide (R1 = R2) && decide (ks1 = ks2) && decide (ts1 = ts2) && decide (es1 = es2)

set_option maxHeartbeats 1000000 in
theorem sameTopsI_any {aks1 : Option Addr} {cks1 : Nat} {ks1 : List Int} {aks2 : Option Addr} {cks2 : Nat} {ks2 : List Int} {ats1 : Option Addr} {cts1 : Nat} {ts1 : List Int} {ats2 : Option Addr} {cts2 : Nat} {ts2 : List Int} {aes1 : Option Addr} {ces1 : Nat} {es1 : List Int} {aes2 : Option Addr} {ces2 : Nat} {es2 : List Int} {R1 R2 : Int} {w : World} (hks1 : Rd (Value.int .i64) w aks1 cks1 ks1) (hks2 : Rd (Value.int .i64) w aks2 cks2 ks2) (hts1 : Rd (Value.int .i64) w ats1 cts1 ts1) (hts2 : Rd (Value.int .i64) w ats2 cts2 ts2) (hes1 : Rd (Value.int .i64) w aes1 ces1 es1) (hes2 : Rd (Value.int .i64) w aes2 ces2 es2) :
    Calls Try.prog 77 #[.agg #[.int .i64 R1, .slice aks1 ks1.length cks1, .slice ats1 ts1.length cts1, .slice aes1 es1.length ces1], .agg #[.int .i64 R2, .slice aks2 ks2.length cks2, .slice ats2 ts2.length cts2, .slice aes2 es2.length ces2]] w fun e w' => e = .returned (.bool (sameTops R1 R2 ks1 ks2 ts1 ts2 es1 es2)) ∧ Below w.heap.size w w' := by
  have B0 : Below w.heap.size w ((w.alloc (.cells #[.int .i64 R1, .slice aks1 ks1.length cks1, .slice ats1 ts1.length cts1, .slice aes1 es1.length ces1] 26)).alloc (.cells #[.int .i64 R2, .slice aks2 ks2.length cks2, .slice ats2 ts2.length cts2, .slice aes2 es2.length ces2] 26)) := ((Below.refl _ _).alloc (Nat.le_refl _) _).alloc (by simp) _
  have I0 : Blk ((w.alloc (.cells #[.int .i64 R1, .slice aks1 ks1.length cks1, .slice ats1 ts1.length cts1, .slice aes1 es1.length ces1] 26)).alloc (.cells #[.int .i64 R2, .slice aks2 ks2.length cks2, .slice ats2 ts2.length cts2, .slice aes2 es2.length ces2] 26)) w.heap.size #[.int .i64 R1, .slice aks1 ks1.length cks1, .slice ats1 ts1.length cts1, .slice aes1 es1.length ces1] 26 := (Blk.new _ _ _).alloc _
  have J0 : Blk ((w.alloc (.cells #[.int .i64 R1, .slice aks1 ks1.length cks1, .slice ats1 ts1.length cts1, .slice aes1 es1.length ces1] 26)).alloc (.cells #[.int .i64 R2, .slice aks2 ks2.length cks2, .slice ats2 ts2.length cts2, .slice aes2 es2.length ces2] 26)) (w.heap.size + 1) #[.int .i64 R2, .slice aks2 ks2.length cks2, .slice ats2 ts2.length cts2, .slice aes2 es2.length ces2] 26 := Blk.new' (by simp)
  have H0 := Lib.hid (And.intro B0 (And.intro I0 J0))
  clear B0 I0 J0
  by_cases g0 : R1 = R2
  case neg =>
    have hd0 : (R1 == R2) = false := by simpa using g0
    have E0 : Hid (¬ R1 = R2) := g0
    clear g0
    go_enter Try.func77, Try.ntmps77
    go_wp2
    go_ret
    exact ⟨ret_bool (by simp [sameTops, E0.out]), H0.out.1⟩
  have hd0 : (R1 == R2) = true := by simpa using g0
  have E0 : Hid (R1 = R2) := g0
  clear g0
  cases g1 : decide (ks1 = ks2) with
  | false =>
    have E1 := Lib.hid g1
    clear g1
    go_enter Try.func77, Try.ntmps77
    go_wp2_with fail
    generalize ((w.alloc (.cells #[.int .i64 R1, .slice aks1 ks1.length cks1, .slice ats1 ts1.length cts1, .slice aes1 es1.length ces1] 26)).alloc (.cells #[.int .i64 R2, .slice aks2 ks2.length cks2, .slice ats2 ts2.length cts2, .slice aes2 es2.length ces2] 26)) = W0 at H0 ⊢
    have B0 := Lib.hid H0.out.1
    have I0 := Lib.hid H0.out.2.1
    have J0 := Lib.hid H0.out.2.2
    clear H0
    refine (seqSlI_any (hks1.below B0.out (Nat.le_refl _)) (hks2.below B0.out (Nat.le_refl _))).mono ?_
    rintro e w1 ⟨rfl, n0, rfl⟩
    rw [E1.out]
    have hb0 := below_of_drewN W0 n0 W0.heap.size
    have B1 := Lib.hid (B0.out.trans (hb0.mono B0.out.size))
    have I1 := Lib.hid (I0.out.below hb0 (Nat.le_refl _))
    have J1 := Lib.hid (J0.out.below hb0 (Nat.le_refl _))
    clear hb0 B0 I0 J0
    generalize W0.drewN n0 = w1' at B1 I1 J1 ⊢
    go_wp2
    go_ret
    exact ⟨ret_bool (by simp only [sameTops, E1.out]; simp), B1.out⟩
  | true =>
  have E1 := Lib.hid g1
  clear g1
  cases g2 : decide (ts1 = ts2) with
  | false =>
    have E2 := Lib.hid g2
    clear g2
    go_enter Try.func77, Try.ntmps77
    go_wp2_with fail
    generalize ((w.alloc (.cells #[.int .i64 R1, .slice aks1 ks1.length cks1, .slice ats1 ts1.length cts1, .slice aes1 es1.length ces1] 26)).alloc (.cells #[.int .i64 R2, .slice aks2 ks2.length cks2, .slice ats2 ts2.length cts2, .slice aes2 es2.length ces2] 26)) = W0 at H0 ⊢
    have B0 := Lib.hid H0.out.1
    have I0 := Lib.hid H0.out.2.1
    have J0 := Lib.hid H0.out.2.2
    clear H0
    refine (seqSlI_any (hks1.below B0.out (Nat.le_refl _)) (hks2.below B0.out (Nat.le_refl _))).mono ?_
    rintro e w1 ⟨rfl, n0, rfl⟩
    rw [E1.out]
    have hb0 := below_of_drewN W0 n0 W0.heap.size
    have B1 := Lib.hid (B0.out.trans (hb0.mono B0.out.size))
    have I1 := Lib.hid (I0.out.below hb0 (Nat.le_refl _))
    have J1 := Lib.hid (J0.out.below hb0 (Nat.le_refl _))
    clear hb0 B0 I0 J0
    generalize W0.drewN n0 = w1' at B1 I1 J1 ⊢
    have i1 := I1.out.cell (i := 2) (v := .slice ats1 ts1.length cts1) rfl
    have j1 := J1.out.cell (i := 2) (v := .slice ats2 ts2.length cts2) rfl
    go_wp2_with fail
    refine (seqSlI_any (hts1.below B1.out (Nat.le_refl _)) (hts2.below B1.out (Nat.le_refl _))).mono ?_
    rintro e w2 ⟨rfl, n1, rfl⟩
    rw [E2.out]
    have hb1 := below_of_drewN w1' n1 w1'.heap.size
    have B2 := Lib.hid (B1.out.trans (hb1.mono B1.out.size))
    have I2 := Lib.hid (I1.out.below hb1 (Nat.le_refl _))
    have J2 := Lib.hid (J1.out.below hb1 (Nat.le_refl _))
    clear hb1 B1 I1 J1 i1 j1
    generalize w1'.drewN n1 = w2' at B2 I2 J2 ⊢
    go_wp2
    go_ret
    exact ⟨ret_bool (by simp only [sameTops, E2.out]; simp), B2.out⟩
  | true =>
  have E2 := Lib.hid g2
  clear g2
  go_enter Try.func77, Try.ntmps77
  go_wp2_with fail
  generalize ((w.alloc (.cells #[.int .i64 R1, .slice aks1 ks1.length cks1, .slice ats1 ts1.length cts1, .slice aes1 es1.length ces1] 26)).alloc (.cells #[.int .i64 R2, .slice aks2 ks2.length cks2, .slice ats2 ts2.length cts2, .slice aes2 es2.length ces2] 26)) = W0 at H0 ⊢
  have B0 := Lib.hid H0.out.1
  have I0 := Lib.hid H0.out.2.1
  have J0 := Lib.hid H0.out.2.2
  clear H0
  refine (seqSlI_any (hks1.below B0.out (Nat.le_refl _)) (hks2.below B0.out (Nat.le_refl _))).mono ?_
  rintro e w1 ⟨rfl, n0, rfl⟩
  rw [E1.out]
  have hb0 := below_of_drewN W0 n0 W0.heap.size
  have B1 := Lib.hid (B0.out.trans (hb0.mono B0.out.size))
  have I1 := Lib.hid (I0.out.below hb0 (Nat.le_refl _))
  have J1 := Lib.hid (J0.out.below hb0 (Nat.le_refl _))
  clear hb0 B0 I0 J0
  generalize W0.drewN n0 = w1' at B1 I1 J1 ⊢
  have i1 := I1.out.cell (i := 2) (v := .slice ats1 ts1.length cts1) rfl
  have j1 := J1.out.cell (i := 2) (v := .slice ats2 ts2.length cts2) rfl
  go_wp2_with fail
  refine (seqSlI_any (hts1.below B1.out (Nat.le_refl _)) (hts2.below B1.out (Nat.le_refl _))).mono ?_
  rintro e w2 ⟨rfl, n1, rfl⟩
  rw [E2.out]
  have hb1 := below_of_drewN w1' n1 w1'.heap.size
  have B2 := Lib.hid (B1.out.trans (hb1.mono B1.out.size))
  have I2 := Lib.hid (I1.out.below hb1 (Nat.le_refl _))
  have J2 := Lib.hid (J1.out.below hb1 (Nat.le_refl _))
  clear hb1 B1 I1 J1 i1 j1
  generalize w1'.drewN n1 = w2' at B2 I2 J2 ⊢
  have i2 := I2.out.cell (i := 3) (v := .slice aes1 es1.length ces1) rfl
  have j2 := J2.out.cell (i := 3) (v := .slice aes2 es2.length ces2) rfl
  go_wp2_with fail
  refine (seqSlI_any (hes1.below B2.out (Nat.le_refl _)) (hes2.below B2.out (Nat.le_refl _))).mono ?_
  rintro e w3 ⟨rfl, n2, rfl⟩
  have hb2 := below_of_drewN w2' n2 w2'.heap.size
  have B3 := Lib.hid (B2.out.trans (hb2.mono B2.out.size))
  have I3 := Lib.hid (I2.out.below hb2 (Nat.le_refl _))
  have J3 := Lib.hid (J2.out.below hb2 (Nat.le_refl _))
  clear hb2 B2 I2 J2 i2 j2
  generalize w2'.drewN n2 = w3' at B3 I3 J3 ⊢
  go_wp2
  go_ret
  exact ⟨ret_bool (by have q0 : decide (R1 = R2) = true := (by simpa using E0.out); have q1 : decide (ks1 = ks2) = true := E1.out; have q2 : decide (ts1 = ts2) = true := E2.out; simp only [sameTops, q0, q1, q2]; simp), B3.out⟩

end Go.Proofs.Ytdpolaedfjljmaa
