/- The laws' helpers on desks. -/
import Derived.Test.YtkmmedhgpmeniaaStSieve
import Derived.Test.YtkmmedhgpmeniaaStZeros
import Derived.Test.YtkmmedhgpmeniaaWinG
namespace Go.Proofs.Ytkmmedhgpmeniaa
open Go.RowKit

/-- A desk in new memory. -/
def RetDesk (w : World) (R S Z L P : Int) (bs : List Bool) (zs : List Int) (ts : List Int) (ss : List Int) (ks : List Int) (en : Ending) (w' : World) : Prop :=
  ∃ pbs qbs pzs qzs pts qts pss qss pks qks, en = .returned (.agg #[.int .i64 R, .int .i64 S, .slice pbs bs.length qbs, .int .i64 Z, .slice pzs zs.length qzs, .int .i64 L, .int .i64 P, .slice pts ts.length qts, .slice pss ss.length qss, .slice pks ks.length qks]) ∧ Own (Value.bool) 4 w' w.heap.size pbs qbs bs ∧ Own (Value.int .i64) 2 w' w.heap.size pzs qzs zs ∧ Own (Value.int .i64) 2 w' w.heap.size pts qts ts ∧ Own (Value.int .i64) 2 w' w.heap.size pss qss ss ∧ Own (Value.int .i64) 2 w' w.heap.size pks qks ks ∧ Below w.heap.size w w'

set_option maxRecDepth 4000 in
set_option maxHeartbeats 2000000 in
theorem toDesk_any {abs : Option Addr} {cbs : Nat} {bs : List Bool} {azs : Option Addr} {czs : Nat} {zs : List Int} {ats : Option Addr} {cts : Nat} {ts : List Int} {ass : Option Addr} {css : Nat} {ss : List Int} {aks : Option Addr} {cks : Nat} {ks : List Int} {R S Z L P : Int} {w : World} (hbs : Rd (Value.bool) w abs cbs bs) (hzs : Rd (Value.int .i64) w azs czs zs) (hts : Rd (Value.int .i64) w ats cts ts) (hss : Rd (Value.int .i64) w ass css ss) (hks : Rd (Value.int .i64) w aks cks ks) (nbs : bs.length ≤ 1048576) (nzs : zs.length ≤ 1048576) (nts : ts.length ≤ 1048576) (nss : ss.length ≤ 1048576) (nks : ks.length ≤ 1048576) :
    Calls Try.prog 42 #[.agg #[.int .i64 R, .int .i64 S, .slice abs bs.length cbs, .int .i64 Z, .slice azs zs.length czs, .int .i64 L, .int .i64 P, .slice ats ts.length cts, .slice ass ss.length css, .slice aks ks.length cks]] w (RetDesk w R S Z L P bs zs ts ss ks) := by
  have B0 : Below w.heap.size w (((w.alloc (.cells #[.int .i64 R, .int .i64 S, .slice abs bs.length cbs, .int .i64 Z, .slice azs zs.length czs, .int .i64 L, .int .i64 P, .slice ats ts.length cts, .slice ass ss.length css, .slice aks ks.length cks] 64)).alloc (.cells #[.int .i64 0, .int .i64 0, .slice none 0 0, .int .i64 0, .slice none 0 0, .int .i64 0, .int .i64 0, .slice none 0 0, .slice none 0 0, .slice none 0 0] 43)).alloc (.cells #[.int .i64 0, .int .i64 0, .slice none 0 0, .int .i64 0, .slice none 0 0, .int .i64 0, .int .i64 0, .slice none 0 0, .slice none 0 0, .slice none 0 0] 43)) := (((Below.refl _ _).alloc (Nat.le_refl _) _).alloc (by simp) _).alloc (by simp; omega) _
  have I0 : Blk (((w.alloc (.cells #[.int .i64 R, .int .i64 S, .slice abs bs.length cbs, .int .i64 Z, .slice azs zs.length czs, .int .i64 L, .int .i64 P, .slice ats ts.length cts, .slice ass ss.length css, .slice aks ks.length cks] 64)).alloc (.cells #[.int .i64 0, .int .i64 0, .slice none 0 0, .int .i64 0, .slice none 0 0, .int .i64 0, .int .i64 0, .slice none 0 0, .slice none 0 0, .slice none 0 0] 43)).alloc (.cells #[.int .i64 0, .int .i64 0, .slice none 0 0, .int .i64 0, .slice none 0 0, .int .i64 0, .int .i64 0, .slice none 0 0, .slice none 0 0, .slice none 0 0] 43)) w.heap.size #[.int .i64 R, .int .i64 S, .slice abs bs.length cbs, .int .i64 Z, .slice azs zs.length czs, .int .i64 L, .int .i64 P, .slice ats ts.length cts, .slice ass ss.length css, .slice aks ks.length cks] 64 := ((Blk.new _ _ _).alloc _).alloc _
  have R0 : Blk (((w.alloc (.cells #[.int .i64 R, .int .i64 S, .slice abs bs.length cbs, .int .i64 Z, .slice azs zs.length czs, .int .i64 L, .int .i64 P, .slice ats ts.length cts, .slice ass ss.length css, .slice aks ks.length cks] 64)).alloc (.cells #[.int .i64 0, .int .i64 0, .slice none 0 0, .int .i64 0, .slice none 0 0, .int .i64 0, .int .i64 0, .slice none 0 0, .slice none 0 0, .slice none 0 0] 43)).alloc (.cells #[.int .i64 0, .int .i64 0, .slice none 0 0, .int .i64 0, .slice none 0 0, .int .i64 0, .int .i64 0, .slice none 0 0, .slice none 0 0, .slice none 0 0] 43)) (w.heap.size + 1) #[.int .i64 0, .int .i64 0, .slice none 0 0, .int .i64 0, .slice none 0 0, .int .i64 0, .int .i64 0, .slice none 0 0, .slice none 0 0, .slice none 0 0] 43 := (Blk.new' (by simp)).alloc _
  have U0 : Blk (((w.alloc (.cells #[.int .i64 R, .int .i64 S, .slice abs bs.length cbs, .int .i64 Z, .slice azs zs.length czs, .int .i64 L, .int .i64 P, .slice ats ts.length cts, .slice ass ss.length css, .slice aks ks.length cks] 64)).alloc (.cells #[.int .i64 0, .int .i64 0, .slice none 0 0, .int .i64 0, .slice none 0 0, .int .i64 0, .int .i64 0, .slice none 0 0, .slice none 0 0, .slice none 0 0] 43)).alloc (.cells #[.int .i64 0, .int .i64 0, .slice none 0 0, .int .i64 0, .slice none 0 0, .int .i64 0, .int .i64 0, .slice none 0 0, .slice none 0 0, .slice none 0 0] 43)) (w.heap.size + 1 + 1) #[.int .i64 0, .int .i64 0, .slice none 0 0, .int .i64 0, .slice none 0 0, .int .i64 0, .int .i64 0, .slice none 0 0, .slice none 0 0, .slice none 0 0] 43 := Blk.new' (by simp)
  have H0 := Lib.hid (And.intro B0 (And.intro I0 (And.intro R0 U0)))
  clear B0 I0 R0 U0
  go_enter Try.func42, Try.ntmps42
  go_wp2_with fail
  generalize ((w.alloc (.cells #[.int .i64 R, .int .i64 S, .slice abs bs.length cbs, .int .i64 Z, .slice azs zs.length czs, .int .i64 L, .int .i64 P, .slice ats ts.length cts, .slice ass ss.length css, .slice aks ks.length cks] 64)).alloc (.cells #[.int .i64 0, .int .i64 0, .slice none 0 0, .int .i64 0, .slice none 0 0, .int .i64 0, .int .i64 0, .slice none 0 0, .slice none 0 0, .slice none 0 0] 43)).alloc (.cells #[.int .i64 0, .int .i64 0, .slice none 0 0, .int .i64 0, .slice none 0 0, .int .i64 0, .int .i64 0, .slice none 0 0, .slice none 0 0, .slice none 0 0] 43) = W0 at H0 ⊢
  have B0 := Lib.hid H0.out.1
  have I0 := Lib.hid H0.out.2.1
  have R0 := Lib.hid H0.out.2.2.1
  have U0 := Lib.hid H0.out.2.2.2
  have z0 : w.heap.size + 1 + 1 < W0.heap.size := U0.out.lt
  clear H0
  refine (toSieve_any (hbs.below B0.out (Nat.le_refl _)) nbs).mono ?_
  rintro e w1 ⟨pbs, qbs, rfl, obs, hb0⟩
  have I0' := I0.out.below hb0 (Nat.le_refl _)
  have R0' := R0.out.below hb0 (Nat.le_refl _)
  have U0' := U0.out.below hb0 (Nat.le_refl _)
  have B0' := B0.out.trans (hb0.mono B0.out.size)
  have Obs := Lib.hid (obs.mono (b' := w.heap.size + 1 + 1 + 1) z0)
  clear obs hb0 I0 R0 U0 B0 z0
  have u0 := U0'.cell (i := 0) (v := .int .i64 0) rfl
  have uf0 := U0'.free 0
  have u1 := U0'.cell (i := 1) (v := .int .i64 0) rfl
  have uf1 := U0'.free 1
  have u2 := U0'.cell (i := 2) (v := .slice none 0 0) rfl
  have uf2 := U0'.free 2
  have i3 := I0'.cell (i := 3) (v := .int .i64 Z) rfl
  have i4 := I0'.cell (i := 4) (v := .slice azs zs.length czs) rfl
  have U1 : Hid (Blk (((w1.setCell ⟨w.heap.size + 1 + 1, 0, none⟩ (.int .i64 R)).setCell ⟨w.heap.size + 1 + 1, 1, none⟩ (.int .i64 S)).setCell ⟨w.heap.size + 1 + 1, 2, none⟩ (.slice pbs bs.length qbs)) (w.heap.size + 1 + 1) #[.int .i64 R, .int .i64 S, .slice pbs bs.length qbs, .int .i64 0, .slice none 0 0, .int .i64 0, .int .i64 0, .slice none 0 0, .slice none 0 0, .slice none 0 0] 43) := (((U0'.set 0 (.int .i64 R)).set 1 (.int .i64 S)).set 2 (.slice pbs bs.length qbs))
  have I1 : Hid (Blk (((w1.setCell ⟨w.heap.size + 1 + 1, 0, none⟩ (.int .i64 R)).setCell ⟨w.heap.size + 1 + 1, 1, none⟩ (.int .i64 S)).setCell ⟨w.heap.size + 1 + 1, 2, none⟩ (.slice pbs bs.length qbs)) w.heap.size #[.int .i64 R, .int .i64 S, .slice abs bs.length cbs, .int .i64 Z, .slice azs zs.length czs, .int .i64 L, .int .i64 P, .slice ats ts.length cts, .slice ass ss.length css, .slice aks ks.length cks] 64) := (((I0'.far (p := ⟨w.heap.size + 1 + 1, 0, none⟩) (by simp; omega) (.int .i64 R)).far (p := ⟨w.heap.size + 1 + 1, 1, none⟩) (by simp; omega) (.int .i64 S)).far (p := ⟨w.heap.size + 1 + 1, 2, none⟩) (by simp; omega) (.slice pbs bs.length qbs))
  have R1 : Hid (Blk (((w1.setCell ⟨w.heap.size + 1 + 1, 0, none⟩ (.int .i64 R)).setCell ⟨w.heap.size + 1 + 1, 1, none⟩ (.int .i64 S)).setCell ⟨w.heap.size + 1 + 1, 2, none⟩ (.slice pbs bs.length qbs)) (w.heap.size + 1) #[.int .i64 0, .int .i64 0, .slice none 0 0, .int .i64 0, .slice none 0 0, .int .i64 0, .int .i64 0, .slice none 0 0, .slice none 0 0, .slice none 0 0] 43) := (((R0'.far (p := ⟨w.heap.size + 1 + 1, 0, none⟩) (by simp) (.int .i64 R)).far (p := ⟨w.heap.size + 1 + 1, 1, none⟩) (by simp) (.int .i64 S)).far (p := ⟨w.heap.size + 1 + 1, 2, none⟩) (by simp) (.slice pbs bs.length qbs))
  have B1 : Hid (Below w.heap.size w (((w1.setCell ⟨w.heap.size + 1 + 1, 0, none⟩ (.int .i64 R)).setCell ⟨w.heap.size + 1 + 1, 1, none⟩ (.int .i64 S)).setCell ⟨w.heap.size + 1 + 1, 2, none⟩ (.slice pbs bs.length qbs))) := (((B0'.setCell (by simp; omega) _).setCell (by simp; omega) _).setCell (by simp; omega) _)
  replace Obs := Lib.hid (((Obs.out.setFar ⟨w.heap.size + 1 + 1, 0, none⟩ (.int .i64 R) (by simp)).setFar ⟨w.heap.size + 1 + 1, 1, none⟩ (.int .i64 S) (by simp)).setFar ⟨w.heap.size + 1 + 1, 2, none⟩ (.slice pbs bs.length qbs) (by simp))
  clear I0' R0' U0' B0'
  go_wp2_with fail
  have z1 : w.heap.size + 1 + 1 < (((w1.setCell ⟨w.heap.size + 1 + 1, 0, none⟩ (.int .i64 R)).setCell ⟨w.heap.size + 1 + 1, 1, none⟩ (.int .i64 S)).setCell ⟨w.heap.size + 1 + 1, 2, none⟩ (.slice pbs bs.length qbs)).heap.size := U1.out.lt
  generalize (((w1.setCell ⟨w.heap.size + 1 + 1, 0, none⟩ (.int .i64 R)).setCell ⟨w.heap.size + 1 + 1, 1, none⟩ (.int .i64 S)).setCell ⟨w.heap.size + 1 + 1, 2, none⟩ (.slice pbs bs.length qbs)) = W1 at U1 I1 R1 B1 z1 Obs ⊢
  refine (toZeros_any (hzs.below B1.out (Nat.le_refl _)) nzs).mono ?_
  rintro e w2 ⟨pzs, qzs, rfl, ozs, hb1⟩
  have I1' := I1.out.below hb1 (Nat.le_refl _)
  have R1' := R1.out.below hb1 (Nat.le_refl _)
  have U1' := U1.out.below hb1 (Nat.le_refl _)
  have B1' := B1.out.trans (hb1.mono B1.out.size)
  replace Obs := Lib.hid (Obs.out.below hb1 (Nat.le_refl _))
  have Ozs := Lib.hid (ozs.mono (b' := w.heap.size + 1 + 1 + 1) z1)
  clear ozs hb1 I1 R1 U1 B1 z1 u0 uf0 u1 uf1 u2 uf2 i3 i4
  have u3 := U1'.cell (i := 3) (v := .int .i64 0) rfl
  have uf3 := U1'.free 3
  have u4 := U1'.cell (i := 4) (v := .slice none 0 0) rfl
  have uf4 := U1'.free 4
  have i5 := I1'.cell (i := 5) (v := .int .i64 L) rfl
  have i6 := I1'.cell (i := 6) (v := .int .i64 P) rfl
  have i7 := I1'.cell (i := 7) (v := .slice ats ts.length cts) rfl
  have i8 := I1'.cell (i := 8) (v := .slice ass ss.length css) rfl
  have U2 : Hid (Blk ((w2.setCell ⟨w.heap.size + 1 + 1, 3, none⟩ (.int .i64 Z)).setCell ⟨w.heap.size + 1 + 1, 4, none⟩ (.slice pzs zs.length qzs)) (w.heap.size + 1 + 1) #[.int .i64 R, .int .i64 S, .slice pbs bs.length qbs, .int .i64 Z, .slice pzs zs.length qzs, .int .i64 0, .int .i64 0, .slice none 0 0, .slice none 0 0, .slice none 0 0] 43) := ((U1'.set 3 (.int .i64 Z)).set 4 (.slice pzs zs.length qzs))
  have I2 : Hid (Blk ((w2.setCell ⟨w.heap.size + 1 + 1, 3, none⟩ (.int .i64 Z)).setCell ⟨w.heap.size + 1 + 1, 4, none⟩ (.slice pzs zs.length qzs)) w.heap.size #[.int .i64 R, .int .i64 S, .slice abs bs.length cbs, .int .i64 Z, .slice azs zs.length czs, .int .i64 L, .int .i64 P, .slice ats ts.length cts, .slice ass ss.length css, .slice aks ks.length cks] 64) := ((I1'.far (p := ⟨w.heap.size + 1 + 1, 3, none⟩) (by simp; omega) (.int .i64 Z)).far (p := ⟨w.heap.size + 1 + 1, 4, none⟩) (by simp; omega) (.slice pzs zs.length qzs))
  have R2 : Hid (Blk ((w2.setCell ⟨w.heap.size + 1 + 1, 3, none⟩ (.int .i64 Z)).setCell ⟨w.heap.size + 1 + 1, 4, none⟩ (.slice pzs zs.length qzs)) (w.heap.size + 1) #[.int .i64 0, .int .i64 0, .slice none 0 0, .int .i64 0, .slice none 0 0, .int .i64 0, .int .i64 0, .slice none 0 0, .slice none 0 0, .slice none 0 0] 43) := ((R1'.far (p := ⟨w.heap.size + 1 + 1, 3, none⟩) (by simp) (.int .i64 Z)).far (p := ⟨w.heap.size + 1 + 1, 4, none⟩) (by simp) (.slice pzs zs.length qzs))
  have B2 : Hid (Below w.heap.size w ((w2.setCell ⟨w.heap.size + 1 + 1, 3, none⟩ (.int .i64 Z)).setCell ⟨w.heap.size + 1 + 1, 4, none⟩ (.slice pzs zs.length qzs))) := ((B1'.setCell (by simp; omega) _).setCell (by simp; omega) _)
  replace Obs := Lib.hid ((Obs.out.setFar ⟨w.heap.size + 1 + 1, 3, none⟩ (.int .i64 Z) (by simp)).setFar ⟨w.heap.size + 1 + 1, 4, none⟩ (.slice pzs zs.length qzs) (by simp))
  replace Ozs := Lib.hid ((Ozs.out.setFar ⟨w.heap.size + 1 + 1, 3, none⟩ (.int .i64 Z) (by simp)).setFar ⟨w.heap.size + 1 + 1, 4, none⟩ (.slice pzs zs.length qzs) (by simp))
  clear I1' R1' U1' B1'
  go_wp2_with fail
  have z2 : w.heap.size + 1 + 1 < ((w2.setCell ⟨w.heap.size + 1 + 1, 3, none⟩ (.int .i64 Z)).setCell ⟨w.heap.size + 1 + 1, 4, none⟩ (.slice pzs zs.length qzs)).heap.size := U2.out.lt
  generalize ((w2.setCell ⟨w.heap.size + 1 + 1, 3, none⟩ (.int .i64 Z)).setCell ⟨w.heap.size + 1 + 1, 4, none⟩ (.slice pzs zs.length qzs)) = W2 at U2 I2 R2 B2 z2 Obs Ozs ⊢
  refine (toWindow_any (hts.below B2.out (Nat.le_refl _)) (hss.below B2.out (Nat.le_refl _)) nts nss).mono ?_
  rintro e w3 ⟨pts, qts, pss, qss, rfl, ots, oss, hb2⟩
  have I2' := I2.out.below hb2 (Nat.le_refl _)
  have R2' := R2.out.below hb2 (Nat.le_refl _)
  have U2' := U2.out.below hb2 (Nat.le_refl _)
  have B2' := B2.out.trans (hb2.mono B2.out.size)
  replace Obs := Lib.hid (Obs.out.below hb2 (Nat.le_refl _))
  replace Ozs := Lib.hid (Ozs.out.below hb2 (Nat.le_refl _))
  have Ots := Lib.hid (ots.mono (b' := w.heap.size + 1 + 1 + 1) z2)
  have Oss := Lib.hid (oss.mono (b' := w.heap.size + 1 + 1 + 1) z2)
  clear ots oss hb2 I2 R2 U2 B2 z2 u3 uf3 u4 uf4 i5 i6 i7 i8
  have u5 := U2'.cell (i := 5) (v := .int .i64 0) rfl
  have uf5 := U2'.free 5
  have u6 := U2'.cell (i := 6) (v := .int .i64 0) rfl
  have uf6 := U2'.free 6
  have u7 := U2'.cell (i := 7) (v := .slice none 0 0) rfl
  have uf7 := U2'.free 7
  have u8 := U2'.cell (i := 8) (v := .slice none 0 0) rfl
  have uf8 := U2'.free 8
  have i9 := I2'.cell (i := 9) (v := .slice aks ks.length cks) rfl
  have U3 : Hid (Blk ((((w3.setCell ⟨w.heap.size + 1 + 1, 5, none⟩ (.int .i64 L)).setCell ⟨w.heap.size + 1 + 1, 6, none⟩ (.int .i64 P)).setCell ⟨w.heap.size + 1 + 1, 7, none⟩ (.slice pts ts.length qts)).setCell ⟨w.heap.size + 1 + 1, 8, none⟩ (.slice pss ss.length qss)) (w.heap.size + 1 + 1) #[.int .i64 R, .int .i64 S, .slice pbs bs.length qbs, .int .i64 Z, .slice pzs zs.length qzs, .int .i64 L, .int .i64 P, .slice pts ts.length qts, .slice pss ss.length qss, .slice none 0 0] 43) := ((((U2'.set 5 (.int .i64 L)).set 6 (.int .i64 P)).set 7 (.slice pts ts.length qts)).set 8 (.slice pss ss.length qss))
  have I3 : Hid (Blk ((((w3.setCell ⟨w.heap.size + 1 + 1, 5, none⟩ (.int .i64 L)).setCell ⟨w.heap.size + 1 + 1, 6, none⟩ (.int .i64 P)).setCell ⟨w.heap.size + 1 + 1, 7, none⟩ (.slice pts ts.length qts)).setCell ⟨w.heap.size + 1 + 1, 8, none⟩ (.slice pss ss.length qss)) w.heap.size #[.int .i64 R, .int .i64 S, .slice abs bs.length cbs, .int .i64 Z, .slice azs zs.length czs, .int .i64 L, .int .i64 P, .slice ats ts.length cts, .slice ass ss.length css, .slice aks ks.length cks] 64) := ((((I2'.far (p := ⟨w.heap.size + 1 + 1, 5, none⟩) (by simp; omega) (.int .i64 L)).far (p := ⟨w.heap.size + 1 + 1, 6, none⟩) (by simp; omega) (.int .i64 P)).far (p := ⟨w.heap.size + 1 + 1, 7, none⟩) (by simp; omega) (.slice pts ts.length qts)).far (p := ⟨w.heap.size + 1 + 1, 8, none⟩) (by simp; omega) (.slice pss ss.length qss))
  have R3 : Hid (Blk ((((w3.setCell ⟨w.heap.size + 1 + 1, 5, none⟩ (.int .i64 L)).setCell ⟨w.heap.size + 1 + 1, 6, none⟩ (.int .i64 P)).setCell ⟨w.heap.size + 1 + 1, 7, none⟩ (.slice pts ts.length qts)).setCell ⟨w.heap.size + 1 + 1, 8, none⟩ (.slice pss ss.length qss)) (w.heap.size + 1) #[.int .i64 0, .int .i64 0, .slice none 0 0, .int .i64 0, .slice none 0 0, .int .i64 0, .int .i64 0, .slice none 0 0, .slice none 0 0, .slice none 0 0] 43) := ((((R2'.far (p := ⟨w.heap.size + 1 + 1, 5, none⟩) (by simp) (.int .i64 L)).far (p := ⟨w.heap.size + 1 + 1, 6, none⟩) (by simp) (.int .i64 P)).far (p := ⟨w.heap.size + 1 + 1, 7, none⟩) (by simp) (.slice pts ts.length qts)).far (p := ⟨w.heap.size + 1 + 1, 8, none⟩) (by simp) (.slice pss ss.length qss))
  have B3 : Hid (Below w.heap.size w ((((w3.setCell ⟨w.heap.size + 1 + 1, 5, none⟩ (.int .i64 L)).setCell ⟨w.heap.size + 1 + 1, 6, none⟩ (.int .i64 P)).setCell ⟨w.heap.size + 1 + 1, 7, none⟩ (.slice pts ts.length qts)).setCell ⟨w.heap.size + 1 + 1, 8, none⟩ (.slice pss ss.length qss))) := ((((B2'.setCell (by simp; omega) _).setCell (by simp; omega) _).setCell (by simp; omega) _).setCell (by simp; omega) _)
  replace Obs := Lib.hid ((((Obs.out.setFar ⟨w.heap.size + 1 + 1, 5, none⟩ (.int .i64 L) (by simp)).setFar ⟨w.heap.size + 1 + 1, 6, none⟩ (.int .i64 P) (by simp)).setFar ⟨w.heap.size + 1 + 1, 7, none⟩ (.slice pts ts.length qts) (by simp)).setFar ⟨w.heap.size + 1 + 1, 8, none⟩ (.slice pss ss.length qss) (by simp))
  replace Ozs := Lib.hid ((((Ozs.out.setFar ⟨w.heap.size + 1 + 1, 5, none⟩ (.int .i64 L) (by simp)).setFar ⟨w.heap.size + 1 + 1, 6, none⟩ (.int .i64 P) (by simp)).setFar ⟨w.heap.size + 1 + 1, 7, none⟩ (.slice pts ts.length qts) (by simp)).setFar ⟨w.heap.size + 1 + 1, 8, none⟩ (.slice pss ss.length qss) (by simp))
  replace Ots := Lib.hid ((((Ots.out.setFar ⟨w.heap.size + 1 + 1, 5, none⟩ (.int .i64 L) (by simp)).setFar ⟨w.heap.size + 1 + 1, 6, none⟩ (.int .i64 P) (by simp)).setFar ⟨w.heap.size + 1 + 1, 7, none⟩ (.slice pts ts.length qts) (by simp)).setFar ⟨w.heap.size + 1 + 1, 8, none⟩ (.slice pss ss.length qss) (by simp))
  replace Oss := Lib.hid ((((Oss.out.setFar ⟨w.heap.size + 1 + 1, 5, none⟩ (.int .i64 L) (by simp)).setFar ⟨w.heap.size + 1 + 1, 6, none⟩ (.int .i64 P) (by simp)).setFar ⟨w.heap.size + 1 + 1, 7, none⟩ (.slice pts ts.length qts) (by simp)).setFar ⟨w.heap.size + 1 + 1, 8, none⟩ (.slice pss ss.length qss) (by simp))
  clear I2' R2' U2' B2'
  go_wp2_with fail
  have z3 : w.heap.size + 1 + 1 < ((((w3.setCell ⟨w.heap.size + 1 + 1, 5, none⟩ (.int .i64 L)).setCell ⟨w.heap.size + 1 + 1, 6, none⟩ (.int .i64 P)).setCell ⟨w.heap.size + 1 + 1, 7, none⟩ (.slice pts ts.length qts)).setCell ⟨w.heap.size + 1 + 1, 8, none⟩ (.slice pss ss.length qss)).heap.size := U3.out.lt
  generalize ((((w3.setCell ⟨w.heap.size + 1 + 1, 5, none⟩ (.int .i64 L)).setCell ⟨w.heap.size + 1 + 1, 6, none⟩ (.int .i64 P)).setCell ⟨w.heap.size + 1 + 1, 7, none⟩ (.slice pts ts.length qts)).setCell ⟨w.heap.size + 1 + 1, 8, none⟩ (.slice pss ss.length qss)) = W3 at U3 I3 R3 B3 z3 Obs Ozs Ots Oss ⊢
  refine (toI_any (hks.below B3.out (Nat.le_refl _)) nks).mono ?_
  rintro e w4 ⟨pks, qks, rfl, oks, hb3⟩
  have I3' := I3.out.below hb3 (Nat.le_refl _)
  have R3' := R3.out.below hb3 (Nat.le_refl _)
  have U3' := U3.out.below hb3 (Nat.le_refl _)
  have B3' := B3.out.trans (hb3.mono B3.out.size)
  replace Obs := Lib.hid (Obs.out.below hb3 (Nat.le_refl _))
  replace Ozs := Lib.hid (Ozs.out.below hb3 (Nat.le_refl _))
  replace Ots := Lib.hid (Ots.out.below hb3 (Nat.le_refl _))
  replace Oss := Lib.hid (Oss.out.below hb3 (Nat.le_refl _))
  have Oks := Lib.hid (oks.mono (b' := w.heap.size + 1 + 1 + 1) z3)
  clear oks hb3 I3 R3 U3 B3 z3 u5 uf5 u6 uf6 u7 uf7 u8 uf8 i9
  have u9 := U3'.cell (i := 9) (v := .slice none 0 0) rfl
  have uf9 := U3'.free 9
  have u0 := U3'.cell (i := 0) (v := .int .i64 R) rfl
  have u1 := U3'.cell (i := 1) (v := .int .i64 S) rfl
  have u2 := U3'.cell (i := 2) (v := .slice pbs bs.length qbs) rfl
  have u3 := U3'.cell (i := 3) (v := .int .i64 Z) rfl
  have u4 := U3'.cell (i := 4) (v := .slice pzs zs.length qzs) rfl
  have u5 := U3'.cell (i := 5) (v := .int .i64 L) rfl
  have u6 := U3'.cell (i := 6) (v := .int .i64 P) rfl
  have u7 := U3'.cell (i := 7) (v := .slice pts ts.length qts) rfl
  have u8 := U3'.cell (i := 8) (v := .slice pss ss.length qss) rfl
  have r0 := R3'.cell (i := 0) (v := .int .i64 0) rfl
  have rf0 := R3'.free 0
  have r1 := R3'.cell (i := 1) (v := .int .i64 0) rfl
  have rf1 := R3'.free 1
  have r2 := R3'.cell (i := 2) (v := .slice none 0 0) rfl
  have rf2 := R3'.free 2
  have r3 := R3'.cell (i := 3) (v := .int .i64 0) rfl
  have rf3 := R3'.free 3
  have r4 := R3'.cell (i := 4) (v := .slice none 0 0) rfl
  have rf4 := R3'.free 4
  have r5 := R3'.cell (i := 5) (v := .int .i64 0) rfl
  have rf5 := R3'.free 5
  have r6 := R3'.cell (i := 6) (v := .int .i64 0) rfl
  have rf6 := R3'.free 6
  have r7 := R3'.cell (i := 7) (v := .slice none 0 0) rfl
  have rf7 := R3'.free 7
  have r8 := R3'.cell (i := 8) (v := .slice none 0 0) rfl
  have rf8 := R3'.free 8
  have r9 := R3'.cell (i := 9) (v := .slice none 0 0) rfl
  have rf9 := R3'.free 9
  have BB := Lib.hid B3'
  clear I3' R3' U3' B3'
  go_wp2
  refine bodyPost_ret (v := .agg #[.int .i64 R, .int .i64 S, .slice pbs bs.length qbs, .int .i64 Z, .slice pzs zs.length qzs, .int .i64 L, .int .i64 P, .slice pts ts.length qts, .slice pss ss.length qss, .slice pks ks.length qks]) (by simp [results, Try.results42, go_sem, r0, u0, r1, u1, r2, u2, r3, u3, r4, u4, r5, u5, r6, u6, r7, u7, r8, u8, r9, u9]) rfl ⟨pbs, qbs, pzs, qzs, pts, qts, pss, qss, pks, qks, rfl, ?_, ?_, ?_, ?_, ?_, (((((((((((BB.out.setCell (by simp; omega) _).setCell (by simp) _).setCell (by simp) _).setCell (by simp) _).setCell (by simp) _).setCell (by simp) _).setCell (by simp) _).setCell (by simp) _).setCell (by simp) _).setCell (by simp) _).setCell (by simp) _)⟩
  · exact (((((((((((Obs.out.setFar _ _ (by simp)).setFar _ _ (by simp)).setFar _ _ (by simp)).setFar _ _ (by simp)).setFar _ _ (by simp)).setFar _ _ (by simp)).setFar _ _ (by simp)).setFar _ _ (by simp)).setFar _ _ (by simp)).setFar _ _ (by simp)).setFar _ _ (by simp)).mono (by omega)
  · exact (((((((((((Ozs.out.setFar _ _ (by simp)).setFar _ _ (by simp)).setFar _ _ (by simp)).setFar _ _ (by simp)).setFar _ _ (by simp)).setFar _ _ (by simp)).setFar _ _ (by simp)).setFar _ _ (by simp)).setFar _ _ (by simp)).setFar _ _ (by simp)).setFar _ _ (by simp)).mono (by omega)
  · exact (((((((((((Ots.out.setFar _ _ (by simp)).setFar _ _ (by simp)).setFar _ _ (by simp)).setFar _ _ (by simp)).setFar _ _ (by simp)).setFar _ _ (by simp)).setFar _ _ (by simp)).setFar _ _ (by simp)).setFar _ _ (by simp)).setFar _ _ (by simp)).setFar _ _ (by simp)).mono (by omega)
  · exact (((((((((((Oss.out.setFar _ _ (by simp)).setFar _ _ (by simp)).setFar _ _ (by simp)).setFar _ _ (by simp)).setFar _ _ (by simp)).setFar _ _ (by simp)).setFar _ _ (by simp)).setFar _ _ (by simp)).setFar _ _ (by simp)).setFar _ _ (by simp)).setFar _ _ (by simp)).mono (by omega)
  · exact (((((((((((Oks.out.setFar _ _ (by simp)).setFar _ _ (by simp)).setFar _ _ (by simp)).setFar _ _ (by simp)).setFar _ _ (by simp)).setFar _ _ (by simp)).setFar _ _ (by simp)).setFar _ _ (by simp)).setFar _ _ (by simp)).setFar _ _ (by simp)).setFar _ _ (by simp)).mono (by omega)

/-- Two desks that are the same. -/
theorem eqDesk_same {abs bbs : Option Addr} {cbs dbs : Nat} {bs : List Bool} {azs bzs : Option Addr} {czs dzs : Nat} {zs : List Int} {ats bts : Option Addr} {cts dts : Nat} {ts : List Int} {ass bss : Option Addr} {css dss : Nat} {ss : List Int} {aks bks : Option Addr} {cks dks : Nat} {ks : List Int} {R S Z L P : Int} {w : World} (hbs : Rd (Value.bool) w abs cbs bs) (gbs : Rd (Value.bool) w bbs dbs bs) (hzs : Rd (Value.int .i64) w azs czs zs) (gzs : Rd (Value.int .i64) w bzs dzs zs) (hts : Rd (Value.int .i64) w ats cts ts) (gts : Rd (Value.int .i64) w bts dts ts) (hss : Rd (Value.int .i64) w ass css ss) (gss : Rd (Value.int .i64) w bss dss ss) (hks : Rd (Value.int .i64) w aks cks ks) (gks : Rd (Value.int .i64) w bks dks ks) :
    Calls Try.prog 24 #[.agg #[.int .i64 R, .int .i64 S, .slice abs bs.length cbs, .int .i64 Z, .slice azs zs.length czs, .int .i64 L, .int .i64 P, .slice ats ts.length cts, .slice ass ss.length css, .slice aks ks.length cks], .agg #[.int .i64 R, .int .i64 S, .slice bbs bs.length dbs, .int .i64 Z, .slice bzs zs.length dzs, .int .i64 L, .int .i64 P, .slice bts ts.length dts, .slice bss ss.length dss, .slice bks ks.length dks]] w fun e w' => e = .returned (.bool true) ∧ Below w.heap.size w w' := by
  have B0 : Below w.heap.size w ((w.alloc (.cells #[.int .i64 R, .int .i64 S, .slice abs bs.length cbs, .int .i64 Z, .slice azs zs.length czs, .int .i64 L, .int .i64 P, .slice ats ts.length cts, .slice ass ss.length css, .slice aks ks.length cks] 43)).alloc (.cells #[.int .i64 R, .int .i64 S, .slice bbs bs.length dbs, .int .i64 Z, .slice bzs zs.length dzs, .int .i64 L, .int .i64 P, .slice bts ts.length dts, .slice bss ss.length dss, .slice bks ks.length dks] 43)) := ((Below.refl _ _).alloc (Nat.le_refl _) _).alloc (by simp) _
  have I0 : Blk ((w.alloc (.cells #[.int .i64 R, .int .i64 S, .slice abs bs.length cbs, .int .i64 Z, .slice azs zs.length czs, .int .i64 L, .int .i64 P, .slice ats ts.length cts, .slice ass ss.length css, .slice aks ks.length cks] 43)).alloc (.cells #[.int .i64 R, .int .i64 S, .slice bbs bs.length dbs, .int .i64 Z, .slice bzs zs.length dzs, .int .i64 L, .int .i64 P, .slice bts ts.length dts, .slice bss ss.length dss, .slice bks ks.length dks] 43)) w.heap.size #[.int .i64 R, .int .i64 S, .slice abs bs.length cbs, .int .i64 Z, .slice azs zs.length czs, .int .i64 L, .int .i64 P, .slice ats ts.length cts, .slice ass ss.length css, .slice aks ks.length cks] 43 := (Blk.new _ _ _).alloc _
  have J0 : Blk ((w.alloc (.cells #[.int .i64 R, .int .i64 S, .slice abs bs.length cbs, .int .i64 Z, .slice azs zs.length czs, .int .i64 L, .int .i64 P, .slice ats ts.length cts, .slice ass ss.length css, .slice aks ks.length cks] 43)).alloc (.cells #[.int .i64 R, .int .i64 S, .slice bbs bs.length dbs, .int .i64 Z, .slice bzs zs.length dzs, .int .i64 L, .int .i64 P, .slice bts ts.length dts, .slice bss ss.length dss, .slice bks ks.length dks] 43)) (w.heap.size + 1) #[.int .i64 R, .int .i64 S, .slice bbs bs.length dbs, .int .i64 Z, .slice bzs zs.length dzs, .int .i64 L, .int .i64 P, .slice bts ts.length dts, .slice bss ss.length dss, .slice bks ks.length dks] 43 := Blk.new' (by simp)
  have H0 := Lib.hid (And.intro B0 (And.intro I0 J0))
  clear B0 I0 J0
  go_enter Try.func24, Try.ntmps24
  go_wp2_with fail
  generalize ((w.alloc (.cells #[.int .i64 R, .int .i64 S, .slice abs bs.length cbs, .int .i64 Z, .slice azs zs.length czs, .int .i64 L, .int .i64 P, .slice ats ts.length cts, .slice ass ss.length css, .slice aks ks.length cks] 43)).alloc (.cells #[.int .i64 R, .int .i64 S, .slice bbs bs.length dbs, .int .i64 Z, .slice bzs zs.length dzs, .int .i64 L, .int .i64 P, .slice bts ts.length dts, .slice bss ss.length dss, .slice bks ks.length dks] 43)) = w0 at H0 ⊢
  have B0 := Lib.hid H0.out.1
  have I0 := Lib.hid H0.out.2.1
  have J0 := Lib.hid H0.out.2.2
  clear H0
  refine (eqSieve_same (hbs.below B0.out (Nat.le_refl _)) (gbs.below B0.out (Nat.le_refl _))).mono ?_
  rintro e w1 ⟨rfl, hb0⟩
  have B1 := Lib.hid (B0.out.trans (hb0.mono B0.out.size))
  have I1 := Lib.hid (I0.out.below hb0 (Nat.le_refl _))
  have J1 := Lib.hid (J0.out.below hb0 (Nat.le_refl _))
  clear hb0 B0 I0 J0
  have i3 := I1.out.cell (i := 3) (v := .int .i64 Z) rfl
  have j3 := J1.out.cell (i := 3) (v := .int .i64 Z) rfl
  have i4 := I1.out.cell (i := 4) (v := .slice azs zs.length czs) rfl
  have j4 := J1.out.cell (i := 4) (v := .slice bzs zs.length dzs) rfl
  go_wp2_with fail
  refine (eqZeros_same (hzs.below B1.out (Nat.le_refl _)) (gzs.below B1.out (Nat.le_refl _))).mono ?_
  rintro e w2 ⟨rfl, hb1⟩
  have B2 := Lib.hid (B1.out.trans (hb1.mono B1.out.size))
  have I2 := Lib.hid (I1.out.below hb1 (Nat.le_refl _))
  have J2 := Lib.hid (J1.out.below hb1 (Nat.le_refl _))
  clear hb1 B1 I1 J1 i3 j3 i4 j4
  have i5 := I2.out.cell (i := 5) (v := .int .i64 L) rfl
  have j5 := J2.out.cell (i := 5) (v := .int .i64 L) rfl
  have i6 := I2.out.cell (i := 6) (v := .int .i64 P) rfl
  have j6 := J2.out.cell (i := 6) (v := .int .i64 P) rfl
  have i7 := I2.out.cell (i := 7) (v := .slice ats ts.length cts) rfl
  have j7 := J2.out.cell (i := 7) (v := .slice bts ts.length dts) rfl
  have i8 := I2.out.cell (i := 8) (v := .slice ass ss.length css) rfl
  have j8 := J2.out.cell (i := 8) (v := .slice bss ss.length dss) rfl
  go_wp2_with fail
  refine (eqWindow_same (hts.below B2.out (Nat.le_refl _)) (hss.below B2.out (Nat.le_refl _)) (gts.below B2.out (Nat.le_refl _)) (gss.below B2.out (Nat.le_refl _))).mono ?_
  rintro e w3 ⟨rfl, hb2⟩
  have B3 := Lib.hid (B2.out.trans (hb2.mono B2.out.size))
  have I3 := Lib.hid (I2.out.below hb2 (Nat.le_refl _))
  have J3 := Lib.hid (J2.out.below hb2 (Nat.le_refl _))
  clear hb2 B2 I2 J2 i5 j5 i6 j6 i7 j7 i8 j8
  have i9 := I3.out.cell (i := 9) (v := .slice aks ks.length cks) rfl
  have j9 := J3.out.cell (i := 9) (v := .slice bks ks.length dks) rfl
  go_wp2_with fail
  refine (eqI_any (hks.below B3.out (Nat.le_refl _)) (gks.below B3.out (Nat.le_refl _))).mono ?_
  rintro e w4 ⟨rfl, hb3⟩
  rw [show decide (ks = ks) = true by simp]
  have B4 := Lib.hid (B3.out.trans (hb3.mono B3.out.size))
  have I4 := Lib.hid (I3.out.below hb3 (Nat.le_refl _))
  have J4 := Lib.hid (J3.out.below hb3 (Nat.le_refl _))
  clear hb3 B3 I3 J3 i9 j9
  go_wp2
  go_ret
  exact ⟨rfl, B4.out⟩

/-- The room that is left, or -1. -/
theorem szDesk_any {abs : Option Addr} {cbs : Nat} {bs : List Bool} {azs : Option Addr} {czs : Nat} {zs : List Int} {ats : Option Addr} {cts : Nat} {ts : List Int} {ass : Option Addr} {css : Nat} {ss : List Int} {aks : Option Addr} {cks : Nat} {ks : List Int} {R S Z L P : Int} {l : Int} {w : World} (hbs : Rd (Value.bool) w abs cbs bs) (hzs : Rd (Value.int .i64) w azs czs zs) (hts : Rd (Value.int .i64) w ats cts ts) (hss : Rd (Value.int .i64) w ass css ss) (hks : Rd (Value.int .i64) w aks cks ks) (l0 : 0 ≤ l) (l1 : l ≤ 1048576) :
    Calls Try.prog 40 #[.agg #[.int .i64 R, .int .i64 S, .slice abs bs.length cbs, .int .i64 Z, .slice azs zs.length czs, .int .i64 L, .int .i64 P, .slice ats ts.length cts, .slice ass ss.length css, .slice aks ks.length cks], .int .i64 l] w fun e w' => e = .returned (.int .i64 (room l ((bs.length : Int) + (zs.length : Int) + ((ts.length : Int) + ss.length) + (ks.length : Int)))) ∧ Below w.heap.size w w' := by
  have B0 : Below w.heap.size w (w.alloc (.cells #[.int .i64 R, .int .i64 S, .slice abs bs.length cbs, .int .i64 Z, .slice azs zs.length czs, .int .i64 L, .int .i64 P, .slice ats ts.length cts, .slice ass ss.length css, .slice aks ks.length cks] 64)) := (Below.refl _ _).alloc (Nat.le_refl _) _
  have I0 : Blk (w.alloc (.cells #[.int .i64 R, .int .i64 S, .slice abs bs.length cbs, .int .i64 Z, .slice azs zs.length czs, .int .i64 L, .int .i64 P, .slice ats ts.length cts, .slice ass ss.length css, .slice aks ks.length cks] 64)) w.heap.size #[.int .i64 R, .int .i64 S, .slice abs bs.length cbs, .int .i64 Z, .slice azs zs.length czs, .int .i64 L, .int .i64 P, .slice ats ts.length cts, .slice ass ss.length css, .slice aks ks.length cks] 64 := Blk.new _ _ _
  have H0 := Lib.hid (And.intro B0 I0)
  clear B0 I0
  by_cases g0 : l < (bs.length : Int)
  · have e0 := Lib.hid (room_no g0)
    have et := Lib.hid (room_no (l := l) (s := (bs.length : Int) + (zs.length : Int) + ((ts.length : Int) + ss.length) + (ks.length : Int)) (by omega))
    rw [et.out]
    go_enter Try.func40, Try.ntmps40
    go_wp2_with fail
    generalize w.alloc (.cells #[.int .i64 R, .int .i64 S, .slice abs bs.length cbs, .int .i64 Z, .slice azs zs.length czs, .int .i64 L, .int .i64 P, .slice ats ts.length cts, .slice ass ss.length css, .slice aks ks.length cks] 64) = w0 at H0 ⊢
    have B0 := Lib.hid H0.out.1
    have I0 := Lib.hid H0.out.2
    clear H0
    refine (szSieve_any (hbs.below B0.out (Nat.le_refl _)) (by omega) (by omega)).mono ?_
    rintro e w1 ⟨rfl, hb0⟩
    rw [e0.out]
    have B1 := Lib.hid (B0.out.trans (hb0.mono B0.out.size))
    have I1 := Lib.hid (I0.out.below hb0 (Nat.le_refl _))
    clear hb0
    go_wp2
    go_ret
    exact ⟨rfl, B1.out⟩
  have e0 := Lib.hid (room_yes g0)
  by_cases g1 : (l - (bs.length : Int)) < (zs.length : Int)
  · have e1 := Lib.hid (room_no g1)
    have et := Lib.hid (room_no (l := l) (s := (bs.length : Int) + (zs.length : Int) + ((ts.length : Int) + ss.length) + (ks.length : Int)) (by omega))
    rw [et.out]
    go_enter Try.func40, Try.ntmps40
    go_wp2_with fail
    generalize w.alloc (.cells #[.int .i64 R, .int .i64 S, .slice abs bs.length cbs, .int .i64 Z, .slice azs zs.length czs, .int .i64 L, .int .i64 P, .slice ats ts.length cts, .slice ass ss.length css, .slice aks ks.length cks] 64) = w0 at H0 ⊢
    have B0 := Lib.hid H0.out.1
    have I0 := Lib.hid H0.out.2
    clear H0
    refine (szSieve_any (hbs.below B0.out (Nat.le_refl _)) (by omega) (by omega)).mono ?_
    rintro e w1 ⟨rfl, hb0⟩
    rw [e0.out]
    have B1 := Lib.hid (B0.out.trans (hb0.mono B0.out.size))
    have I1 := Lib.hid (I0.out.below hb0 (Nat.le_refl _))
    clear hb0
    have i3 := I1.out.cell (i := 3) (v := .int .i64 Z) rfl
    have i4 := I1.out.cell (i := 4) (v := .slice azs zs.length czs) rfl
    go_wp2_with fail
    refine (szZeros_any (hzs.below B1.out (Nat.le_refl _)) (by omega) (by omega)).mono ?_
    rintro e w2 ⟨rfl, hb1⟩
    rw [e1.out]
    have B2 := Lib.hid (B1.out.trans (hb1.mono B1.out.size))
    have I2 := Lib.hid (I1.out.below hb1 (Nat.le_refl _))
    clear hb1 i3 i4
    go_wp2
    go_ret
    exact ⟨rfl, B2.out⟩
  have e1 := Lib.hid (room_yes g1)
  by_cases g2 : ((l - (bs.length : Int)) - (zs.length : Int)) < ((ts.length : Int) + ss.length)
  · have e2 := Lib.hid (show (if ((l - (bs.length : Int)) - (zs.length : Int)) < (ts.length : Int) + ss.length then -1 else ((l - (bs.length : Int)) - (zs.length : Int)) - ts.length - ss.length) = -1 from if_pos g2)
    have et := Lib.hid (room_no (l := l) (s := (bs.length : Int) + (zs.length : Int) + ((ts.length : Int) + ss.length) + (ks.length : Int)) (by omega))
    rw [et.out]
    go_enter Try.func40, Try.ntmps40
    go_wp2_with fail
    generalize w.alloc (.cells #[.int .i64 R, .int .i64 S, .slice abs bs.length cbs, .int .i64 Z, .slice azs zs.length czs, .int .i64 L, .int .i64 P, .slice ats ts.length cts, .slice ass ss.length css, .slice aks ks.length cks] 64) = w0 at H0 ⊢
    have B0 := Lib.hid H0.out.1
    have I0 := Lib.hid H0.out.2
    clear H0
    refine (szSieve_any (hbs.below B0.out (Nat.le_refl _)) (by omega) (by omega)).mono ?_
    rintro e w1 ⟨rfl, hb0⟩
    rw [e0.out]
    have B1 := Lib.hid (B0.out.trans (hb0.mono B0.out.size))
    have I1 := Lib.hid (I0.out.below hb0 (Nat.le_refl _))
    clear hb0
    have i3 := I1.out.cell (i := 3) (v := .int .i64 Z) rfl
    have i4 := I1.out.cell (i := 4) (v := .slice azs zs.length czs) rfl
    go_wp2_with fail
    refine (szZeros_any (hzs.below B1.out (Nat.le_refl _)) (by omega) (by omega)).mono ?_
    rintro e w2 ⟨rfl, hb1⟩
    rw [e1.out]
    have B2 := Lib.hid (B1.out.trans (hb1.mono B1.out.size))
    have I2 := Lib.hid (I1.out.below hb1 (Nat.le_refl _))
    clear hb1 i3 i4
    have i5 := I2.out.cell (i := 5) (v := .int .i64 L) rfl
    have i6 := I2.out.cell (i := 6) (v := .int .i64 P) rfl
    have i7 := I2.out.cell (i := 7) (v := .slice ats ts.length cts) rfl
    have i8 := I2.out.cell (i := 8) (v := .slice ass ss.length css) rfl
    go_wp2_with fail
    refine (szWindow_any (hts.below B2.out (Nat.le_refl _)) (hss.below B2.out (Nat.le_refl _)) (by omega) (by omega)).mono ?_
    rintro e w3 ⟨rfl, hb2⟩
    rw [e2.out]
    have B3 := Lib.hid (B2.out.trans (hb2.mono B2.out.size))
    have I3 := Lib.hid (I2.out.below hb2 (Nat.le_refl _))
    clear hb2 i5 i6 i7 i8
    go_wp2
    go_ret
    exact ⟨rfl, B3.out⟩
  have e2 := Lib.hid (show (if ((l - (bs.length : Int)) - (zs.length : Int)) < (ts.length : Int) + ss.length then -1 else ((l - (bs.length : Int)) - (zs.length : Int)) - ts.length - ss.length) = ((l - (bs.length : Int)) - (zs.length : Int)) - ts.length - ss.length from if_neg g2)
  by_cases g3 : (((l - (bs.length : Int)) - (zs.length : Int)) - ts.length - ss.length) < (ks.length : Int)
  · have e3 := Lib.hid (room_no g3)
    have et := Lib.hid (room_no (l := l) (s := (bs.length : Int) + (zs.length : Int) + ((ts.length : Int) + ss.length) + (ks.length : Int)) (by omega))
    rw [et.out]
    go_enter Try.func40, Try.ntmps40
    go_wp2_with fail
    generalize w.alloc (.cells #[.int .i64 R, .int .i64 S, .slice abs bs.length cbs, .int .i64 Z, .slice azs zs.length czs, .int .i64 L, .int .i64 P, .slice ats ts.length cts, .slice ass ss.length css, .slice aks ks.length cks] 64) = w0 at H0 ⊢
    have B0 := Lib.hid H0.out.1
    have I0 := Lib.hid H0.out.2
    clear H0
    refine (szSieve_any (hbs.below B0.out (Nat.le_refl _)) (by omega) (by omega)).mono ?_
    rintro e w1 ⟨rfl, hb0⟩
    rw [e0.out]
    have B1 := Lib.hid (B0.out.trans (hb0.mono B0.out.size))
    have I1 := Lib.hid (I0.out.below hb0 (Nat.le_refl _))
    clear hb0
    have i3 := I1.out.cell (i := 3) (v := .int .i64 Z) rfl
    have i4 := I1.out.cell (i := 4) (v := .slice azs zs.length czs) rfl
    go_wp2_with fail
    refine (szZeros_any (hzs.below B1.out (Nat.le_refl _)) (by omega) (by omega)).mono ?_
    rintro e w2 ⟨rfl, hb1⟩
    rw [e1.out]
    have B2 := Lib.hid (B1.out.trans (hb1.mono B1.out.size))
    have I2 := Lib.hid (I1.out.below hb1 (Nat.le_refl _))
    clear hb1 i3 i4
    have i5 := I2.out.cell (i := 5) (v := .int .i64 L) rfl
    have i6 := I2.out.cell (i := 6) (v := .int .i64 P) rfl
    have i7 := I2.out.cell (i := 7) (v := .slice ats ts.length cts) rfl
    have i8 := I2.out.cell (i := 8) (v := .slice ass ss.length css) rfl
    go_wp2_with fail
    refine (szWindow_any (hts.below B2.out (Nat.le_refl _)) (hss.below B2.out (Nat.le_refl _)) (by omega) (by omega)).mono ?_
    rintro e w3 ⟨rfl, hb2⟩
    rw [e2.out]
    have B3 := Lib.hid (B2.out.trans (hb2.mono B2.out.size))
    have I3 := Lib.hid (I2.out.below hb2 (Nat.le_refl _))
    clear hb2 i5 i6 i7 i8
    have i9 := I3.out.cell (i := 9) (v := .slice aks ks.length cks) rfl
    go_wp2_with fail
    refine (szI_any (hks.below B3.out (Nat.le_refl _)) (by omega) (by omega)).mono ?_
    rintro e w4 ⟨rfl, rfl⟩
    rw [e3.out]
    have B4 := B3
    have I4 := I3
    go_wp2
    go_ret
    exact ⟨rfl, B4.out⟩
  have e3 := Lib.hid (room_yes g3)
  have et := Lib.hid (room_yes (l := l) (s := (bs.length : Int) + (zs.length : Int) + ((ts.length : Int) + ss.length) + (ks.length : Int)) (by omega))
  have ef : ((((l - (bs.length : Int)) - (zs.length : Int)) - ts.length - ss.length) - (ks.length : Int)) = l - ((bs.length : Int) + (zs.length : Int) + ((ts.length : Int) + ss.length) + (ks.length : Int)) := by omega
  rw [et.out, ← ef]
  clear ef
  go_enter Try.func40, Try.ntmps40
  go_wp2_with fail
  generalize w.alloc (.cells #[.int .i64 R, .int .i64 S, .slice abs bs.length cbs, .int .i64 Z, .slice azs zs.length czs, .int .i64 L, .int .i64 P, .slice ats ts.length cts, .slice ass ss.length css, .slice aks ks.length cks] 64) = w0 at H0 ⊢
  have B0 := Lib.hid H0.out.1
  have I0 := Lib.hid H0.out.2
  clear H0
  refine (szSieve_any (hbs.below B0.out (Nat.le_refl _)) (by omega) (by omega)).mono ?_
  rintro e w1 ⟨rfl, hb0⟩
  rw [e0.out]
  have B1 := Lib.hid (B0.out.trans (hb0.mono B0.out.size))
  have I1 := Lib.hid (I0.out.below hb0 (Nat.le_refl _))
  clear hb0
  have i3 := I1.out.cell (i := 3) (v := .int .i64 Z) rfl
  have i4 := I1.out.cell (i := 4) (v := .slice azs zs.length czs) rfl
  go_wp2_with fail
  refine (szZeros_any (hzs.below B1.out (Nat.le_refl _)) (by omega) (by omega)).mono ?_
  rintro e w2 ⟨rfl, hb1⟩
  rw [e1.out]
  have B2 := Lib.hid (B1.out.trans (hb1.mono B1.out.size))
  have I2 := Lib.hid (I1.out.below hb1 (Nat.le_refl _))
  clear hb1 i3 i4
  have i5 := I2.out.cell (i := 5) (v := .int .i64 L) rfl
  have i6 := I2.out.cell (i := 6) (v := .int .i64 P) rfl
  have i7 := I2.out.cell (i := 7) (v := .slice ats ts.length cts) rfl
  have i8 := I2.out.cell (i := 8) (v := .slice ass ss.length css) rfl
  go_wp2_with fail
  refine (szWindow_any (hts.below B2.out (Nat.le_refl _)) (hss.below B2.out (Nat.le_refl _)) (by omega) (by omega)).mono ?_
  rintro e w3 ⟨rfl, hb2⟩
  rw [e2.out]
  have B3 := Lib.hid (B2.out.trans (hb2.mono B2.out.size))
  have I3 := Lib.hid (I2.out.below hb2 (Nat.le_refl _))
  clear hb2 i5 i6 i7 i8
  have i9 := I3.out.cell (i := 9) (v := .slice aks ks.length cks) rfl
  go_wp2_with fail
  refine (szI_any (hks.below B3.out (Nat.le_refl _)) (by omega) (by omega)).mono ?_
  rintro e w4 ⟨rfl, rfl⟩
  rw [e3.out]
  have B4 := B3
  have I4 := I3
  go_wp2
  go_ret
  exact ⟨rfl, B4.out⟩

end Go.Proofs.Ytkmmedhgpmeniaa
