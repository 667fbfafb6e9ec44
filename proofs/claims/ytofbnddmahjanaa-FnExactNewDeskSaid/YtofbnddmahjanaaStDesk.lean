/- The laws' helpers on desks. -/
import Derived.Test.YtofbnddmahjanaaStSieve
import Derived.Test.YtofbnddmahjanaaStZeros
import Derived.Test.YtofbnddmahjanaaWinG
namespace Go.Proofs.Ytofbnddmahjanaa
open Go.RowKit

/-- A desk in new memory. -/
def RetDesk (w : World) (R S Z L P : Int) (bs : List Bool) (zs : List Int) (ts : List Int) (ss : List Int) (ks : List Int) (en : Ending) (w' : World) : Prop :=
  ∃ pbs qbs pzs qzs pts qts pss qss pks qks, en = .returned (.agg #[.int .i64 R, .int .i64 S, .slice pbs bs.length qbs, .int .i64 Z, .slice pzs zs.length qzs, .int .i64 L, .int .i64 P, .slice pts ts.length qts, .slice pss ss.length qss, .slice pks ks.length qks]) ∧ Own (Value.bool) 4 w' w.heap.size pbs qbs bs ∧ Own (Value.int .i64) 2 w' w.heap.size pzs qzs zs ∧ Own (Value.int .i64) 2 w' w.heap.size pts qts ts ∧ Own (Value.int .i64) 2 w' w.heap.size pss qss ss ∧ Own (Value.int .i64) 2 w' w.heap.size pks qks ks ∧ Below w.heap.size w w'

/-- Two desks that are the same. -/
theorem eqDesk_same {abs bbs : Option Addr} {cbs dbs : Nat} {bs : List Bool} {azs bzs : Option Addr} {czs dzs : Nat} {zs : List Int} {ats bts : Option Addr} {cts dts : Nat} {ts : List Int} {ass bss : Option Addr} {css dss : Nat} {ss : List Int} {aks bks : Option Addr} {cks dks : Nat} {ks : List Int} {R S Z L P : Int} {w : World} (hbs : Rd (Value.bool) w abs cbs bs) (gbs : Rd (Value.bool) w bbs dbs bs) (hzs : Rd (Value.int .i64) w azs czs zs) (gzs : Rd (Value.int .i64) w bzs dzs zs) (hts : Rd (Value.int .i64) w ats cts ts) (gts : Rd (Value.int .i64) w bts dts ts) (hss : Rd (Value.int .i64) w ass css ss) (gss : Rd (Value.int .i64) w bss dss ss) (hks : Rd (Value.int .i64) w aks cks ks) (gks : Rd (Value.int .i64) w bks dks ks) :
    Calls Try.prog 31 #[.agg #[.int .i64 R, .int .i64 S, .slice abs bs.length cbs, .int .i64 Z, .slice azs zs.length czs, .int .i64 L, .int .i64 P, .slice ats ts.length cts, .slice ass ss.length css, .slice aks ks.length cks], .agg #[.int .i64 R, .int .i64 S, .slice bbs bs.length dbs, .int .i64 Z, .slice bzs zs.length dzs, .int .i64 L, .int .i64 P, .slice bts ts.length dts, .slice bss ss.length dss, .slice bks ks.length dks]] w fun e w' => e = .returned (.bool true) ∧ Below w.heap.size w w' := by
  have B0 : Below w.heap.size w ((w.alloc (.cells #[.int .i64 R, .int .i64 S, .slice abs bs.length cbs, .int .i64 Z, .slice azs zs.length czs, .int .i64 L, .int .i64 P, .slice ats ts.length cts, .slice ass ss.length css, .slice aks ks.length cks] 55)).alloc (.cells #[.int .i64 R, .int .i64 S, .slice bbs bs.length dbs, .int .i64 Z, .slice bzs zs.length dzs, .int .i64 L, .int .i64 P, .slice bts ts.length dts, .slice bss ss.length dss, .slice bks ks.length dks] 55)) := ((Below.refl _ _).alloc (Nat.le_refl _) _).alloc (by simp) _
  have I0 : Blk ((w.alloc (.cells #[.int .i64 R, .int .i64 S, .slice abs bs.length cbs, .int .i64 Z, .slice azs zs.length czs, .int .i64 L, .int .i64 P, .slice ats ts.length cts, .slice ass ss.length css, .slice aks ks.length cks] 55)).alloc (.cells #[.int .i64 R, .int .i64 S, .slice bbs bs.length dbs, .int .i64 Z, .slice bzs zs.length dzs, .int .i64 L, .int .i64 P, .slice bts ts.length dts, .slice bss ss.length dss, .slice bks ks.length dks] 55)) w.heap.size #[.int .i64 R, .int .i64 S, .slice abs bs.length cbs, .int .i64 Z, .slice azs zs.length czs, .int .i64 L, .int .i64 P, .slice ats ts.length cts, .slice ass ss.length css, .slice aks ks.length cks] 55 := (Blk.new _ _ _).alloc _
  have J0 : Blk ((w.alloc (.cells #[.int .i64 R, .int .i64 S, .slice abs bs.length cbs, .int .i64 Z, .slice azs zs.length czs, .int .i64 L, .int .i64 P, .slice ats ts.length cts, .slice ass ss.length css, .slice aks ks.length cks] 55)).alloc (.cells #[.int .i64 R, .int .i64 S, .slice bbs bs.length dbs, .int .i64 Z, .slice bzs zs.length dzs, .int .i64 L, .int .i64 P, .slice bts ts.length dts, .slice bss ss.length dss, .slice bks ks.length dks] 55)) (w.heap.size + 1) #[.int .i64 R, .int .i64 S, .slice bbs bs.length dbs, .int .i64 Z, .slice bzs zs.length dzs, .int .i64 L, .int .i64 P, .slice bts ts.length dts, .slice bss ss.length dss, .slice bks ks.length dks] 55 := Blk.new' (by simp)
  have H0 := Lib.hid (And.intro B0 (And.intro I0 J0))
  clear B0 I0 J0
  go_enter Try.func31, Try.ntmps31
  go_wp2_with fail
  generalize ((w.alloc (.cells #[.int .i64 R, .int .i64 S, .slice abs bs.length cbs, .int .i64 Z, .slice azs zs.length czs, .int .i64 L, .int .i64 P, .slice ats ts.length cts, .slice ass ss.length css, .slice aks ks.length cks] 55)).alloc (.cells #[.int .i64 R, .int .i64 S, .slice bbs bs.length dbs, .int .i64 Z, .slice bzs zs.length dzs, .int .i64 L, .int .i64 P, .slice bts ts.length dts, .slice bss ss.length dss, .slice bks ks.length dks] 55)) = w0 at H0 ⊢
  have B0 := Lib.hid H0.out.1
  have I0 := Lib.hid H0.out.2.1
  have J0 := Lib.hid H0.out.2.2
  clear H0
  refine (eqSieve_same (hbs.below B0.out (Nat.le_refl _)) (gbs.below B0.out (Nat.le_refl _))).mono ?_
  rintro e w1 ⟨rfl, hb0⟩
  have B1 := Lib.hid (B0.out.trans (hb0.mono B0.out.size))
  have I1 := Lib.hid (I0.out.below hb0 (Nat.le_refl _))
  have J1 := Lib.hid (J0.out.below hb0 (Nat.le_refl _))
  clear hb0 B0 I0 J0
  have i3 := I1.out.cell (i := 3) (v := .int .i64 Z) rfl
  have j3 := J1.out.cell (i := 3) (v := .int .i64 Z) rfl
  have i4 := I1.out.cell (i := 4) (v := .slice azs zs.length czs) rfl
  have j4 := J1.out.cell (i := 4) (v := .slice bzs zs.length dzs) rfl
  go_wp2_with fail
  refine (eqZeros_same (hzs.below B1.out (Nat.le_refl _)) (gzs.below B1.out (Nat.le_refl _))).mono ?_
  rintro e w2 ⟨rfl, hb1⟩
  have B2 := Lib.hid (B1.out.trans (hb1.mono B1.out.size))
  have I2 := Lib.hid (I1.out.below hb1 (Nat.le_refl _))
  have J2 := Lib.hid (J1.out.below hb1 (Nat.le_refl _))
  clear hb1 B1 I1 J1 i3 j3 i4 j4
  have i5 := I2.out.cell (i := 5) (v := .int .i64 L) rfl
  have j5 := J2.out.cell (i := 5) (v := .int .i64 L) rfl
  have i6 := I2.out.cell (i := 6) (v := .int .i64 P) rfl
  have j6 := J2.out.cell (i := 6) (v := .int .i64 P) rfl
  have i7 := I2.out.cell (i := 7) (v := .slice ats ts.length cts) rfl
  have j7 := J2.out.cell (i := 7) (v := .slice bts ts.length dts) rfl
  have i8 := I2.out.cell (i := 8) (v := .slice ass ss.length css) rfl
  have j8 := J2.out.cell (i := 8) (v := .slice bss ss.length dss) rfl
  go_wp2_with fail
  refine (eqWindow_same (hts.below B2.out (Nat.le_refl _)) (hss.below B2.out (Nat.le_refl _)) (gts.below B2.out (Nat.le_refl _)) (gss.below B2.out (Nat.le_refl _))).mono ?_
  rintro e w3 ⟨rfl, hb2⟩
  have B3 := Lib.hid (B2.out.trans (hb2.mono B2.out.size))
  have I3 := Lib.hid (I2.out.below hb2 (Nat.le_refl _))
  have J3 := Lib.hid (J2.out.below hb2 (Nat.le_refl _))
  clear hb2 B2 I2 J2 i5 j5 i6 j6 i7 j7 i8 j8
  have i9 := I3.out.cell (i := 9) (v := .slice aks ks.length cks) rfl
  have j9 := J3.out.cell (i := 9) (v := .slice bks ks.length dks) rfl
  go_wp2_with fail
  refine (eqI_any (hks.below B3.out (Nat.le_refl _)) (gks.below B3.out (Nat.le_refl _))).mono ?_
  rintro e w4 ⟨rfl, hb3⟩
  rw [show decide (ks = ks) = true by simp]
  have B4 := Lib.hid (B3.out.trans (hb3.mono B3.out.size))
  have I4 := Lib.hid (I3.out.below hb3 (Nat.le_refl _))
  have J4 := Lib.hid (J3.out.below hb3 (Nat.le_refl _))
  clear hb3 B3 I3 J3 i9 j9
  go_wp2
  go_ret
  exact ⟨rfl, B4.out⟩

end Go.Proofs.Ytofbnddmahjanaa
