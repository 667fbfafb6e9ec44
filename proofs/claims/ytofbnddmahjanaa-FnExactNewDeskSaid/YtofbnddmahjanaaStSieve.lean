/- The laws' helpers on Sieve. -/
import Derived.Test.YtofbnddmahjanaaWith
import Derived.Test.YtofbnddmahjanaaBlk
import Derived.Test.YtofbnddmahjanaaSz
import Derived.Test.YtofbnddmahjanaaEqB
namespace Go.Proofs.Ytofbnddmahjanaa
open Go.RowKit

/-- The struct in new memory. -/
def RetSieve (w : World) (R S : Int) (bs : List Bool) (en : Ending) (w' : World) : Prop :=
  ∃ pbs qbs, en = .returned (.agg #[.int .i64 R, .int .i64 S, .slice pbs bs.length qbs]) ∧ Own (Value.bool) 4 w' w.heap.size pbs qbs bs ∧ Below w.heap.size w w'

/-- Two that are the same. -/
theorem eqSieve_same {abs bbs : Option Addr} {cbs dbs : Nat} {bs : List Bool} {R S : Int} {w : World} (hbs : Rd (Value.bool) w abs cbs bs) (gbs : Rd (Value.bool) w bbs dbs bs) :
    Calls Try.prog 81 #[.agg #[.int .i64 R, .int .i64 S, .slice abs bs.length cbs], .agg #[.int .i64 R, .int .i64 S, .slice bbs bs.length dbs]] w fun e w' => e = .returned (.bool true) ∧ Below w.heap.size w w' := by
  have B0 : Below w.heap.size w ((w.alloc (.cells #[.int .i64 R, .int .i64 S, .slice abs bs.length cbs] 49)).alloc (.cells #[.int .i64 R, .int .i64 S, .slice bbs bs.length dbs] 49)) := ((Below.refl _ _).alloc (Nat.le_refl _) _).alloc (by simp) _
  have I0 : Blk ((w.alloc (.cells #[.int .i64 R, .int .i64 S, .slice abs bs.length cbs] 49)).alloc (.cells #[.int .i64 R, .int .i64 S, .slice bbs bs.length dbs] 49)) w.heap.size #[.int .i64 R, .int .i64 S, .slice abs bs.length cbs] 49 := (Blk.new _ _ _).alloc _
  have J0 : Blk ((w.alloc (.cells #[.int .i64 R, .int .i64 S, .slice abs bs.length cbs] 49)).alloc (.cells #[.int .i64 R, .int .i64 S, .slice bbs bs.length dbs] 49)) (w.heap.size + 1) #[.int .i64 R, .int .i64 S, .slice bbs bs.length dbs] 49 := Blk.new' (by simp)
  have H0 := Lib.hid (And.intro B0 (And.intro I0 J0))
  have hdR : (R != R) = false := by simp
  have hdS : (S != S) = false := by simp
  clear B0 I0 J0
  go_enter Try.func81, Try.ntmps81
  go_wp2_with fail
  generalize ((w.alloc (.cells #[.int .i64 R, .int .i64 S, .slice abs bs.length cbs] 49)).alloc (.cells #[.int .i64 R, .int .i64 S, .slice bbs bs.length dbs] 49)) = W0 at H0 ⊢
  have B0 := Lib.hid H0.out.1
  have I0 := Lib.hid H0.out.2.1
  have J0 := Lib.hid H0.out.2.2
  clear H0
  refine (eqB_any (hbs.below B0.out (Nat.le_refl _)) (gbs.below B0.out (Nat.le_refl _))).mono ?_
  rintro e w1 ⟨rfl, hb0⟩
  rw [show decide (bs = bs) = true by simp]
  have B1 := Lib.hid (B0.out.trans (hb0.mono B0.out.size))
  have I1 := Lib.hid (I0.out.below hb0 (Nat.le_refl _))
  have J1 := Lib.hid (J0.out.below hb0 (Nat.le_refl _))
  clear hb0 B0 I0 J0
  go_wp2
  go_ret
  exact ⟨rfl, B1.out⟩

end Go.Proofs.Ytofbnddmahjanaa
