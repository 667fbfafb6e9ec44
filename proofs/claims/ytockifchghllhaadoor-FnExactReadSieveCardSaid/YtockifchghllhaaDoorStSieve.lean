/- The laws' helpers on Sieve. -/
import Derived.Test.YtockifchghllhaaDoorToI
import Derived.Test.YtockifchghllhaaDoorLib
import Derived.Test.YtockifchghllhaaDoorSz
import Derived.Test.YtockifchghllhaaDoorEqB
namespace Go.Proofs.YtockifchghllhaaDoor
open Go.RowKit

/-- The struct in new memory. -/
def RetSieve (w : World) (R S : Int) (bs : List Bool) (en : Ending) (w' : World) : Prop :=
  ∃ pbs qbs, en = .returned (.agg #[.int .i64 R, .int .i64 S, .slice pbs bs.length qbs]) ∧ Own (Value.bool) 4 w' w.heap.size pbs qbs bs ∧ Below w.heap.size w w'

set_option maxRecDepth 4000 in
set_option maxHeartbeats 1000000 in
theorem toSieve_any {abs : Option Addr} {cbs : Nat} {bs : List Bool} {R S : Int} {w : World} (hbs : Rd (Value.bool) w abs cbs bs) (nbs : bs.length ≤ 1048576) :
    Calls Tryd.prog 16 #[.agg #[.int .i64 R, .int .i64 S, .slice abs bs.length cbs]] w (RetSieve w R S bs) := by
  have B0 : Below w.heap.size w (((w.alloc (.cells #[.int .i64 R, .int .i64 S, .slice abs bs.length cbs] 27)).alloc (.cells #[.int .i64 0, .int .i64 0, .slice none 0 0] 31)).alloc (.cells #[.int .i64 R, .int .i64 S, .slice none 0 0] 31)) := (((Below.refl _ _).alloc (Nat.le_refl _) _).alloc (by simp) _).alloc (by simp; omega) _
  have I0 : Blk (((w.alloc (.cells #[.int .i64 R, .int .i64 S, .slice abs bs.length cbs] 27)).alloc (.cells #[.int .i64 0, .int .i64 0, .slice none 0 0] 31)).alloc (.cells #[.int .i64 R, .int .i64 S, .slice none 0 0] 31)) w.heap.size #[.int .i64 R, .int .i64 S, .slice abs bs.length cbs] 27 := ((Blk.new _ _ _).alloc _).alloc _
  have R0 : Blk (((w.alloc (.cells #[.int .i64 R, .int .i64 S, .slice abs bs.length cbs] 27)).alloc (.cells #[.int .i64 0, .int .i64 0, .slice none 0 0] 31)).alloc (.cells #[.int .i64 R, .int .i64 S, .slice none 0 0] 31)) (w.heap.size + 1) #[.int .i64 0, .int .i64 0, .slice none 0 0] 31 := (Blk.new' (by simp)).alloc _
  have U0 : Blk (((w.alloc (.cells #[.int .i64 R, .int .i64 S, .slice abs bs.length cbs] 27)).alloc (.cells #[.int .i64 0, .int .i64 0, .slice none 0 0] 31)).alloc (.cells #[.int .i64 R, .int .i64 S, .slice none 0 0] 31)) (w.heap.size + 1 + 1) #[.int .i64 R, .int .i64 S, .slice none 0 0] 31 := Blk.new' (by simp)
  have H0 := Lib.hid (And.intro B0 (And.intro I0 (And.intro R0 U0)))
  clear B0 I0 R0 U0
  go_enter Tryd.func16, Tryd.ntmps16
  go_wp2_with fail
  generalize (((w.alloc (.cells #[.int .i64 R, .int .i64 S, .slice abs bs.length cbs] 27)).alloc (.cells #[.int .i64 0, .int .i64 0, .slice none 0 0] 31)).alloc (.cells #[.int .i64 R, .int .i64 S, .slice none 0 0] 31)) = W0 at H0 ⊢
  have B0 := Lib.hid H0.out.1
  have I0 := Lib.hid H0.out.2.1
  have R0 := Lib.hid H0.out.2.2.1
  have U0 := Lib.hid H0.out.2.2.2
  have z0 : w.heap.size + 1 + 1 < W0.heap.size := U0.out.lt
  clear H0
  refine (toB_any (hbs.below B0.out (Nat.le_refl _)) nbs).mono ?_
  rintro e w1 ⟨pbs, qbs, rfl, obs, hb0⟩
  have I0' := I0.out.below hb0 (Nat.le_refl _)
  have R0' := R0.out.below hb0 (Nat.le_refl _)
  have U0' := U0.out.below hb0 (Nat.le_refl _)
  have B0' := B0.out.trans (hb0.mono B0.out.size)
  have Obs := Lib.hid (obs.mono (b' := w.heap.size + 1 + 1 + 1) z0)
  clear obs hb0 I0 R0 U0 B0 z0
  have u0 := U0'.cell (i := 0) (v := .int .i64 R) rfl
  have r0 := R0'.cell (i := 0) (v := .int .i64 0) rfl
  have rf0 := R0'.free 0
  have u1 := U0'.cell (i := 1) (v := .int .i64 S) rfl
  have r1 := R0'.cell (i := 1) (v := .int .i64 0) rfl
  have rf1 := R0'.free 1
  have u2 := U0'.cell (i := 2) (v := .slice none 0 0) rfl
  have r2 := R0'.cell (i := 2) (v := .slice none 0 0) rfl
  have rf2 := R0'.free 2
  have uf := U0'.free 2
  have BB := Lib.hid B0'
  clear I0' R0' U0' B0'
  go_wp2
  refine bodyPost_ret (v := .agg #[.int .i64 R, .int .i64 S, .slice pbs bs.length qbs]) (by simp [results, Tryd.results16, go_sem, r0, u0, r1, u1, r2, u2]) rfl ⟨pbs, qbs, rfl, ?_, ((((BB.out.setCell (by simp; omega) _).setCell (by simp) _).setCell (by simp) _).setCell (by simp) _)⟩
  · exact ((((Obs.out.setFar _ _ (by simp)).setFar _ _ (by simp)).setFar _ _ (by simp)).setFar _ _ (by simp)).mono (by omega)

/-- Two that are the same. -/
theorem eqSieve_same {abs bbs : Option Addr} {cbs dbs : Nat} {bs : List Bool} {R S : Int} {w : World} (hbs : Rd (Value.bool) w abs cbs bs) (gbs : Rd (Value.bool) w bbs dbs bs) :
    Calls Tryd.prog 18 #[.agg #[.int .i64 R, .int .i64 S, .slice abs bs.length cbs], .agg #[.int .i64 R, .int .i64 S, .slice bbs bs.length dbs]] w fun e w' => e = .returned (.bool true) ∧ Below w.heap.size w w' := by
  have B0 : Below w.heap.size w ((w.alloc (.cells #[.int .i64 R, .int .i64 S, .slice abs bs.length cbs] 31)).alloc (.cells #[.int .i64 R, .int .i64 S, .slice bbs bs.length dbs] 31)) := ((Below.refl _ _).alloc (Nat.le_refl _) _).alloc (by simp) _
  have I0 : Blk ((w.alloc (.cells #[.int .i64 R, .int .i64 S, .slice abs bs.length cbs] 31)).alloc (.cells #[.int .i64 R, .int .i64 S, .slice bbs bs.length dbs] 31)) w.heap.size #[.int .i64 R, .int .i64 S, .slice abs bs.length cbs] 31 := (Blk.new _ _ _).alloc _
  have J0 : Blk ((w.alloc (.cells #[.int .i64 R, .int .i64 S, .slice abs bs.length cbs] 31)).alloc (.cells #[.int .i64 R, .int .i64 S, .slice bbs bs.length dbs] 31)) (w.heap.size + 1) #[.int .i64 R, .int .i64 S, .slice bbs bs.length dbs] 31 := Blk.new' (by simp)
  have H0 := Lib.hid (And.intro B0 (And.intro I0 J0))
  have hdR : (R != R) = false := by simp
  have hdS : (S != S) = false := by simp
  clear B0 I0 J0
  go_enter Tryd.func18, Tryd.ntmps18
  go_wp2_with fail
  generalize ((w.alloc (.cells #[.int .i64 R, .int .i64 S, .slice abs bs.length cbs] 31)).alloc (.cells #[.int .i64 R, .int .i64 S, .slice bbs bs.length dbs] 31)) = W0 at H0 ⊢
  have B0 := Lib.hid H0.out.1
  have I0 := Lib.hid H0.out.2.1
  have J0 := Lib.hid H0.out.2.2
  clear H0
  refine (eqB_any (hbs.below B0.out (Nat.le_refl _)) (gbs.below B0.out (Nat.le_refl _))).mono ?_
  rintro e w1 ⟨rfl, hb0⟩
  rw [show decide (bs = bs) = true by simp]
  have B1 := Lib.hid (B0.out.trans (hb0.mono B0.out.size))
  have I1 := Lib.hid (I0.out.below hb0 (Nat.le_refl _))
  have J1 := Lib.hid (J0.out.below hb0 (Nat.le_refl _))
  clear hb0 B0 I0 J0
  go_wp2
  go_ret
  exact ⟨rfl, B1.out⟩

/-- The room that is left, or -1. -/
theorem szSieve_any {abs : Option Addr} {cbs : Nat} {bs : List Bool} {R S : Int} {l : Int} {w : World} (hbs : Rd (Value.bool) w abs cbs bs) (l0 : 0 ≤ l) (l1 : l ≤ 1048576) :
    Calls Tryd.prog 14 #[.agg #[.int .i64 R, .int .i64 S, .slice abs bs.length cbs], .int .i64 l] w fun e w' => e = .returned (.int .i64 (room l ((bs.length : Int)))) ∧ Below w.heap.size w w' := by
  have hlbs := hbs.len
  have B0 : Below w.heap.size w (w.alloc (.cells #[.int .i64 R, .int .i64 S, .slice abs bs.length cbs] 27)) := (Below.refl _ _).alloc (Nat.le_refl _) _
  have Hbs := Lib.hid (hbs.below B0 (Nat.le_refl _))
  have HB := Lib.hid B0
  clear B0
  by_cases g0 : l < bs.length
  · have e0 := Lib.hid (room_no g0)
    have et := Lib.hid (room_no (l := l) (s := (bs.length : Int)) (by omega))
    rw [et.out]
    go_enter Tryd.func14, Tryd.ntmps14
    go_wp2_with fail
    refine (szB_any Hbs.out (by omega) (by omega)).mono ?_
    rintro e w1 ⟨rfl, rfl⟩
    rw [e0.out]
    go_wp2
    go_ret
    exact ⟨rfl, HB.out⟩
  have e0 := Lib.hid (room_yes g0)
  have et := Lib.hid (room_yes (l := l) (s := (bs.length : Int)) (by omega))
  have ef : (l - bs.length) = l - ((bs.length : Int)) := by omega
  rw [et.out, ← ef]
  clear ef
  go_enter Tryd.func14, Tryd.ntmps14
  go_wp2_with fail
  refine (szB_any Hbs.out (by omega) (by omega)).mono ?_
  rintro e w1 ⟨rfl, rfl⟩
  rw [e0.out]
  go_wp2
  go_ret
  exact ⟨rfl, HB.out⟩

end Go.Proofs.YtockifchghllhaaDoor
