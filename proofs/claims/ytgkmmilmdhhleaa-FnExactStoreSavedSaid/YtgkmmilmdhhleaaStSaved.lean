/- The laws' helpers on saved ones. -/
import Derived.Test.YtgkmmilmdhhleaaStCells
import Derived.Test.YtgkmmilmdhhleaaStTops
import Derived.IntWalk
namespace Go.Proofs.Ytgkmmilmdhhleaa
open Go.RowKit

/-- A saved one in new memory. -/
def RetSaved (w : World) (nm : ByteArray) (W D S R : Int) (cs ks ts es : List Int) (en : Ending) (w' : World) : Prop :=
  ∃ pcs qcs pks qks pts qts pes qes, en = .returned (.agg #[.string nm, .int .i64 W, .int .i64 D, .int .i64 S, .slice pcs cs.length qcs, .int .i64 R, .slice pks ks.length qks, .slice pts ts.length qts, .slice pes es.length qes]) ∧ Own (Value.int .i64) 2 w' w.heap.size pcs qcs cs ∧ Own (Value.int .i64) 2 w' w.heap.size pks qks ks ∧ Own (Value.int .i64) 2 w' w.heap.size pts qts ts ∧ Own (Value.int .i64) 2 w' w.heap.size pes qes es ∧ Below w.heap.size w w'

set_option maxRecDepth 4000 in
set_option maxHeartbeats 2000000 in
theorem toSaved_any {acs : Option Addr} {ccs : Nat} {cs : List Int} {aks : Option Addr} {cks : Nat} {ks : List Int} {ats : Option Addr} {cts : Nat} {ts : List Int} {aes : Option Addr} {ces : Nat} {es : List Int} {nm : ByteArray} {W D S R : Int} {w : World} (hcs : Rd (Value.int .i64) w acs ccs cs) (hks : Rd (Value.int .i64) w aks cks ks) (hts : Rd (Value.int .i64) w ats cts ts) (hes : Rd (Value.int .i64) w aes ces es) (ncs : cs.length ≤ 1048576) (nks : ks.length ≤ 1048576) (nts : ts.length ≤ 1048576) (nes : es.length ≤ 1048576) :
    Calls Try.prog 49 #[.agg #[.string nm, .int .i64 W, .int .i64 D, .int .i64 S, .slice acs cs.length ccs, .int .i64 R, .slice aks ks.length cks, .slice ats ts.length cts, .slice aes es.length ces]] w (RetSaved w nm W D S R cs ks ts es) := by
  have B0 : Below w.heap.size w (((w.alloc (.cells #[.string nm, .int .i64 W, .int .i64 D, .int .i64 S, .slice acs cs.length ccs, .int .i64 R, .slice aks ks.length cks, .slice ats ts.length cts, .slice aes es.length ces] 73)).alloc (.cells #[.string ⟨#[]⟩, .int .i64 0, .int .i64 0, .int .i64 0, .slice none 0 0, .int .i64 0, .slice none 0 0, .slice none 0 0, .slice none 0 0] 79)).alloc (.cells #[.string nm, .int .i64 0, .int .i64 0, .int .i64 0, .slice none 0 0, .int .i64 0, .slice none 0 0, .slice none 0 0, .slice none 0 0] 79)) := (((Below.refl _ _).alloc (Nat.le_refl _) _).alloc (by simp) _).alloc (by simp; omega) _
  have I0 : Blk (((w.alloc (.cells #[.string nm, .int .i64 W, .int .i64 D, .int .i64 S, .slice acs cs.length ccs, .int .i64 R, .slice aks ks.length cks, .slice ats ts.length cts, .slice aes es.length ces] 73)).alloc (.cells #[.string ⟨#[]⟩, .int .i64 0, .int .i64 0, .int .i64 0, .slice none 0 0, .int .i64 0, .slice none 0 0, .slice none 0 0, .slice none 0 0] 79)).alloc (.cells #[.string nm, .int .i64 0, .int .i64 0, .int .i64 0, .slice none 0 0, .int .i64 0, .slice none 0 0, .slice none 0 0, .slice none 0 0] 79)) w.heap.size #[.string nm, .int .i64 W, .int .i64 D, .int .i64 S, .slice acs cs.length ccs, .int .i64 R, .slice aks ks.length cks, .slice ats ts.length cts, .slice aes es.length ces] 73 := ((Blk.new _ _ _).alloc _).alloc _
  have R0 : Blk (((w.alloc (.cells #[.string nm, .int .i64 W, .int .i64 D, .int .i64 S, .slice acs cs.length ccs, .int .i64 R, .slice aks ks.length cks, .slice ats ts.length cts, .slice aes es.length ces] 73)).alloc (.cells #[.string ⟨#[]⟩, .int .i64 0, .int .i64 0, .int .i64 0, .slice none 0 0, .int .i64 0, .slice none 0 0, .slice none 0 0, .slice none 0 0] 79)).alloc (.cells #[.string nm, .int .i64 0, .int .i64 0, .int .i64 0, .slice none 0 0, .int .i64 0, .slice none 0 0, .slice none 0 0, .slice none 0 0] 79)) (w.heap.size + 1) #[.string ⟨#[]⟩, .int .i64 0, .int .i64 0, .int .i64 0, .slice none 0 0, .int .i64 0, .slice none 0 0, .slice none 0 0, .slice none 0 0] 79 := (Blk.new' (by simp)).alloc _
  have U0 : Blk (((w.alloc (.cells #[.string nm, .int .i64 W, .int .i64 D, .int .i64 S, .slice acs cs.length ccs, .int .i64 R, .slice aks ks.length cks, .slice ats ts.length cts, .slice aes es.length ces] 73)).alloc (.cells #[.string ⟨#[]⟩, .int .i64 0, .int .i64 0, .int .i64 0, .slice none 0 0, .int .i64 0, .slice none 0 0, .slice none 0 0, .slice none 0 0] 79)).alloc (.cells #[.string nm, .int .i64 0, .int .i64 0, .int .i64 0, .slice none 0 0, .int .i64 0, .slice none 0 0, .slice none 0 0, .slice none 0 0] 79)) (w.heap.size + 1 + 1) #[.string nm, .int .i64 0, .int .i64 0, .int .i64 0, .slice none 0 0, .int .i64 0, .slice none 0 0, .slice none 0 0, .slice none 0 0] 79 := Blk.new' (by simp)
  have H0 := Lib.hid (And.intro B0 (And.intro I0 (And.intro R0 U0)))
  clear B0 I0 R0 U0
  go_enter Try.func49, Try.ntmps49
  go_wp2_with fail
  generalize ((w.alloc (.cells #[.string nm, .int .i64 W, .int .i64 D, .int .i64 S, .slice acs cs.length ccs, .int .i64 R, .slice aks ks.length cks, .slice ats ts.length cts, .slice aes es.length ces] 73)).alloc (.cells #[.string ⟨#[]⟩, .int .i64 0, .int .i64 0, .int .i64 0, .slice none 0 0, .int .i64 0, .slice none 0 0, .slice none 0 0, .slice none 0 0] 79)).alloc (.cells #[.string nm, .int .i64 0, .int .i64 0, .int .i64 0, .slice none 0 0, .int .i64 0, .slice none 0 0, .slice none 0 0, .slice none 0 0] 79) = W0 at H0 ⊢
  have B0 := Lib.hid H0.out.1
  have I0 := Lib.hid H0.out.2.1
  have R0 := Lib.hid H0.out.2.2.1
  have U0 := Lib.hid H0.out.2.2.2
  have z0 : w.heap.size + 1 + 1 < W0.heap.size := U0.out.lt
  clear H0
  refine (toCells_any (hcs.below B0.out (Nat.le_refl _)) ncs).mono ?_
  rintro e w1 ⟨pcs, qcs, rfl, ocs, hb0⟩
  have I0' := I0.out.below hb0 (Nat.le_refl _)
  have R0' := R0.out.below hb0 (Nat.le_refl _)
  have U0' := U0.out.below hb0 (Nat.le_refl _)
  have B0' := B0.out.trans (hb0.mono B0.out.size)
  have Ocs := Lib.hid (ocs.mono (b' := w.heap.size + 1 + 1 + 1) z0)
  clear ocs hb0 I0 R0 U0 B0 z0
  have u1 := U0'.cell (i := 1) (v := .int .i64 0) rfl
  have uf1 := U0'.free 1
  have u2 := U0'.cell (i := 2) (v := .int .i64 0) rfl
  have uf2 := U0'.free 2
  have u3 := U0'.cell (i := 3) (v := .int .i64 0) rfl
  have uf3 := U0'.free 3
  have u4 := U0'.cell (i := 4) (v := .slice none 0 0) rfl
  have uf4 := U0'.free 4
  have i5 := I0'.cell (i := 5) (v := .int .i64 R) rfl
  have i6 := I0'.cell (i := 6) (v := .slice aks ks.length cks) rfl
  have i7 := I0'.cell (i := 7) (v := .slice ats ts.length cts) rfl
  have i8 := I0'.cell (i := 8) (v := .slice aes es.length ces) rfl
  have U1 : Hid (Blk ((((w1.setCell ⟨w.heap.size + 1 + 1, 1, none⟩ (.int .i64 W)).setCell ⟨w.heap.size + 1 + 1, 2, none⟩ (.int .i64 D)).setCell ⟨w.heap.size + 1 + 1, 3, none⟩ (.int .i64 S)).setCell ⟨w.heap.size + 1 + 1, 4, none⟩ (.slice pcs cs.length qcs)) (w.heap.size + 1 + 1) #[.string nm, .int .i64 W, .int .i64 D, .int .i64 S, .slice pcs cs.length qcs, .int .i64 0, .slice none 0 0, .slice none 0 0, .slice none 0 0] 79) := ((((U0'.set 1 (.int .i64 W)).set 2 (.int .i64 D)).set 3 (.int .i64 S)).set 4 (.slice pcs cs.length qcs))
  have I1 : Hid (Blk ((((w1.setCell ⟨w.heap.size + 1 + 1, 1, none⟩ (.int .i64 W)).setCell ⟨w.heap.size + 1 + 1, 2, none⟩ (.int .i64 D)).setCell ⟨w.heap.size + 1 + 1, 3, none⟩ (.int .i64 S)).setCell ⟨w.heap.size + 1 + 1, 4, none⟩ (.slice pcs cs.length qcs)) w.heap.size #[.string nm, .int .i64 W, .int .i64 D, .int .i64 S, .slice acs cs.length ccs, .int .i64 R, .slice aks ks.length cks, .slice ats ts.length cts, .slice aes es.length ces] 73) := ((((I0'.far (p := ⟨w.heap.size + 1 + 1, 1, none⟩) (by simp; omega) (.int .i64 W)).far (p := ⟨w.heap.size + 1 + 1, 2, none⟩) (by simp; omega) (.int .i64 D)).far (p := ⟨w.heap.size + 1 + 1, 3, none⟩) (by simp; omega) (.int .i64 S)).far (p := ⟨w.heap.size + 1 + 1, 4, none⟩) (by simp; omega) (.slice pcs cs.length qcs))
  have R1 : Hid (Blk ((((w1.setCell ⟨w.heap.size + 1 + 1, 1, none⟩ (.int .i64 W)).setCell ⟨w.heap.size + 1 + 1, 2, none⟩ (.int .i64 D)).setCell ⟨w.heap.size + 1 + 1, 3, none⟩ (.int .i64 S)).setCell ⟨w.heap.size + 1 + 1, 4, none⟩ (.slice pcs cs.length qcs)) (w.heap.size + 1) #[.string ⟨#[]⟩, .int .i64 0, .int .i64 0, .int .i64 0, .slice none 0 0, .int .i64 0, .slice none 0 0, .slice none 0 0, .slice none 0 0] 79) := ((((R0'.far (p := ⟨w.heap.size + 1 + 1, 1, none⟩) (by simp) (.int .i64 W)).far (p := ⟨w.heap.size + 1 + 1, 2, none⟩) (by simp) (.int .i64 D)).far (p := ⟨w.heap.size + 1 + 1, 3, none⟩) (by simp) (.int .i64 S)).far (p := ⟨w.heap.size + 1 + 1, 4, none⟩) (by simp) (.slice pcs cs.length qcs))
  have B1 : Hid (Below w.heap.size w ((((w1.setCell ⟨w.heap.size + 1 + 1, 1, none⟩ (.int .i64 W)).setCell ⟨w.heap.size + 1 + 1, 2, none⟩ (.int .i64 D)).setCell ⟨w.heap.size + 1 + 1, 3, none⟩ (.int .i64 S)).setCell ⟨w.heap.size + 1 + 1, 4, none⟩ (.slice pcs cs.length qcs))) := ((((B0'.setCell (by simp; omega) _).setCell (by simp; omega) _).setCell (by simp; omega) _).setCell (by simp; omega) _)
  replace Ocs := Lib.hid ((((Ocs.out.setFar ⟨w.heap.size + 1 + 1, 1, none⟩ (.int .i64 W) (by simp)).setFar ⟨w.heap.size + 1 + 1, 2, none⟩ (.int .i64 D) (by simp)).setFar ⟨w.heap.size + 1 + 1, 3, none⟩ (.int .i64 S) (by simp)).setFar ⟨w.heap.size + 1 + 1, 4, none⟩ (.slice pcs cs.length qcs) (by simp))
  clear I0' R0' U0' B0'
  go_wp2_with fail
  have z1 : w.heap.size + 1 + 1 < ((((w1.setCell ⟨w.heap.size + 1 + 1, 1, none⟩ (.int .i64 W)).setCell ⟨w.heap.size + 1 + 1, 2, none⟩ (.int .i64 D)).setCell ⟨w.heap.size + 1 + 1, 3, none⟩ (.int .i64 S)).setCell ⟨w.heap.size + 1 + 1, 4, none⟩ (.slice pcs cs.length qcs)).heap.size := U1.out.lt
  generalize ((((w1.setCell ⟨w.heap.size + 1 + 1, 1, none⟩ (.int .i64 W)).setCell ⟨w.heap.size + 1 + 1, 2, none⟩ (.int .i64 D)).setCell ⟨w.heap.size + 1 + 1, 3, none⟩ (.int .i64 S)).setCell ⟨w.heap.size + 1 + 1, 4, none⟩ (.slice pcs cs.length qcs)) = W1 at U1 I1 R1 B1 z1 Ocs ⊢
  refine (toTops_any (hks.below B1.out (Nat.le_refl _)) (hts.below B1.out (Nat.le_refl _)) (hes.below B1.out (Nat.le_refl _)) nks nts nes).mono ?_
  rintro e w2 ⟨pks, qks, pts, qts, pes, qes, rfl, oks, ots, oes, hb1⟩
  have I1' := I1.out.below hb1 (Nat.le_refl _)
  have R1' := R1.out.below hb1 (Nat.le_refl _)
  have U1' := U1.out.below hb1 (Nat.le_refl _)
  have B1' := B1.out.trans (hb1.mono B1.out.size)
  replace Ocs := Lib.hid (Ocs.out.below hb1 (Nat.le_refl _))
  have Oks := Lib.hid (oks.mono (b' := w.heap.size + 1 + 1 + 1) z1)
  have Ots := Lib.hid (ots.mono (b' := w.heap.size + 1 + 1 + 1) z1)
  have Oes := Lib.hid (oes.mono (b' := w.heap.size + 1 + 1 + 1) z1)
  clear oks ots oes hb1 I1 R1 U1 B1 z1 u1 uf1 u2 uf2 u3 uf3 u4 uf4 i5 i6 i7 i8
  have u5 := U1'.cell (i := 5) (v := .int .i64 0) rfl
  have uf5 := U1'.free 5
  have u6 := U1'.cell (i := 6) (v := .slice none 0 0) rfl
  have uf6 := U1'.free 6
  have u7 := U1'.cell (i := 7) (v := .slice none 0 0) rfl
  have uf7 := U1'.free 7
  have u8 := U1'.cell (i := 8) (v := .slice none 0 0) rfl
  have uf8 := U1'.free 8
  have u0 := U1'.cell (i := 0) (v := .string nm) rfl
  have u1 := U1'.cell (i := 1) (v := .int .i64 W) rfl
  have u2 := U1'.cell (i := 2) (v := .int .i64 D) rfl
  have u3 := U1'.cell (i := 3) (v := .int .i64 S) rfl
  have u4 := U1'.cell (i := 4) (v := .slice pcs cs.length qcs) rfl
  have r0 := R1'.cell (i := 0) (v := .string ⟨#[]⟩) rfl
  have rf0 := R1'.free 0
  have r1 := R1'.cell (i := 1) (v := .int .i64 0) rfl
  have rf1 := R1'.free 1
  have r2 := R1'.cell (i := 2) (v := .int .i64 0) rfl
  have rf2 := R1'.free 2
  have r3 := R1'.cell (i := 3) (v := .int .i64 0) rfl
  have rf3 := R1'.free 3
  have r4 := R1'.cell (i := 4) (v := .slice none 0 0) rfl
  have rf4 := R1'.free 4
  have r5 := R1'.cell (i := 5) (v := .int .i64 0) rfl
  have rf5 := R1'.free 5
  have r6 := R1'.cell (i := 6) (v := .slice none 0 0) rfl
  have rf6 := R1'.free 6
  have r7 := R1'.cell (i := 7) (v := .slice none 0 0) rfl
  have rf7 := R1'.free 7
  have r8 := R1'.cell (i := 8) (v := .slice none 0 0) rfl
  have rf8 := R1'.free 8
  have BB := Lib.hid B1'
  clear I1' R1' U1' B1'
  go_wp2
  refine bodyPost_ret (v := .agg #[.string nm, .int .i64 W, .int .i64 D, .int .i64 S, .slice pcs cs.length qcs, .int .i64 R, .slice pks ks.length qks, .slice pts ts.length qts, .slice pes es.length qes]) (by simp [results, Try.results49, go_sem, r0, u0, r1, u1, r2, u2, r3, u3, r4, u4, r5, u5, r6, u6, r7, u7, r8, u8]) rfl ⟨pcs, qcs, pks, qks, pts, qts, pes, qes, rfl, ?_, ?_, ?_, ?_, (((((((((((((BB.out.setCell (by simp; omega) _).setCell (by simp; omega) _).setCell (by simp; omega) _).setCell (by simp; omega) _).setCell (by simp) _).setCell (by simp) _).setCell (by simp) _).setCell (by simp) _).setCell (by simp) _).setCell (by simp) _).setCell (by simp) _).setCell (by simp) _).setCell (by simp) _)⟩
  · exact (((((((((((((Ocs.out.setFar _ _ (by simp)).setFar _ _ (by simp)).setFar _ _ (by simp)).setFar _ _ (by simp)).setFar _ _ (by simp)).setFar _ _ (by simp)).setFar _ _ (by simp)).setFar _ _ (by simp)).setFar _ _ (by simp)).setFar _ _ (by simp)).setFar _ _ (by simp)).setFar _ _ (by simp)).setFar _ _ (by simp)).mono (by omega)
  · exact (((((((((((((Oks.out.setFar _ _ (by simp)).setFar _ _ (by simp)).setFar _ _ (by simp)).setFar _ _ (by simp)).setFar _ _ (by simp)).setFar _ _ (by simp)).setFar _ _ (by simp)).setFar _ _ (by simp)).setFar _ _ (by simp)).setFar _ _ (by simp)).setFar _ _ (by simp)).setFar _ _ (by simp)).setFar _ _ (by simp)).mono (by omega)
  · exact (((((((((((((Ots.out.setFar _ _ (by simp)).setFar _ _ (by simp)).setFar _ _ (by simp)).setFar _ _ (by simp)).setFar _ _ (by simp)).setFar _ _ (by simp)).setFar _ _ (by simp)).setFar _ _ (by simp)).setFar _ _ (by simp)).setFar _ _ (by simp)).setFar _ _ (by simp)).setFar _ _ (by simp)).setFar _ _ (by simp)).mono (by omega)
  · exact (((((((((((((Oes.out.setFar _ _ (by simp)).setFar _ _ (by simp)).setFar _ _ (by simp)).setFar _ _ (by simp)).setFar _ _ (by simp)).setFar _ _ (by simp)).setFar _ _ (by simp)).setFar _ _ (by simp)).setFar _ _ (by simp)).setFar _ _ (by simp)).setFar _ _ (by simp)).setFar _ _ (by simp)).setFar _ _ (by simp)).mono (by omega)

/-- Two saved ones that are the same. -/
theorem eqSaved_same {acs bcs : Option Addr} {ccs dcs : Nat} {cs : List Int} {aks bks : Option Addr} {cks dks : Nat} {ks : List Int} {ats bts : Option Addr} {cts dts : Nat} {ts : List Int} {aes bes : Option Addr} {ces des : Nat} {es : List Int} {nm : ByteArray} {W D S R : Int} {w : World} (hcs : Rd (Value.int .i64) w acs ccs cs) (gcs : Rd (Value.int .i64) w bcs dcs cs) (hks : Rd (Value.int .i64) w aks cks ks) (gks : Rd (Value.int .i64) w bks dks ks) (hts : Rd (Value.int .i64) w ats cts ts) (gts : Rd (Value.int .i64) w bts dts ts) (hes : Rd (Value.int .i64) w aes ces es) (ges : Rd (Value.int .i64) w bes des es) :
    Calls Try.prog 51 #[.agg #[.string nm, .int .i64 W, .int .i64 D, .int .i64 S, .slice acs cs.length ccs, .int .i64 R, .slice aks ks.length cks, .slice ats ts.length cts, .slice aes es.length ces], .agg #[.string nm, .int .i64 W, .int .i64 D, .int .i64 S, .slice bcs cs.length dcs, .int .i64 R, .slice bks ks.length dks, .slice bts ts.length dts, .slice bes es.length des]] w fun e w' => e = .returned (.bool true) ∧ Below w.heap.size w w' := by
  have B0 : Below w.heap.size w ((w.alloc (.cells #[.string nm, .int .i64 W, .int .i64 D, .int .i64 S, .slice acs cs.length ccs, .int .i64 R, .slice aks ks.length cks, .slice ats ts.length cts, .slice aes es.length ces] 79)).alloc (.cells #[.string nm, .int .i64 W, .int .i64 D, .int .i64 S, .slice bcs cs.length dcs, .int .i64 R, .slice bks ks.length dks, .slice bts ts.length dts, .slice bes es.length des] 79)) := ((Below.refl _ _).alloc (Nat.le_refl _) _).alloc (by simp) _
  have I0 : Blk ((w.alloc (.cells #[.string nm, .int .i64 W, .int .i64 D, .int .i64 S, .slice acs cs.length ccs, .int .i64 R, .slice aks ks.length cks, .slice ats ts.length cts, .slice aes es.length ces] 79)).alloc (.cells #[.string nm, .int .i64 W, .int .i64 D, .int .i64 S, .slice bcs cs.length dcs, .int .i64 R, .slice bks ks.length dks, .slice bts ts.length dts, .slice bes es.length des] 79)) w.heap.size #[.string nm, .int .i64 W, .int .i64 D, .int .i64 S, .slice acs cs.length ccs, .int .i64 R, .slice aks ks.length cks, .slice ats ts.length cts, .slice aes es.length ces] 79 := (Blk.new _ _ _).alloc _
  have J0 : Blk ((w.alloc (.cells #[.string nm, .int .i64 W, .int .i64 D, .int .i64 S, .slice acs cs.length ccs, .int .i64 R, .slice aks ks.length cks, .slice ats ts.length cts, .slice aes es.length ces] 79)).alloc (.cells #[.string nm, .int .i64 W, .int .i64 D, .int .i64 S, .slice bcs cs.length dcs, .int .i64 R, .slice bks ks.length dks, .slice bts ts.length dts, .slice bes es.length des] 79)) (w.heap.size + 1) #[.string nm, .int .i64 W, .int .i64 D, .int .i64 S, .slice bcs cs.length dcs, .int .i64 R, .slice bks ks.length dks, .slice bts ts.length dts, .slice bes es.length des] 79 := Blk.new' (by simp)
  have H0 := Lib.hid (And.intro B0 (And.intro I0 J0))
  have hnn : (!(nm.toList == nm.toList)) = false := by simp
  have hnn2 : (nm.toList == nm.toList) = true := by simp
  clear B0 I0 J0
  go_enter Try.func51, Try.ntmps51
  go_wp2_with fail
  all_goals first | (go_quiet (fail); go_wp2_with fail) | skip
  generalize ((w.alloc (.cells #[.string nm, .int .i64 W, .int .i64 D, .int .i64 S, .slice acs cs.length ccs, .int .i64 R, .slice aks ks.length cks, .slice ats ts.length cts, .slice aes es.length ces] 79)).alloc (.cells #[.string nm, .int .i64 W, .int .i64 D, .int .i64 S, .slice bcs cs.length dcs, .int .i64 R, .slice bks ks.length dks, .slice bts ts.length dts, .slice bes es.length des] 79)) = w0 at H0 ⊢
  have B0 := Lib.hid H0.out.1
  have I0 := Lib.hid H0.out.2.1
  have J0 := Lib.hid H0.out.2.2
  clear H0
  refine (eqCells_same (hcs.below B0.out (Nat.le_refl _)) (gcs.below B0.out (Nat.le_refl _))).mono ?_
  rintro e w1 ⟨rfl, hb0⟩
  have B1 := Lib.hid (B0.out.trans (hb0.mono B0.out.size))
  have I1 := Lib.hid (I0.out.below hb0 (Nat.le_refl _))
  have J1 := Lib.hid (J0.out.below hb0 (Nat.le_refl _))
  clear hb0 B0 I0 J0
  have i5 := I1.out.cell (i := 5) (v := .int .i64 R) rfl
  have j5 := J1.out.cell (i := 5) (v := .int .i64 R) rfl
  have i6 := I1.out.cell (i := 6) (v := .slice aks ks.length cks) rfl
  have j6 := J1.out.cell (i := 6) (v := .slice bks ks.length dks) rfl
  have i7 := I1.out.cell (i := 7) (v := .slice ats ts.length cts) rfl
  have j7 := J1.out.cell (i := 7) (v := .slice bts ts.length dts) rfl
  have i8 := I1.out.cell (i := 8) (v := .slice aes es.length ces) rfl
  have j8 := J1.out.cell (i := 8) (v := .slice bes es.length des) rfl
  go_wp2_with fail
  refine (eqTops_same (hks.below B1.out (Nat.le_refl _)) (gks.below B1.out (Nat.le_refl _)) (hts.below B1.out (Nat.le_refl _)) (gts.below B1.out (Nat.le_refl _)) (hes.below B1.out (Nat.le_refl _)) (ges.below B1.out (Nat.le_refl _))).mono ?_
  rintro e w2 ⟨rfl, hb1⟩
  have B2 := Lib.hid (B1.out.trans (hb1.mono B1.out.size))
  have I2 := Lib.hid (I1.out.below hb1 (Nat.le_refl _))
  have J2 := Lib.hid (J1.out.below hb1 (Nat.le_refl _))
  clear hb1 B1 I1 J1 i5 j5 i6 j6 i7 j7 i8 j8
  go_wp2
  go_ret
  exact ⟨rfl, B2.out⟩

/-- The room that is left, or -1. -/
theorem szSaved_any {acs : Option Addr} {ccs : Nat} {cs : List Int} {aks : Option Addr} {cks : Nat} {ks : List Int} {ats : Option Addr} {cts : Nat} {ts : List Int} {aes : Option Addr} {ces : Nat} {es : List Int} {nm : ByteArray} {W D S R : Int} {l : Int} {w : World} (hcs : Rd (Value.int .i64) w acs ccs cs) (hks : Rd (Value.int .i64) w aks cks ks) (hts : Rd (Value.int .i64) w ats cts ts) (hes : Rd (Value.int .i64) w aes ces es) (hnm : nm.size ≤ 9223372036854775807) (l0 : 0 ≤ l) (l1 : l ≤ 1048576) :
    Calls Try.prog 47 #[.agg #[.string nm, .int .i64 W, .int .i64 D, .int .i64 S, .slice acs cs.length ccs, .int .i64 R, .slice aks ks.length cks, .slice ats ts.length cts, .slice aes es.length ces], .int .i64 l] w fun e w' => e = .returned (.int .i64 (room l ((nm.size : Int) + ((cs.length : Int)) + ((ks.length : Int) + (ts.length : Int) + (es.length : Int))))) ∧ Below w.heap.size w w' := by
  have ewl : IntKind.i64.wrap (l - (nm.size : Int)) = l - (nm.size : Int) := IntWalk.i64_in _ (by omega)
  have B0 : Below w.heap.size w (w.alloc (.cells #[.string nm, .int .i64 W, .int .i64 D, .int .i64 S, .slice acs cs.length ccs, .int .i64 R, .slice aks ks.length cks, .slice ats ts.length cts, .slice aes es.length ces] 73)) := (Below.refl _ _).alloc (Nat.le_refl _) _
  have I0 : Blk (w.alloc (.cells #[.string nm, .int .i64 W, .int .i64 D, .int .i64 S, .slice acs cs.length ccs, .int .i64 R, .slice aks ks.length cks, .slice ats ts.length cts, .slice aes es.length ces] 73)) w.heap.size #[.string nm, .int .i64 W, .int .i64 D, .int .i64 S, .slice acs cs.length ccs, .int .i64 R, .slice aks ks.length cks, .slice ats ts.length cts, .slice aes es.length ces] 73 := Blk.new _ _ _
  have H0 := Lib.hid (And.intro B0 I0)
  clear B0 I0
  by_cases g0 : l < (nm.size : Int)
  · have et := Lib.hid (room_no (l := l) (s := (nm.size : Int) + ((cs.length : Int)) + ((ks.length : Int) + (ts.length : Int) + (es.length : Int))) (by omega))
    rw [et.out]
    have hdl : decide (l - (nm.size : Int) < 0) = true := decide_eq_true (by omega)
    go_enter Try.func47, Try.ntmps47
    go_wp2
    go_ret
    exact ⟨rfl, H0.out.1⟩
  have hdl : decide (l - (nm.size : Int) < 0) = false := decide_eq_false (by omega)
  by_cases g1 : (l - (nm.size : Int)) < ((cs.length : Int))
  · have e1 := Lib.hid (room_no g1)
    have et := Lib.hid (room_no (l := l) (s := (nm.size : Int) + ((cs.length : Int)) + ((ks.length : Int) + (ts.length : Int) + (es.length : Int))) (by omega))
    rw [et.out]
    go_enter Try.func47, Try.ntmps47
    go_wp2_with fail
    generalize w.alloc (.cells #[.string nm, .int .i64 W, .int .i64 D, .int .i64 S, .slice acs cs.length ccs, .int .i64 R, .slice aks ks.length cks, .slice ats ts.length cts, .slice aes es.length ces] 73) = w0 at H0 ⊢
    have B0 := Lib.hid H0.out.1
    have I0 := Lib.hid H0.out.2
    clear H0
    refine (szCells_any (hcs.below B0.out (Nat.le_refl _)) (by omega) (by omega)).mono ?_
    rintro e w1 ⟨rfl, hb0⟩
    rw [e1.out]
    have B1 := Lib.hid (B0.out.trans (hb0.mono B0.out.size))
    have I1 := Lib.hid (I0.out.below hb0 (Nat.le_refl _))
    clear hb0
    go_wp2
    go_ret
    exact ⟨rfl, B1.out⟩
  have e1 := Lib.hid (room_yes g1)
  by_cases g2 : ((l - (nm.size : Int)) - ((cs.length : Int))) < ((ks.length : Int) + (ts.length : Int) + (es.length : Int))
  · have e2 := Lib.hid (room_no g2)
    have et := Lib.hid (room_no (l := l) (s := (nm.size : Int) + ((cs.length : Int)) + ((ks.length : Int) + (ts.length : Int) + (es.length : Int))) (by omega))
    rw [et.out]
    go_enter Try.func47, Try.ntmps47
    go_wp2_with fail
    generalize w.alloc (.cells #[.string nm, .int .i64 W, .int .i64 D, .int .i64 S, .slice acs cs.length ccs, .int .i64 R, .slice aks ks.length cks, .slice ats ts.length cts, .slice aes es.length ces] 73) = w0 at H0 ⊢
    have B0 := Lib.hid H0.out.1
    have I0 := Lib.hid H0.out.2
    clear H0
    refine (szCells_any (hcs.below B0.out (Nat.le_refl _)) (by omega) (by omega)).mono ?_
    rintro e w1 ⟨rfl, hb0⟩
    rw [e1.out]
    have B1 := Lib.hid (B0.out.trans (hb0.mono B0.out.size))
    have I1 := Lib.hid (I0.out.below hb0 (Nat.le_refl _))
    clear hb0
    have i5 := I1.out.cell (i := 5) (v := .int .i64 R) rfl
    have i6 := I1.out.cell (i := 6) (v := .slice aks ks.length cks) rfl
    have i7 := I1.out.cell (i := 7) (v := .slice ats ts.length cts) rfl
    have i8 := I1.out.cell (i := 8) (v := .slice aes es.length ces) rfl
    go_wp2_with fail
    refine (szTops_any (hks.below B1.out (Nat.le_refl _)) (hts.below B1.out (Nat.le_refl _)) (hes.below B1.out (Nat.le_refl _)) (by omega) (by omega)).mono ?_
    rintro e w2 ⟨rfl, hb1⟩
    rw [e2.out]
    have B2 := Lib.hid (B1.out.trans (hb1.mono B1.out.size))
    have I2 := Lib.hid (I1.out.below hb1 (Nat.le_refl _))
    clear hb1 i5 i6 i7 i8
    go_wp2
    go_ret
    exact ⟨rfl, B2.out⟩
  have e2 := Lib.hid (room_yes g2)
  have et := Lib.hid (room_yes (l := l) (s := (nm.size : Int) + ((cs.length : Int)) + ((ks.length : Int) + (ts.length : Int) + (es.length : Int))) (by omega))
  have ef : (((l - (nm.size : Int)) - ((cs.length : Int))) - ((ks.length : Int) + (ts.length : Int) + (es.length : Int))) = l - ((nm.size : Int) + ((cs.length : Int)) + ((ks.length : Int) + (ts.length : Int) + (es.length : Int))) := by omega
  rw [et.out, ← ef]
  clear ef
  go_enter Try.func47, Try.ntmps47
  go_wp2_with fail
  generalize w.alloc (.cells #[.string nm, .int .i64 W, .int .i64 D, .int .i64 S, .slice acs cs.length ccs, .int .i64 R, .slice aks ks.length cks, .slice ats ts.length cts, .slice aes es.length ces] 73) = w0 at H0 ⊢
  have B0 := Lib.hid H0.out.1
  have I0 := Lib.hid H0.out.2
  clear H0
  refine (szCells_any (hcs.below B0.out (Nat.le_refl _)) (by omega) (by omega)).mono ?_
  rintro e w1 ⟨rfl, hb0⟩
  rw [e1.out]
  have B1 := Lib.hid (B0.out.trans (hb0.mono B0.out.size))
  have I1 := Lib.hid (I0.out.below hb0 (Nat.le_refl _))
  clear hb0
  have i5 := I1.out.cell (i := 5) (v := .int .i64 R) rfl
  have i6 := I1.out.cell (i := 6) (v := .slice aks ks.length cks) rfl
  have i7 := I1.out.cell (i := 7) (v := .slice ats ts.length cts) rfl
  have i8 := I1.out.cell (i := 8) (v := .slice aes es.length ces) rfl
  go_wp2_with fail
  refine (szTops_any (hks.below B1.out (Nat.le_refl _)) (hts.below B1.out (Nat.le_refl _)) (hes.below B1.out (Nat.le_refl _)) (by omega) (by omega)).mono ?_
  rintro e w2 ⟨rfl, hb1⟩
  rw [e2.out]
  have B2 := Lib.hid (B1.out.trans (hb1.mono B1.out.size))
  have I2 := Lib.hid (I1.out.below hb1 (Nat.le_refl _))
  clear hb1 i5 i6 i7 i8
  go_wp2
  go_ret
  exact ⟨rfl, B2.out⟩

end Go.Proofs.Ytgkmmilmdhhleaa
