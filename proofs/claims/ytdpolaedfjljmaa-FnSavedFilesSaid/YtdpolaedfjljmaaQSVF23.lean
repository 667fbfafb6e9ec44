/- Valid saved ones in both texts. -/
import Derived.Test.YtdpolaedfjljmaaQSVF22
import Derived.Test.YtdpolaedfjljmaaQSVF4
namespace Go.Proofs.Ytdpolaedfjljmaa
open Go.RowKit

def savedB (nm : ByteArray) (W D S : Int) (cs : List Int) (R : Int) (ks ts es : List Int) : Bool := nameB nm && cellsB W D S cs && keysB cs && topsB R ks ts es && keysB ts
theorem savedB_f {nm : ByteArray} {W D S R : Int} {cs ks ts es : List Int} (h : nameB nm = false ∨ cellsB W D S cs = false ∨ keysB cs = false ∨ topsB R ks ts es = false ∨ keysB ts = false) : savedB nm W D S cs R ks ts es = false := by
  unfold savedB
  rcases h with h | h | h | h | h <;> rw [h] <;> simp

set_option maxRecDepth 8000 in
set_option maxHeartbeats 4000000 in
theorem validSaved_any {acs : Option Addr} {ccs : Nat} {cs : List Int} {aks : Option Addr} {cks : Nat} {ks : List Int} {ats : Option Addr} {cts : Nat} {ts : List Int} {aes : Option Addr} {ces : Nat} {es : List Int} {nm : ByteArray} {W D S R : Int} {w : World} (hcs : Rd (Value.int .i64) w acs ccs cs) (hks : Rd (Value.int .i64) w aks cks ks) (hts : Rd (Value.int .i64) w ats cts ts) (hes : Rd (Value.int .i64) w aes ces es) (hnm : nm.size ≤ 9223372036854775807) :
    Calls Try.prog 27 #[.agg #[.string nm, .int .i64 W, .int .i64 D, .int .i64 S, .slice acs cs.length ccs, .int .i64 R, .slice aks ks.length cks, .slice ats ts.length cts, .slice aes es.length ces]] w fun e w' => e = .returned (.bool (savedB nm W D S cs R ks ts es)) ∧ Below w.heap.size w w' := by
  have B0 : Below w.heap.size w (w.alloc (.cells #[.string nm, .int .i64 W, .int .i64 D, .int .i64 S, .slice acs cs.length ccs, .int .i64 R, .slice aks ks.length cks, .slice ats ts.length cts, .slice aes es.length ces] 28)) := (Below.refl _ _).alloc (Nat.le_refl _) _
  have I0 : Blk (w.alloc (.cells #[.string nm, .int .i64 W, .int .i64 D, .int .i64 S, .slice acs cs.length ccs, .int .i64 R, .slice aks ks.length cks, .slice ats ts.length cts, .slice aes es.length ces] 28)) w.heap.size #[.string nm, .int .i64 W, .int .i64 D, .int .i64 S, .slice acs cs.length ccs, .int .i64 R, .slice aks ks.length cks, .slice ats ts.length cts, .slice aes es.length ces] 28 := Blk.new _ _ _
  have H0 := Lib.hid (And.intro B0 (And.intro I0 (And.intro (hcs.below B0 (Nat.le_refl _)) (And.intro (hks.below B0 (Nat.le_refl _)) (And.intro (hts.below B0 (Nat.le_refl _)) (hes.below B0 (Nat.le_refl _)))))))
  clear B0 I0 hcs hks hts hes
  cases hc0 : nameB nm with
  | false =>
    rw [savedB_f (.inl hc0)]
    go_enter Try.func27, Try.ntmps27
    go_wp2_with fail
    generalize w.alloc (.cells #[.string nm, .int .i64 W, .int .i64 D, .int .i64 S, .slice acs cs.length ccs, .int .i64 R, .slice aks ks.length cks, .slice ats ts.length cts, .slice aes es.length ces] 28) = W0 at H0 ⊢
    have HB0 := Lib.hid H0.out.1
    have I0 := Lib.hid H0.out.2.1
    have R1 := Lib.hid H0.out.2.2.1
    have R2 := Lib.hid H0.out.2.2.2.1
    have R3 := Lib.hid H0.out.2.2.2.2.1
    have R4 := Lib.hid H0.out.2.2.2.2.2
    clear H0
    have i0 := (I0.out.below (Below.refl _ _) (Nat.le_refl _)).cell (i := 0) (v := .string nm) rfl
    refine (isName_any hnm).mono ?_
    rintro e wg1 ⟨rfl, rfl⟩
    rw [hc0]
    clear i0
    go_wp2
    go_ret
    exact ⟨rfl, HB0.out.trans ((Below.refl _ _).mono HB0.out.size)⟩
  | true =>
  cases hc1 : cellsB W D S cs with
  | false =>
    rw [savedB_f (.inr (.inl hc1))]
    go_enter Try.func27, Try.ntmps27
    go_wp2_with fail
    generalize w.alloc (.cells #[.string nm, .int .i64 W, .int .i64 D, .int .i64 S, .slice acs cs.length ccs, .int .i64 R, .slice aks ks.length cks, .slice ats ts.length cts, .slice aes es.length ces] 28) = W0 at H0 ⊢
    have HB0 := Lib.hid H0.out.1
    have I0 := Lib.hid H0.out.2.1
    have R1 := Lib.hid H0.out.2.2.1
    have R2 := Lib.hid H0.out.2.2.2.1
    have R3 := Lib.hid H0.out.2.2.2.2.1
    have R4 := Lib.hid H0.out.2.2.2.2.2
    clear H0
    have i0 := (I0.out.below (Below.refl _ _) (Nat.le_refl _)).cell (i := 0) (v := .string nm) rfl
    refine (isName_any hnm).mono ?_
    rintro e wg1 ⟨rfl, rfl⟩
    rw [hc0]
    clear i0
    have i1 := (I0.out.below (Below.refl _ _) (Nat.le_refl _)).cell (i := 1) (v := .int .i64 W) rfl
    have i2 := (I0.out.below (Below.refl _ _) (Nat.le_refl _)).cell (i := 2) (v := .int .i64 D) rfl
    have i3 := (I0.out.below (Below.refl _ _) (Nat.le_refl _)).cell (i := 3) (v := .int .i64 S) rfl
    have i4 := (I0.out.below (Below.refl _ _) (Nat.le_refl _)).cell (i := 4) (v := .slice acs cs.length ccs) rfl
    go_wp2_with fail
    refine (validCells_any (R1.out.below (Below.refl _ _) (Nat.le_refl _))).mono ?_
    rintro e wg2 ⟨rfl, hbg2⟩
    have BG2 := Lib.hid hbg2
    clear hbg2
    rw [hc1]
    clear i1 i2 i3 i4
    go_wp2
    go_ret
    exact ⟨rfl, HB0.out.trans (BG2.out.mono HB0.out.size)⟩
  | true =>
  cases hc2 : keysB cs with
  | false =>
    rw [savedB_f (.inr (.inr (.inl hc2)))]
    go_enter Try.func27, Try.ntmps27
    go_wp2_with fail
    generalize w.alloc (.cells #[.string nm, .int .i64 W, .int .i64 D, .int .i64 S, .slice acs cs.length ccs, .int .i64 R, .slice aks ks.length cks, .slice ats ts.length cts, .slice aes es.length ces] 28) = W0 at H0 ⊢
    have HB0 := Lib.hid H0.out.1
    have I0 := Lib.hid H0.out.2.1
    have R1 := Lib.hid H0.out.2.2.1
    have R2 := Lib.hid H0.out.2.2.2.1
    have R3 := Lib.hid H0.out.2.2.2.2.1
    have R4 := Lib.hid H0.out.2.2.2.2.2
    clear H0
    have i0 := (I0.out.below (Below.refl _ _) (Nat.le_refl _)).cell (i := 0) (v := .string nm) rfl
    refine (isName_any hnm).mono ?_
    rintro e wg1 ⟨rfl, rfl⟩
    rw [hc0]
    clear i0
    have i1 := (I0.out.below (Below.refl _ _) (Nat.le_refl _)).cell (i := 1) (v := .int .i64 W) rfl
    have i2 := (I0.out.below (Below.refl _ _) (Nat.le_refl _)).cell (i := 2) (v := .int .i64 D) rfl
    have i3 := (I0.out.below (Below.refl _ _) (Nat.le_refl _)).cell (i := 3) (v := .int .i64 S) rfl
    have i4 := (I0.out.below (Below.refl _ _) (Nat.le_refl _)).cell (i := 4) (v := .slice acs cs.length ccs) rfl
    go_wp2_with fail
    refine (validCells_any (R1.out.below (Below.refl _ _) (Nat.le_refl _))).mono ?_
    rintro e wg2 ⟨rfl, hbg2⟩
    have BG2 := Lib.hid hbg2
    clear hbg2
    rw [hc1]
    clear i1 i2 i3 i4
    have i4 := (I0.out.below BG2.out (Nat.le_refl _)).cell (i := 4) (v := .slice acs cs.length ccs) rfl
    go_wp2_with fail
    refine (areAllKeys_any (R1.out.below BG2.out (Nat.le_refl _))).mono ?_
    rintro e wg3 ⟨rfl, hbg3⟩
    have BG3 := Lib.hid (BG2.out.trans (hbg3.mono BG2.out.size))
    clear hbg3
    rw [hc2]
    clear i4
    go_wp2
    go_ret
    exact ⟨rfl, HB0.out.trans (BG3.out.mono HB0.out.size)⟩
  | true =>
  cases hc3 : topsB R ks ts es with
  | false =>
    rw [savedB_f (.inr (.inr (.inr (.inl hc3))))]
    go_enter Try.func27, Try.ntmps27
    go_wp2_with fail
    generalize w.alloc (.cells #[.string nm, .int .i64 W, .int .i64 D, .int .i64 S, .slice acs cs.length ccs, .int .i64 R, .slice aks ks.length cks, .slice ats ts.length cts, .slice aes es.length ces] 28) = W0 at H0 ⊢
    have HB0 := Lib.hid H0.out.1
    have I0 := Lib.hid H0.out.2.1
    have R1 := Lib.hid H0.out.2.2.1
    have R2 := Lib.hid H0.out.2.2.2.1
    have R3 := Lib.hid H0.out.2.2.2.2.1
    have R4 := Lib.hid H0.out.2.2.2.2.2
    clear H0
    have i0 := (I0.out.below (Below.refl _ _) (Nat.le_refl _)).cell (i := 0) (v := .string nm) rfl
    refine (isName_any hnm).mono ?_
    rintro e wg1 ⟨rfl, rfl⟩
    rw [hc0]
    clear i0
    have i1 := (I0.out.below (Below.refl _ _) (Nat.le_refl _)).cell (i := 1) (v := .int .i64 W) rfl
    have i2 := (I0.out.below (Below.refl _ _) (Nat.le_refl _)).cell (i := 2) (v := .int .i64 D) rfl
    have i3 := (I0.out.below (Below.refl _ _) (Nat.le_refl _)).cell (i := 3) (v := .int .i64 S) rfl
    have i4 := (I0.out.below (Below.refl _ _) (Nat.le_refl _)).cell (i := 4) (v := .slice acs cs.length ccs) rfl
    go_wp2_with fail
    refine (validCells_any (R1.out.below (Below.refl _ _) (Nat.le_refl _))).mono ?_
    rintro e wg2 ⟨rfl, hbg2⟩
    have BG2 := Lib.hid hbg2
    clear hbg2
    rw [hc1]
    clear i1 i2 i3 i4
    have i4 := (I0.out.below BG2.out (Nat.le_refl _)).cell (i := 4) (v := .slice acs cs.length ccs) rfl
    go_wp2_with fail
    refine (areAllKeys_any (R1.out.below BG2.out (Nat.le_refl _))).mono ?_
    rintro e wg3 ⟨rfl, hbg3⟩
    have BG3 := Lib.hid (BG2.out.trans (hbg3.mono BG2.out.size))
    clear hbg3
    rw [hc2]
    clear i4
    have i5 := (I0.out.below BG3.out (Nat.le_refl _)).cell (i := 5) (v := .int .i64 R) rfl
    have i6 := (I0.out.below BG3.out (Nat.le_refl _)).cell (i := 6) (v := .slice aks ks.length cks) rfl
    have i7 := (I0.out.below BG3.out (Nat.le_refl _)).cell (i := 7) (v := .slice ats ts.length cts) rfl
    have i8 := (I0.out.below BG3.out (Nat.le_refl _)).cell (i := 8) (v := .slice aes es.length ces) rfl
    go_wp2_with fail
    refine (validTops_any (R2.out.below BG3.out (Nat.le_refl _)) (R3.out.below BG3.out (Nat.le_refl _)) (R4.out.below BG3.out (Nat.le_refl _))).mono ?_
    rintro e wg4 ⟨rfl, hbg4⟩
    have BG4 := Lib.hid (BG3.out.trans (hbg4.mono BG3.out.size))
    clear hbg4
    rw [hc3]
    clear i5 i6 i7 i8
    go_wp2
    go_ret
    exact ⟨rfl, HB0.out.trans (BG4.out.mono HB0.out.size)⟩
  | true =>
  cases hc4 : keysB ts with
  | false =>
    rw [savedB_f (.inr (.inr (.inr (.inr hc4))))]
    go_enter Try.func27, Try.ntmps27
    go_wp2_with fail
    generalize w.alloc (.cells #[.string nm, .int .i64 W, .int .i64 D, .int .i64 S, .slice acs cs.length ccs, .int .i64 R, .slice aks ks.length cks, .slice ats ts.length cts, .slice aes es.length ces] 28) = W0 at H0 ⊢
    have HB0 := Lib.hid H0.out.1
    have I0 := Lib.hid H0.out.2.1
    have R1 := Lib.hid H0.out.2.2.1
    have R2 := Lib.hid H0.out.2.2.2.1
    have R3 := Lib.hid H0.out.2.2.2.2.1
    have R4 := Lib.hid H0.out.2.2.2.2.2
    clear H0
    have i0 := (I0.out.below (Below.refl _ _) (Nat.le_refl _)).cell (i := 0) (v := .string nm) rfl
    refine (isName_any hnm).mono ?_
    rintro e wg1 ⟨rfl, rfl⟩
    rw [hc0]
    clear i0
    have i1 := (I0.out.below (Below.refl _ _) (Nat.le_refl _)).cell (i := 1) (v := .int .i64 W) rfl
    have i2 := (I0.out.below (Below.refl _ _) (Nat.le_refl _)).cell (i := 2) (v := .int .i64 D) rfl
    have i3 := (I0.out.below (Below.refl _ _) (Nat.le_refl _)).cell (i := 3) (v := .int .i64 S) rfl
    have i4 := (I0.out.below (Below.refl _ _) (Nat.le_refl _)).cell (i := 4) (v := .slice acs cs.length ccs) rfl
    go_wp2_with fail
    refine (validCells_any (R1.out.below (Below.refl _ _) (Nat.le_refl _))).mono ?_
    rintro e wg2 ⟨rfl, hbg2⟩
    have BG2 := Lib.hid hbg2
    clear hbg2
    rw [hc1]
    clear i1 i2 i3 i4
    have i4 := (I0.out.below BG2.out (Nat.le_refl _)).cell (i := 4) (v := .slice acs cs.length ccs) rfl
    go_wp2_with fail
    refine (areAllKeys_any (R1.out.below BG2.out (Nat.le_refl _))).mono ?_
    rintro e wg3 ⟨rfl, hbg3⟩
    have BG3 := Lib.hid (BG2.out.trans (hbg3.mono BG2.out.size))
    clear hbg3
    rw [hc2]
    clear i4
    have i5 := (I0.out.below BG3.out (Nat.le_refl _)).cell (i := 5) (v := .int .i64 R) rfl
    have i6 := (I0.out.below BG3.out (Nat.le_refl _)).cell (i := 6) (v := .slice aks ks.length cks) rfl
    have i7 := (I0.out.below BG3.out (Nat.le_refl _)).cell (i := 7) (v := .slice ats ts.length cts) rfl
    have i8 := (I0.out.below BG3.out (Nat.le_refl _)).cell (i := 8) (v := .slice aes es.length ces) rfl
    go_wp2_with fail
    refine (validTops_any (R2.out.below BG3.out (Nat.le_refl _)) (R3.out.below BG3.out (Nat.le_refl _)) (R4.out.below BG3.out (Nat.le_refl _))).mono ?_
    rintro e wg4 ⟨rfl, hbg4⟩
    have BG4 := Lib.hid (BG3.out.trans (hbg4.mono BG3.out.size))
    clear hbg4
    rw [hc3]
    clear i5 i6 i7 i8
    have i7 := (I0.out.below BG4.out (Nat.le_refl _)).cell (i := 7) (v := .slice ats ts.length cts) rfl
    go_wp2_with fail
    refine (areAllKeys_any (R3.out.below BG4.out (Nat.le_refl _))).mono ?_
    rintro e wg5 ⟨rfl, hbg5⟩
    have BG5 := Lib.hid (BG4.out.trans (hbg5.mono BG4.out.size))
    clear hbg5
    rw [hc4]
    clear i7
    go_wp2
    go_ret
    exact ⟨rfl, HB0.out.trans (BG5.out.mono HB0.out.size)⟩
  | true =>
  have hyes : savedB nm W D S cs R ks ts es = true := by unfold savedB; rw [hc0, hc1, hc2, hc3, hc4]; rfl
  rw [hyes]
  clear hyes
  go_enter Try.func27, Try.ntmps27
  go_wp2_with fail
  generalize w.alloc (.cells #[.string nm, .int .i64 W, .int .i64 D, .int .i64 S, .slice acs cs.length ccs, .int .i64 R, .slice aks ks.length cks, .slice ats ts.length cts, .slice aes es.length ces] 28) = W0 at H0 ⊢
  have HB0 := Lib.hid H0.out.1
  have I0 := Lib.hid H0.out.2.1
  have R1 := Lib.hid H0.out.2.2.1
  have R2 := Lib.hid H0.out.2.2.2.1
  have R3 := Lib.hid H0.out.2.2.2.2.1
  have R4 := Lib.hid H0.out.2.2.2.2.2
  clear H0
  have i0 := (I0.out.below (Below.refl _ _) (Nat.le_refl _)).cell (i := 0) (v := .string nm) rfl
  refine (isName_any hnm).mono ?_
  rintro e wg1 ⟨rfl, rfl⟩
  rw [hc0]
  clear i0
  have i1 := (I0.out.below (Below.refl _ _) (Nat.le_refl _)).cell (i := 1) (v := .int .i64 W) rfl
  have i2 := (I0.out.below (Below.refl _ _) (Nat.le_refl _)).cell (i := 2) (v := .int .i64 D) rfl
  have i3 := (I0.out.below (Below.refl _ _) (Nat.le_refl _)).cell (i := 3) (v := .int .i64 S) rfl
  have i4 := (I0.out.below (Below.refl _ _) (Nat.le_refl _)).cell (i := 4) (v := .slice acs cs.length ccs) rfl
  go_wp2_with fail
  refine (validCells_any (R1.out.below (Below.refl _ _) (Nat.le_refl _))).mono ?_
  rintro e wg2 ⟨rfl, hbg2⟩
  have BG2 := Lib.hid hbg2
  clear hbg2
  rw [hc1]
  clear i1 i2 i3 i4
  have i4 := (I0.out.below BG2.out (Nat.le_refl _)).cell (i := 4) (v := .slice acs cs.length ccs) rfl
  go_wp2_with fail
  refine (areAllKeys_any (R1.out.below BG2.out (Nat.le_refl _))).mono ?_
  rintro e wg3 ⟨rfl, hbg3⟩
  have BG3 := Lib.hid (BG2.out.trans (hbg3.mono BG2.out.size))
  clear hbg3
  rw [hc2]
  clear i4
  have i5 := (I0.out.below BG3.out (Nat.le_refl _)).cell (i := 5) (v := .int .i64 R) rfl
  have i6 := (I0.out.below BG3.out (Nat.le_refl _)).cell (i := 6) (v := .slice aks ks.length cks) rfl
  have i7 := (I0.out.below BG3.out (Nat.le_refl _)).cell (i := 7) (v := .slice ats ts.length cts) rfl
  have i8 := (I0.out.below BG3.out (Nat.le_refl _)).cell (i := 8) (v := .slice aes es.length ces) rfl
  go_wp2_with fail
  refine (validTops_any (R2.out.below BG3.out (Nat.le_refl _)) (R3.out.below BG3.out (Nat.le_refl _)) (R4.out.below BG3.out (Nat.le_refl _))).mono ?_
  rintro e wg4 ⟨rfl, hbg4⟩
  have BG4 := Lib.hid (BG3.out.trans (hbg4.mono BG3.out.size))
  clear hbg4
  rw [hc3]
  clear i5 i6 i7 i8
  have i7 := (I0.out.below BG4.out (Nat.le_refl _)).cell (i := 7) (v := .slice ats ts.length cts) rfl
  go_wp2_with fail
  refine (areAllKeys_any (R3.out.below BG4.out (Nat.le_refl _))).mono ?_
  rintro e wg5 ⟨rfl, hbg5⟩
  have BG5 := Lib.hid (BG4.out.trans (hbg5.mono BG4.out.size))
  clear hbg5
  rw [hc4]
  clear i7
  go_wp2
  go_ret
  exact ⟨rfl, HB0.out.trans (BG5.out.mono HB0.out.size)⟩

set_option maxRecDepth 8000 in
set_option maxHeartbeats 8000000 in
theorem l07Saved_any {b0 o : Nat} {acs : Option Addr} {ccs : Nat} {cs : List Int} {aks : Option Addr} {cks : Nat} {ks : List Int} {ats : Option Addr} {cts : Nat} {ts : List Int} {aes : Option Addr} {ces : Nat} {es : List Int} {nm : ByteArray} {W D S R : Int} {w : World} (hcs : Rd (Value.int .i64) w acs ccs cs) (hks : Rd (Value.int .i64) w aks cks ks) (hts : Rd (Value.int .i64) w ats cts ts) (hes : Rd (Value.int .i64) w aes ces es) (hnm : nm.size ≤ 9223372036854775807) (d0 : w.cell? ⟨b0, o, none⟩ = some (.string nm)) (d1 : w.cell? ⟨b0, o + 1, none⟩ = some (.int .i64 W)) (d2 : w.cell? ⟨b0, o + 2, none⟩ = some (.int .i64 D)) (d3 : w.cell? ⟨b0, o + 3, none⟩ = some (.int .i64 S)) (d4 : w.cell? ⟨b0, o + 4, none⟩ = some (.slice acs cs.length ccs)) (d5 : w.cell? ⟨b0, o + 5, none⟩ = some (.int .i64 R)) (d6 : w.cell? ⟨b0, o + 6, none⟩ = some (.slice aks ks.length cks)) (d7 : w.cell? ⟨b0, o + 7, none⟩ = some (.slice ats ts.length cts)) (d8 : w.cell? ⟨b0, o + 8, none⟩ = some (.slice aes es.length ces)) :
    Calls Try.prog 62 #[.pointer (some ⟨b0, o, none⟩)] w fun e w' => e = .returned (.bool (savedB nm W D S cs R ks ts es)) ∧ Below w.heap.size w w' := by
  have hlc := hcs.len
  have hlt0 := hts.len
  cases hc0 : nameB nm with
  | false =>
    rw [savedB_f (.inl hc0)]
    go_enter Try.func62, Try.ntmps62
    go_wp2_with fail
    refine (l07Name_any hnm).mono ?_
    rintro e wg1 ⟨rfl, rfl⟩
    rw [hc0]
    go_wp2
    go_ret
    exact ⟨rfl, (Below.refl w.heap.size w)⟩
  | true =>
  cases hc1 : cellsB W D S cs with
  | false =>
    rw [savedB_f (.inr (.inl hc1))]
    go_enter Try.func62, Try.ntmps62
    go_wp2_with fail
    refine (l07Name_any hnm).mono ?_
    rintro e wg1 ⟨rfl, rfl⟩
    rw [hc0]
    have d1' : _ := k_below (Below.refl w.heap.size w) (Nat.le_refl _) d1
    have d2' : _ := k_below (Below.refl w.heap.size w) (Nat.le_refl _) d2
    have d3' : _ := k_below (Below.refl w.heap.size w) (Nat.le_refl _) d3
    have d4' : _ := k_below (Below.refl w.heap.size w) (Nat.le_refl _) d4
    go_wp2_with fail
    refine (l03Is_any (hcs.below (Below.refl w.heap.size w) (Nat.le_refl _)) d1' (show _ = _ from d2') (show _ = _ from d3') (show _ = _ from d4')).mono ?_
    rintro e wg2' ⟨rfl, ng2, hwg2⟩
    have hbg2 := below_of_drewN w ng2 w.heap.size
    rw [← hwg2] at hbg2
    have BG2 := Lib.hid ((Below.refl w.heap.size w).trans (hbg2.mono (Below.refl w.heap.size w).size))
    clear hbg2 hwg2
    rw [hc1]
    clear d1' d2' d3' d4'
    go_wp2
    go_ret
    exact ⟨rfl, BG2.out⟩
  | true =>
  cases hc2 : topsB R ks ts es with
  | false =>
    rw [savedB_f (.inr (.inr (.inr (.inl hc2))))]
    go_enter Try.func62, Try.ntmps62
    go_wp2_with fail
    refine (l07Name_any hnm).mono ?_
    rintro e wg1 ⟨rfl, rfl⟩
    rw [hc0]
    have d1' : _ := k_below (Below.refl w.heap.size w) (Nat.le_refl _) d1
    have d2' : _ := k_below (Below.refl w.heap.size w) (Nat.le_refl _) d2
    have d3' : _ := k_below (Below.refl w.heap.size w) (Nat.le_refl _) d3
    have d4' : _ := k_below (Below.refl w.heap.size w) (Nat.le_refl _) d4
    go_wp2_with fail
    refine (l03Is_any (hcs.below (Below.refl w.heap.size w) (Nat.le_refl _)) d1' (show _ = _ from d2') (show _ = _ from d3') (show _ = _ from d4')).mono ?_
    rintro e wg2' ⟨rfl, ng2, hwg2⟩
    have hbg2 := below_of_drewN w ng2 w.heap.size
    rw [← hwg2] at hbg2
    have BG2 := Lib.hid ((Below.refl w.heap.size w).trans (hbg2.mono (Below.refl w.heap.size w).size))
    clear hbg2 hwg2
    rw [hc1]
    clear d1' d2' d3' d4'
    have d5' : _ := k_below BG2.out (Nat.le_refl _) d5
    have d6' : _ := k_below BG2.out (Nat.le_refl _) d6
    have d7' : _ := k_below BG2.out (Nat.le_refl _) d7
    have d8' : _ := k_below BG2.out (Nat.le_refl _) d8
    go_wp2_with fail
    refine (l03Tops_any (hks.below BG2.out (Nat.le_refl _)) (hts.below BG2.out (Nat.le_refl _)) (hes.below BG2.out (Nat.le_refl _)) d5' (show _ = _ from d6') (show _ = _ from d7') (show _ = _ from d8')).mono ?_
    rintro e wg3' ⟨rfl, ng3, hwg3⟩
    have hbg3 := below_of_drewN wg2' ng3 wg2'.heap.size
    rw [← hwg3] at hbg3
    have BG3 := Lib.hid (BG2.out.trans (hbg3.mono BG2.out.size))
    clear hbg3 hwg3
    rw [hc2]
    clear d5' d6' d7' d8'
    go_wp2
    go_ret
    exact ⟨rfl, BG3.out⟩
  | true =>
  have hyes : savedB nm W D S cs R ks ts es = (keysB cs && keysB ts) := by unfold savedB; rw [hc0, hc1, hc2]; simp
  obtain ⟨b, hb⟩ : ∃ b, (keysB cs && keysB ts) = b := ⟨_, rfl⟩
  have HBB := Lib.hid hb
  rw [hyes, hb]
  clear hyes hb
  go_enter Try.func62, Try.ntmps62
  go_wp2_with fail
  refine (l07Name_any hnm).mono ?_
  rintro e wg1 ⟨rfl, rfl⟩
  rw [hc0]
  have d1' : _ := k_below (Below.refl w.heap.size w) (Nat.le_refl _) d1
  have d2' : _ := k_below (Below.refl w.heap.size w) (Nat.le_refl _) d2
  have d3' : _ := k_below (Below.refl w.heap.size w) (Nat.le_refl _) d3
  have d4' : _ := k_below (Below.refl w.heap.size w) (Nat.le_refl _) d4
  go_wp2_with fail
  refine (l03Is_any (hcs.below (Below.refl w.heap.size w) (Nat.le_refl _)) d1' (show _ = _ from d2') (show _ = _ from d3') (show _ = _ from d4')).mono ?_
  rintro e wg2' ⟨rfl, ng2, hwg2⟩
  have hbg2 := below_of_drewN w ng2 w.heap.size
  rw [← hwg2] at hbg2
  have BG2 := Lib.hid ((Below.refl w.heap.size w).trans (hbg2.mono (Below.refl w.heap.size w).size))
  clear hbg2 hwg2
  rw [hc1]
  clear d1' d2' d3' d4'
  have d5' : _ := k_below BG2.out (Nat.le_refl _) d5
  have d6' : _ := k_below BG2.out (Nat.le_refl _) d6
  have d7' : _ := k_below BG2.out (Nat.le_refl _) d7
  have d8' : _ := k_below BG2.out (Nat.le_refl _) d8
  go_wp2_with fail
  refine (l03Tops_any (hks.below BG2.out (Nat.le_refl _)) (hts.below BG2.out (Nat.le_refl _)) (hes.below BG2.out (Nat.le_refl _)) d5' (show _ = _ from d6') (show _ = _ from d7') (show _ = _ from d8')).mono ?_
  rintro e wg3' ⟨rfl, ng3, hwg3⟩
  have hbg3 := below_of_drewN wg2' ng3 wg2'.heap.size
  rw [← hwg3] at hbg3
  have BG3 := Lib.hid (BG2.out.trans (hbg3.mono BG2.out.size))
  clear hbg3 hwg3
  rw [hc2]
  clear d5' d6' d7' d8'
  have BW := Lib.hid BG3.out
  have HD := Lib.hid (And.intro d4 d7)
  have d4' : _ := k_below BW.out (Nat.le_refl _) d4
  simp only [hc0, hc1, hc2]
  clear hc0 hc1 hc2
  go_wp2_with fail
  clear d0 d1 d2 d3 d4 d5 d6 d7 d8 d4'
  go_loopw [3, 31] (fun _ vi wr => ∃ k : Nat, vi = .int .i64 k ∧ k ≤ cs.length ∧ Hid (∀ x ∈ cs.take k, (!isKey x) = false) ∧ Hid (Below w.heap.size w wr)) (fun _ vi _ => cs.length - (intOf vi).toNat)
  case atStart => exact ⟨0, rfl, Nat.zero_le _, Lib.hid (by simp), BW⟩
  case round =>
    clear BW
    obtain ⟨k, rfl, hk, HP, BW⟩ := hrel
    have e4 : wr.cell? ⟨b0, o + 4, none⟩ = some (.slice acs cs.length ccs) := k_below BW.out (Nat.le_refl _) HD.out.1
    by_cases hlt : k < cs.length
    · have hltz : (k : Int) < (cs.length : Int) := by omega
      have hr := hcs.below BW.out (Nat.le_refl _)
      have hix := hr.idx und_is siz_is
      have hcx := hr.cell k hlt
      simp only [List.getElem?_eq_getElem hlt, Option.getD_some] at hcx
      obtain ⟨x, hx⟩ : ∃ x, cs[k] = x := ⟨_, rfl⟩
      rw [hx] at hcx
      have HX := Lib.hid hx
      have ewk : IntKind.i64.wrap ((k : Int) + 1) = (k : Int) + 1 := IntWalk.i64_in _ (by omega)
      clear hx hr
      go_wp2_with fail
      refine l02Key_any.mono ?_
      rintro e w1 ⟨rfl, rfl⟩
      cases hxx : isKey x with
      | false =>
        have HE : Hid (b = false) := Lib.hid (by rw [← HBB.out, show keysB cs = false by unfold keysB; rw [List.all_eq_false]; exact ⟨_, List.getElem_mem hlt, by rw [HX.out, hxx]; simp⟩]; simp)
        go_wp2
        go_ret
        exact ⟨ret_bool HE.out.symm, BW.out⟩
      | true =>
        have hs := snoc_none (p := fun x => !isKey x) hlt HP.out (by show (!isKey cs[k]) = false; rw [HX.out, hxx]; rfl)
        have HS := Lib.hid hs
        clear hs hxx
        go_wp2
        go_roundw
        case rel => exact ⟨k + 1, by go_num, by omega, HS, BW⟩
        case measure => simp [intOf]; omega
    · obtain rfl : k = cs.length := by omega
      have hltz : ¬ (cs.length : Int) < (cs.length : Int) := by omega
      have HKcs : Hid (keysB cs = true) := Lib.hid (by
        unfold keysB
        rw [List.all_eq_true]
        intro x hx
        have := HP.out x (by rw [List.take_length]; exact hx)
        simpa using this)
      have d7' : _ := k_below BW.out (Nat.le_refl _) HD.out.2
      clear hltz e4
      go_wp2_with fail
      clear d7'
      go_loopw [4, 51] (fun _ vi wr => ∃ k : Nat, vi = .int .i64 k ∧ k ≤ ts.length ∧ Hid (∀ x ∈ ts.take k, (!isKey x) = false) ∧ Hid (Below w.heap.size w wr)) (fun _ vi _ => ts.length - (intOf vi).toNat)
      case atStart => exact ⟨0, rfl, Nat.zero_le _, Lib.hid (by simp), BW⟩
      case round =>
        clear BW
        obtain ⟨k, rfl, hk, HP, BW⟩ := hrel
        have e7 : wr.cell? ⟨b0, o + 7, none⟩ = some (.slice ats ts.length cts) := k_below BW.out (Nat.le_refl _) HD.out.2
        by_cases hlt : k < ts.length
        · have hltz : (k : Int) < (ts.length : Int) := by omega
          have hr := hts.below BW.out (Nat.le_refl _)
          have hix := hr.idx und_is siz_is
          have hcx := hr.cell k hlt
          simp only [List.getElem?_eq_getElem hlt, Option.getD_some] at hcx
          obtain ⟨x, hx⟩ : ∃ x, ts[k] = x := ⟨_, rfl⟩
          rw [hx] at hcx
          have HX := Lib.hid hx
          have ewk : IntKind.i64.wrap ((k : Int) + 1) = (k : Int) + 1 := IntWalk.i64_in _ (by omega)
          clear hx hr
          go_wp2_with fail
          refine l02Key_any.mono ?_
          rintro e w1 ⟨rfl, rfl⟩
          cases hxx : isKey x with
          | false =>
            have HE : Hid (b = false) := Lib.hid (by rw [← HBB.out, show keysB ts = false by unfold keysB; rw [List.all_eq_false]; exact ⟨_, List.getElem_mem hlt, by rw [HX.out, hxx]; simp⟩]; simp)
            go_wp2
            go_ret
            exact ⟨ret_bool HE.out.symm, BW.out⟩
          | true =>
            have hs := snoc_none (p := fun x => !isKey x) hlt HP.out (by show (!isKey ts[k]) = false; rw [HX.out, hxx]; rfl)
            have HS := Lib.hid hs
            clear hs hxx
            go_wp2
            go_roundw
            case rel => exact ⟨k + 1, by go_num, by omega, HS, BW⟩
            case measure => simp [intOf]; omega
        · obtain rfl : k = ts.length := by omega
          have hltz : ¬ (ts.length : Int) < (ts.length : Int) := by omega
          have HKts : Hid (keysB ts = true) := Lib.hid (by
            unfold keysB
            rw [List.all_eq_true]
            intro x hx
            have := HP.out x (by rw [List.take_length]; exact hx)
            simpa using this)
          have HE : Hid (b = true) := Lib.hid (by rw [← HBB.out, HKcs.out, HKts.out]; rfl)
          go_wp2
          go_ret
          exact ⟨ret_bool HE.out.symm, BW.out⟩

end Go.Proofs.Ytdpolaedfjljmaa
