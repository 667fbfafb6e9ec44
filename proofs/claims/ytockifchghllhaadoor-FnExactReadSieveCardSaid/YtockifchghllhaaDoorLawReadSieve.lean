/- The walk of the law FnExactReadSieve. -/
import Derived.Test.YtockifchghllhaaDoorRsS
import Derived.Test.YtockifchghllhaaDoorMkDesk
import Derived.Test.YtockifchghllhaaDoorStSieve
import Derived.Deep.Cut
namespace Go.Proofs.YtockifchghllhaaDoor
open Go.RowKit

/-- What the walk asks of the program's own variables. -/
def VarsR (w : World) : Prop := PTab w ∧ ETab w ∧ MLen w
theorem VarsR.below {w w' : World} (h : VarsR w) {B : Nat} (hb : Below B w w') (hB : w.heap.size ≤ B) : VarsR w' := ⟨h.1.below hb hB, h.2.1.below hb hB, h.2.2.below hb hB⟩

set_option maxRecDepth 100000 in
set_option maxHeartbeats 8000000 in
theorem lawReadSieve_walk {s : ByteArray} {w : World} (hV : VarsR w) :
    Calls Tryd.prog 9 #[.string s] w fun e w' => e = .returned (.bool true) ∧ Below w.heap.size w w' := by
  by_cases hs : s.size ≤ 1048576
  · have hd : decide ((1048576 : Int) < (s.size : Int)) = false := decide_eq_false (by omega)
    have hlen := readSieve_len s
    obtain ⟨R, hR⟩ : ∃ z, rsR s = z := ⟨_, rfl⟩
    obtain ⟨S, hS⟩ : ∃ z, rsS s = z := ⟨_, rfl⟩
    obtain ⟨Q0, hQ0⟩ : ∃ z, rsL s = z := ⟨_, rfl⟩
    obtain ⟨bb, hbb⟩ : ∃ z, rsB s = z := ⟨_, rfl⟩
    rw [hQ0] at hlen
    have HSP : Hid (∀ w : World, Calls Tryd.prog 38 #[.string s] w (RetSie w R S Q0 bb)) := by
      show ∀ w : World, _
      intro w
      have := specRs_any (t := s) (w := w) hs
      rwa [hR, hS, hQ0, hbb] at this
    have HIM : Hid (∀ w : World, VarsR w → Calls Tryd.prog 39 #[.string s] w (RetSie w R S Q0 bb)) := by
      show ∀ w : World, _
      intro w h
      have := implReadSieve_any (t := s) (w := w) h.1 h.2.1 h.2.2 hs
      rwa [hR, hS, hQ0, hbb] at this
    have HV : Hid (∀ w', Below w.heap.size w w' → VarsR w') := Lib.hid (fun w' hb => hV.below hb (Nat.le_refl _))
    clear hV hR hS hQ0 hbb
    have hnb : (bb ^^ bb) = false := by simp
    have hnb2 : (bb != bb) = false := by simp
    have b64 : Q0.length ≤ 1048576 := hlen
    clear hlen
    go_enter Tryd.func9, Tryd.ntmps9
    go_wp2_with fail
    refine (HSP.out _).mono ?_
    rintro e w1 ⟨aw0, cw0, rfl, o0, hb⟩
    have B := Lib.hid hb
    have z1 := hb.size
    clear hb
    have LW0 := Lib.hid o0.blk
    have W0 := Lib.hid o0
    clear o0
    replace B := Lib.hid (B.out.alloc B.out.size (.cells #[.int .i64 R, .int .i64 S, .slice aw0 Q0.length cw0] 31))
    replace W0 := Lib.hid (W0.out.alloc (.cells #[.int .i64 R, .int .i64 S, .slice aw0 Q0.length cw0] 31))
    have X := Lib.hid (Blk.new w1 #[.int .i64 R, .int .i64 S, .slice aw0 Q0.length cw0] 31)
    have z1' : w1.heap.size < (w1.alloc (.cells #[.int .i64 R, .int .i64 S, .slice aw0 Q0.length cw0] 31)).heap.size := by simp
    go_upto_region 4 with (fail)
    generalize w1.alloc (.cells #[.int .i64 R, .int .i64 S, .slice aw0 Q0.length cw0] 31) = w2 at X z1' B W0 ⊢
    go_wp2_with fail
    refine (HIM.out _ (HV.out _ B.out)).mono ?_
    rintro e w3 ⟨ag0, cg0, rfl, o0, hb⟩
    have z3 := hb.size
    replace B := Lib.hid (B.out.trans (hb.mono B.out.size))
    replace W0 := Lib.hid (W0.out.below hb (Nat.le_refl _))
    replace X := Lib.hid (X.out.below hb (Nat.le_refl _))
    clear hb
    have LG0 := Lib.hid o0.blk
    have G0 := Lib.hid o0
    clear o0
    replace B := Lib.hid (B.out.alloc B.out.size (.cells #[.int .i64 R, .int .i64 S, .slice ag0 Q0.length cg0] 31))
    replace W0 := Lib.hid (W0.out.alloc (.cells #[.int .i64 R, .int .i64 S, .slice ag0 Q0.length cg0] 31))
    replace X := Lib.hid (X.out.alloc (.cells #[.int .i64 R, .int .i64 S, .slice ag0 Q0.length cg0] 31))
    replace G0 := Lib.hid (G0.out.alloc (.cells #[.int .i64 R, .int .i64 S, .slice ag0 Q0.length cg0] 31))
    have Y := Lib.hid (Blk.new w3 #[.int .i64 R, .int .i64 S, .slice ag0 Q0.length cg0] 31)
    have z3' : w3.heap.size < (w3.alloc (.cells #[.int .i64 R, .int .i64 S, .slice ag0 Q0.length cg0] 31)).heap.size := by simp
    go_upto_region 5 with (fail)
    generalize w3.alloc (.cells #[.int .i64 R, .int .i64 S, .slice ag0 Q0.length cg0] 31) = w4 at Y z3' B W0 X G0 ⊢
    have y0 := Y.out.cell (i := 0) (v := .int .i64 R) rfl
    have y1 := Y.out.cell (i := 1) (v := .int .i64 S) rfl
    have y2 := Y.out.cell (i := 2) (v := .slice ag0 Q0.length cg0) rfl
    have x0 := X.out.cell (i := 0) (v := .int .i64 R) rfl
    have x1 := X.out.cell (i := 1) (v := .int .i64 S) rfl
    have x2 := X.out.cell (i := 2) (v := .slice aw0 Q0.length cw0) rfl
    go_wp2_with fail
    refine (eqSieve_same G0.out.rd W0.out.rd).mono ?_
    rintro e w5 ⟨rfl, hb⟩
    have z5 := hb.size
    clear y0 y1 y2
    clear x0 x1 x2
    replace B := Lib.hid (B.out.trans (hb.mono B.out.size))
    replace W0 := Lib.hid (W0.out.below hb (Nat.le_refl _))
    replace X := Lib.hid (X.out.below hb (Nat.le_refl _))
    replace G0 := Lib.hid (G0.out.below hb (Nat.le_refl _))
    replace Y := Lib.hid (Y.out.below hb (Nat.le_refl _))
    clear hb
    have y0 := Y.out.cell (i := 0) (v := .int .i64 R) rfl
    have y1 := Y.out.cell (i := 1) (v := .int .i64 S) rfl
    have y2 := Y.out.cell (i := 2) (v := .slice ag0 Q0.length cg0) rfl
    go_wp2_with fail
    refine (markSieve_any (k0 := 1) G0.out (by omega)).mono ?_
    rintro e w6 ⟨rfl, m0, hg⟩
    have ht : Turned w2.heap.size w3.heap.size w5 w6 := Turned.of_grown hg (fun p hp => LG0.out p hp)
    clear hg
    have z6 := ht.size
    clear y0 y1 y2
    replace B := Lib.hid (B.out.trans (ht.below (by have := B.out.size; omega) B.out.size))
    replace W0 := Lib.hid (W0.out.turned ht (fun p hp => .inl (by have := (LW0.out p hp).2; omega)))
    replace X := Lib.hid (X.out.turned ht (.inl (by omega)))
    clear G0
    replace Y := Lib.hid (Y.out.turned ht (.inr (Nat.le_refl _)))
    have M0 := Lib.hid m0.rd
    clear ht m0
    have y0 := Y.out.cell (i := 0) (v := .int .i64 R) rfl
    have y1 := Y.out.cell (i := 1) (v := .int .i64 S) rfl
    have y2 := Y.out.cell (i := 2) (v := .slice ag0 Q0.length cg0) rfl
    go_wp2_with fail
    refine (heldSieve_any (k0 := 1) M0.out (by omega)).mono ?_
    rintro e w7 ⟨rfl, hb⟩
    have z7 := hb.size
    clear y0 y1 y2
    replace B := Lib.hid (B.out.trans (hb.mono B.out.size))
    replace W0 := Lib.hid (W0.out.below hb (Nat.le_refl _))
    replace X := Lib.hid (X.out.below hb (Nat.le_refl _))
    replace Y := Lib.hid (Y.out.below hb (Nat.le_refl _))
    replace M0 := Lib.hid (M0.out.below hb (Nat.le_refl _))
    clear hb
    go_wp2_with fail
    refine (HIM.out _ (HV.out _ B.out)).mono ?_
    rintro e w8 ⟨ah0, ch0, rfl, o0, hb⟩
    have z8 := hb.size
    replace B := Lib.hid (B.out.trans (hb.mono B.out.size))
    replace W0 := Lib.hid (W0.out.below hb (Nat.le_refl _))
    replace X := Lib.hid (X.out.below hb (Nat.le_refl _))
    replace Y := Lib.hid (Y.out.below hb (Nat.le_refl _))
    replace M0 := Lib.hid (M0.out.below hb (Nat.le_refl _))
    clear hb
    have LH0 := Lib.hid o0.blk
    have H0 := Lib.hid o0.rd
    clear o0
    have hba : Below w8.heap.size w8 (w8.alloc (.cells #[.int .i64 R, .int .i64 S, .slice ah0 Q0.length ch0] 31)) := (Below.refl _ _).alloc (Nat.le_refl _) _
    replace B := Lib.hid (B.out.trans (hba.mono B.out.size))
    replace W0 := Lib.hid (W0.out.below hba (Nat.le_refl _))
    replace X := Lib.hid (X.out.below hba (Nat.le_refl _))
    replace Y := Lib.hid (Y.out.below hba (Nat.le_refl _))
    replace M0 := Lib.hid (M0.out.below hba (Nat.le_refl _))
    replace H0 := Lib.hid (H0.out.below hba (Nat.le_refl _))
    clear hba
    have Z' := Lib.hid (Blk.new w8 #[.int .i64 R, .int .i64 S, .slice ah0 Q0.length ch0] 31)
    go_upto_region 16 with (fail)
    generalize w8.alloc (.cells #[.int .i64 R, .int .i64 S, .slice ah0 Q0.length ch0] 31) = w9 at Z' B W0 X Y M0 H0 ⊢
    have h0 := Z'.out.cell (i := 0) (v := .int .i64 R) rfl
    have h1 := Z'.out.cell (i := 1) (v := .int .i64 S) rfl
    have h2 := Z'.out.cell (i := 2) (v := .slice ah0 Q0.length ch0) rfl
    have x0 := X.out.cell (i := 0) (v := .int .i64 R) rfl
    have x1 := X.out.cell (i := 1) (v := .int .i64 S) rfl
    have x2 := X.out.cell (i := 2) (v := .slice aw0 Q0.length cw0) rfl
    go_wp2_with fail
    refine (eqSieve_same H0.out W0.out.rd).mono ?_
    rintro e w10 ⟨rfl, hb⟩
    clear h0 h1 h2
    clear x0 x1 x2
    replace B := Lib.hid (B.out.trans (hb.mono B.out.size))
    clear W0
    clear X
    replace Y := Lib.hid (Y.out.below hb (Nat.le_refl _))
    replace M0 := Lib.hid (M0.out.below hb (Nat.le_refl _))
    clear H0
    clear Z'
    clear hb
    have y0 := Y.out.cell (i := 0) (v := .int .i64 R) rfl
    have y1 := Y.out.cell (i := 1) (v := .int .i64 S) rfl
    have y2 := Y.out.cell (i := 2) (v := .slice ag0 Q0.length cg0) rfl
    go_wp2_with fail
    refine (heldSieve_any (k0 := 1) M0.out (by omega)).mono ?_
    rintro e w11 ⟨rfl, hb⟩
    have BB := Lib.hid (B.out.trans (hb.mono B.out.size))
    clear hb
    clear y0 y1 y2
    go_wp2
    go_ret
    exact ⟨rfl, BB.out⟩
  · have hd : decide ((1048576 : Int) < (s.size : Int)) = true := decide_eq_true (by omega)
    clear hV
    go_enter Tryd.func9, Tryd.ntmps9
    go_wp2
    go_ret
    exact ⟨rfl, Below.refl _ _⟩

end Go.Proofs.YtockifchghllhaaDoor
