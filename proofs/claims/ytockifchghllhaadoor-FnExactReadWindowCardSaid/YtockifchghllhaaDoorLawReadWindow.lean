/- The walk of the law FnExactReadWindow. -/
import Derived.Test.YtockifchghllhaaDoorRwI
import Derived.Test.YtockifchghllhaaDoorMkDesk
import Derived.Test.YtockifchghllhaaDoorWinG
import Derived.Deep.Cut
namespace Go.Proofs.YtockifchghllhaaDoor
open Go.RowKit

/-- What the walk asks of the program's own variables. -/
def VarsR (w : World) : Prop := PTab w ∧ ETab w ∧ MLen w
theorem VarsR.below {w w' : World} (h : VarsR w) {B : Nat} (hb : Below B w w') (hB : w.heap.size ≤ B) : VarsR w' := ⟨h.1.below hb hB, h.2.1.below hb hB, h.2.2.below hb hB⟩

set_option maxRecDepth 100000 in
set_option maxHeartbeats 8000000 in
theorem lawReadWindow_walk {s : ByteArray} {w : World} (hV : VarsR w) :
    Calls Tryd.prog 11 #[.string s] w fun e w' => e = .returned (.bool true) ∧ Below w.heap.size w w' := by
  by_cases hs : s.size ≤ 1048576
  · have hd : decide ((1048576 : Int) < (s.size : Int)) = false := decide_eq_false (by omega)
    have hlen := readWindow_len s
    obtain ⟨L, hL⟩ : ∃ z, rwL s = z := ⟨_, rfl⟩
    obtain ⟨P, hP⟩ : ∃ z, rwP s = z := ⟨_, rfl⟩
    obtain ⟨Q0, hQ0⟩ : ∃ z, rwT s = z := ⟨_, rfl⟩
    obtain ⟨Q1, hQ1⟩ : ∃ z, rwS s = z := ⟨_, rfl⟩
    obtain ⟨bb, hbb⟩ : ∃ z, rwB s = z := ⟨_, rfl⟩
    rw [hQ0, hQ1] at hlen
    have HSP : Hid (∀ w : World, Calls Tryd.prog 46 #[.string s] w (RetWinX w L P Q0 Q1 bb)) := by
      show ∀ w : World, _
      intro w
      have := specRw_any (t := s) (w := w) hs
      rwa [hL, hP, hQ0, hQ1, hbb] at this
    have HIM : Hid (∀ w : World, VarsR w → Calls Tryd.prog 47 #[.string s] w (RetWinX w L P Q0 Q1 bb)) := by
      show ∀ w : World, _
      intro w h
      have := implReadWindow_any (t := s) (w := w) h.1 h.2.1 h.2.2 hs
      rwa [hL, hP, hQ0, hQ1, hbb] at this
    have HV : Hid (∀ w', Below w.heap.size w w' → VarsR w') := Lib.hid (fun w' hb => hV.below hb (Nat.le_refl _))
    clear hV hL hP hQ0 hQ1 hbb
    have hnb : (bb ^^ bb) = false := by simp
    have hnb2 : (bb != bb) = false := by simp
    have b64 : Q0.length ≤ 1048576 ∧ Q1.length ≤ 1048576 := hlen
    clear hlen
    obtain ⟨b0, b1⟩ := b64
    go_enter Tryd.func11, Tryd.ntmps11
    go_wp2_with fail
    refine (HSP.out _).mono ?_
    rintro e w1 ⟨aw0, cw0, aw1, cw1, rfl, o0, o1, hsp, hb⟩
    have B := Lib.hid hb
    have z1 := hb.size
    clear hb
    have LW0 := Lib.hid o0.blk
    have W0 := Lib.hid o0
    have LW1 := Lib.hid o1.blk
    have W1 := Lib.hid o1
    have SW := Lib.hid hsp
    clear o0 o1 hsp
    replace B := Lib.hid (B.out.alloc B.out.size (.cells #[.int .i64 L, .int .i64 P, .slice aw0 Q0.length cw0, .slice aw1 Q1.length cw1] 56))
    replace W0 := Lib.hid (W0.out.alloc (.cells #[.int .i64 L, .int .i64 P, .slice aw0 Q0.length cw0, .slice aw1 Q1.length cw1] 56))
    replace W1 := Lib.hid (W1.out.alloc (.cells #[.int .i64 L, .int .i64 P, .slice aw0 Q0.length cw0, .slice aw1 Q1.length cw1] 56))
    have X := Lib.hid (Blk.new w1 #[.int .i64 L, .int .i64 P, .slice aw0 Q0.length cw0, .slice aw1 Q1.length cw1] 56)
    have z1' : w1.heap.size < (w1.alloc (.cells #[.int .i64 L, .int .i64 P, .slice aw0 Q0.length cw0, .slice aw1 Q1.length cw1] 56)).heap.size := by simp
    go_upto_region 4 with (fail)
    generalize w1.alloc (.cells #[.int .i64 L, .int .i64 P, .slice aw0 Q0.length cw0, .slice aw1 Q1.length cw1] 56) = w2 at X z1' B W0 W1 ⊢
    go_wp2_with fail
    refine (HIM.out _ (HV.out _ B.out)).mono ?_
    rintro e w3 ⟨ag0, cg0, ag1, cg1, rfl, o0, o1, hsp, hb⟩
    have z3 := hb.size
    replace B := Lib.hid (B.out.trans (hb.mono B.out.size))
    replace W0 := Lib.hid (W0.out.below hb (Nat.le_refl _))
    replace W1 := Lib.hid (W1.out.below hb (Nat.le_refl _))
    replace X := Lib.hid (X.out.below hb (Nat.le_refl _))
    clear hb
    have LG0 := Lib.hid o0.blk
    have G0 := Lib.hid o0
    have LG1 := Lib.hid o1.blk
    have G1 := Lib.hid o1
    have SG := Lib.hid hsp
    clear o0 o1 hsp
    replace B := Lib.hid (B.out.alloc B.out.size (.cells #[.int .i64 L, .int .i64 P, .slice ag0 Q0.length cg0, .slice ag1 Q1.length cg1] 56))
    replace W0 := Lib.hid (W0.out.alloc (.cells #[.int .i64 L, .int .i64 P, .slice ag0 Q0.length cg0, .slice ag1 Q1.length cg1] 56))
    replace W1 := Lib.hid (W1.out.alloc (.cells #[.int .i64 L, .int .i64 P, .slice ag0 Q0.length cg0, .slice ag1 Q1.length cg1] 56))
    replace X := Lib.hid (X.out.alloc (.cells #[.int .i64 L, .int .i64 P, .slice ag0 Q0.length cg0, .slice ag1 Q1.length cg1] 56))
    replace G0 := Lib.hid (G0.out.alloc (.cells #[.int .i64 L, .int .i64 P, .slice ag0 Q0.length cg0, .slice ag1 Q1.length cg1] 56))
    replace G1 := Lib.hid (G1.out.alloc (.cells #[.int .i64 L, .int .i64 P, .slice ag0 Q0.length cg0, .slice ag1 Q1.length cg1] 56))
    have Y := Lib.hid (Blk.new w3 #[.int .i64 L, .int .i64 P, .slice ag0 Q0.length cg0, .slice ag1 Q1.length cg1] 56)
    have z3' : w3.heap.size < (w3.alloc (.cells #[.int .i64 L, .int .i64 P, .slice ag0 Q0.length cg0, .slice ag1 Q1.length cg1] 56)).heap.size := by simp
    go_upto_region 5 with (fail)
    generalize w3.alloc (.cells #[.int .i64 L, .int .i64 P, .slice ag0 Q0.length cg0, .slice ag1 Q1.length cg1] 56) = w4 at Y z3' B W0 W1 X G0 G1 ⊢
    have y0 := Y.out.cell (i := 0) (v := .int .i64 L) rfl
    have y1 := Y.out.cell (i := 1) (v := .int .i64 P) rfl
    have y2 := Y.out.cell (i := 2) (v := .slice ag0 Q0.length cg0) rfl
    have y3 := Y.out.cell (i := 3) (v := .slice ag1 Q1.length cg1) rfl
    have x0 := X.out.cell (i := 0) (v := .int .i64 L) rfl
    have x1 := X.out.cell (i := 1) (v := .int .i64 P) rfl
    have x2 := X.out.cell (i := 2) (v := .slice aw0 Q0.length cw0) rfl
    have x3 := X.out.cell (i := 3) (v := .slice aw1 Q1.length cw1) rfl
    go_wp2_with fail
    refine (eqWindow_same G0.out.rd G1.out.rd W0.out.rd W1.out.rd).mono ?_
    rintro e w5 ⟨rfl, hb⟩
    have z5 := hb.size
    clear y0 y1 y2 y3
    clear x0 x1 x2 x3
    replace B := Lib.hid (B.out.trans (hb.mono B.out.size))
    replace W0 := Lib.hid (W0.out.below hb (Nat.le_refl _))
    replace W1 := Lib.hid (W1.out.below hb (Nat.le_refl _))
    replace X := Lib.hid (X.out.below hb (Nat.le_refl _))
    replace G0 := Lib.hid (G0.out.below hb (Nat.le_refl _))
    replace G1 := Lib.hid (G1.out.below hb (Nat.le_refl _))
    replace Y := Lib.hid (Y.out.below hb (Nat.le_refl _))
    clear hb
    have y0 := Y.out.cell (i := 0) (v := .int .i64 L) rfl
    have y1 := Y.out.cell (i := 1) (v := .int .i64 P) rfl
    have y2 := Y.out.cell (i := 2) (v := .slice ag0 Q0.length cg0) rfl
    have y3 := Y.out.cell (i := 3) (v := .slice ag1 Q1.length cg1) rfl
    go_wp2_with fail
    refine (markWindow_any (k0 := 1) G0.out G1.out SG.out (hi := w3.heap.size) (fun p hp => (LG0.out p hp).2) (fun p hp => (LG1.out p hp).2) (by omega)).mono ?_
    rintro e w6 ⟨rfl, m0, m1, ht⟩
    have z6 := ht.size
    clear y0 y1 y2 y3
    replace B := Lib.hid (B.out.trans (ht.below (by have := B.out.size; omega) B.out.size))
    replace W0 := Lib.hid (W0.out.turned ht (fun p hp => .inl (by have := (LW0.out p hp).2; omega)))
    replace W1 := Lib.hid (W1.out.turned ht (fun p hp => .inl (by have := (LW1.out p hp).2; omega)))
    replace X := Lib.hid (X.out.turned ht (.inl (by omega)))
    clear G0
    clear G1
    replace Y := Lib.hid (Y.out.turned ht (.inr (Nat.le_refl _)))
    have M0 := Lib.hid m0.rd
    have M1 := Lib.hid m1.rd
    clear ht m0 m1
    have y0 := Y.out.cell (i := 0) (v := .int .i64 L) rfl
    have y1 := Y.out.cell (i := 1) (v := .int .i64 P) rfl
    have y2 := Y.out.cell (i := 2) (v := .slice ag0 Q0.length cg0) rfl
    have y3 := Y.out.cell (i := 3) (v := .slice ag1 Q1.length cg1) rfl
    go_wp2_with fail
    refine (heldWindow_any (k0 := 1) M0.out M1.out (by omega)).mono ?_
    rintro e w7 ⟨rfl, hb⟩
    have z7 := hb.size
    clear y0 y1 y2 y3
    replace B := Lib.hid (B.out.trans (hb.mono B.out.size))
    replace W0 := Lib.hid (W0.out.below hb (Nat.le_refl _))
    replace W1 := Lib.hid (W1.out.below hb (Nat.le_refl _))
    replace X := Lib.hid (X.out.below hb (Nat.le_refl _))
    replace Y := Lib.hid (Y.out.below hb (Nat.le_refl _))
    replace M0 := Lib.hid (M0.out.below hb (Nat.le_refl _))
    replace M1 := Lib.hid (M1.out.below hb (Nat.le_refl _))
    clear hb
    go_wp2_with fail
    refine (HIM.out _ (HV.out _ B.out)).mono ?_
    rintro e w8 ⟨ah0, ch0, ah1, ch1, rfl, o0, o1, hsp, hb⟩
    have z8 := hb.size
    replace B := Lib.hid (B.out.trans (hb.mono B.out.size))
    replace W0 := Lib.hid (W0.out.below hb (Nat.le_refl _))
    replace W1 := Lib.hid (W1.out.below hb (Nat.le_refl _))
    replace X := Lib.hid (X.out.below hb (Nat.le_refl _))
    replace Y := Lib.hid (Y.out.below hb (Nat.le_refl _))
    replace M0 := Lib.hid (M0.out.below hb (Nat.le_refl _))
    replace M1 := Lib.hid (M1.out.below hb (Nat.le_refl _))
    clear hb
    have LH0 := Lib.hid o0.blk
    have H0 := Lib.hid o0.rd
    have LH1 := Lib.hid o1.blk
    have H1 := Lib.hid o1.rd
    have SH := Lib.hid hsp
    clear o0 o1 hsp
    have hba : Below w8.heap.size w8 (w8.alloc (.cells #[.int .i64 L, .int .i64 P, .slice ah0 Q0.length ch0, .slice ah1 Q1.length ch1] 56)) := (Below.refl _ _).alloc (Nat.le_refl _) _
    replace B := Lib.hid (B.out.trans (hba.mono B.out.size))
    replace W0 := Lib.hid (W0.out.below hba (Nat.le_refl _))
    replace W1 := Lib.hid (W1.out.below hba (Nat.le_refl _))
    replace X := Lib.hid (X.out.below hba (Nat.le_refl _))
    replace Y := Lib.hid (Y.out.below hba (Nat.le_refl _))
    replace M0 := Lib.hid (M0.out.below hba (Nat.le_refl _))
    replace M1 := Lib.hid (M1.out.below hba (Nat.le_refl _))
    replace H0 := Lib.hid (H0.out.below hba (Nat.le_refl _))
    replace H1 := Lib.hid (H1.out.below hba (Nat.le_refl _))
    clear hba
    have Z' := Lib.hid (Blk.new w8 #[.int .i64 L, .int .i64 P, .slice ah0 Q0.length ch0, .slice ah1 Q1.length ch1] 56)
    go_upto_region 16 with (fail)
    generalize w8.alloc (.cells #[.int .i64 L, .int .i64 P, .slice ah0 Q0.length ch0, .slice ah1 Q1.length ch1] 56) = w9 at Z' B W0 W1 X Y M0 M1 H0 H1 ⊢
    have h0 := Z'.out.cell (i := 0) (v := .int .i64 L) rfl
    have h1 := Z'.out.cell (i := 1) (v := .int .i64 P) rfl
    have h2 := Z'.out.cell (i := 2) (v := .slice ah0 Q0.length ch0) rfl
    have h3 := Z'.out.cell (i := 3) (v := .slice ah1 Q1.length ch1) rfl
    have x0 := X.out.cell (i := 0) (v := .int .i64 L) rfl
    have x1 := X.out.cell (i := 1) (v := .int .i64 P) rfl
    have x2 := X.out.cell (i := 2) (v := .slice aw0 Q0.length cw0) rfl
    have x3 := X.out.cell (i := 3) (v := .slice aw1 Q1.length cw1) rfl
    go_wp2_with fail
    refine (eqWindow_same H0.out H1.out W0.out.rd W1.out.rd).mono ?_
    rintro e w10 ⟨rfl, hb⟩
    clear h0 h1 h2 h3
    clear x0 x1 x2 x3
    replace B := Lib.hid (B.out.trans (hb.mono B.out.size))
    clear W0
    clear W1
    clear X
    replace Y := Lib.hid (Y.out.below hb (Nat.le_refl _))
    replace M0 := Lib.hid (M0.out.below hb (Nat.le_refl _))
    replace M1 := Lib.hid (M1.out.below hb (Nat.le_refl _))
    clear H0
    clear H1
    clear Z'
    clear hb
    have y0 := Y.out.cell (i := 0) (v := .int .i64 L) rfl
    have y1 := Y.out.cell (i := 1) (v := .int .i64 P) rfl
    have y2 := Y.out.cell (i := 2) (v := .slice ag0 Q0.length cg0) rfl
    have y3 := Y.out.cell (i := 3) (v := .slice ag1 Q1.length cg1) rfl
    go_wp2_with fail
    refine (heldWindow_any (k0 := 1) M0.out M1.out (by omega)).mono ?_
    rintro e w11 ⟨rfl, hb⟩
    have BB := Lib.hid (B.out.trans (hb.mono B.out.size))
    clear hb
    clear y0 y1 y2 y3
    go_wp2
    go_ret
    exact ⟨rfl, BB.out⟩
  · have hd : decide ((1048576 : Int) < (s.size : Int)) = true := decide_eq_true (by omega)
    clear hV
    go_enter Tryd.func11, Tryd.ntmps11
    go_wp2
    go_ret
    exact ⟨rfl, Below.refl _ _⟩

end Go.Proofs.YtockifchghllhaaDoor
