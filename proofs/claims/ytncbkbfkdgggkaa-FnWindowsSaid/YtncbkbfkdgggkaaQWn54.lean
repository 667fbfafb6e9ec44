/- The walk of the law FnWindows. -/
import Derived.Test.YtncbkbfkdgggkaaQWn44
import Derived.Test.YtncbkbfkdgggkaaQWn42
import Derived.Test.YtncbkbfkdgggkaaQWn46
import Derived.Test.YtncbkbfkdgggkaaQWn40
import Derived.Test.YtncbkbfkdgggkaaQWn53
import Derived.Test.YtncbkbfkdgggkaaQWn33
import Derived.Test.YtncbkbfkdgggkaaQWn1
import Derived.StillTailTactics
import Derived.Deep.Cut
import Derived.Deep.DeepCutAuto
import Derived.Deep.CutBlock
import Derived.Deep.RegionLaw
namespace Go.Proofs.Ytncbkbfkdgggkaa
open Go.RowKit
attribute [local go_sem ↓] Go.wp_at_zero Go.wp_at_succ

theorem belRun {w wd wj : World} (hC : Below w.heap.size w wd) (hb : Below wd.heap.size wd wj) : Below w.heap.size w wj := hC.trans (hb.mono hC.size)
theorem ratio_bd {E tl P : Int} (h0 : 0 ≤ E) (h1 : E ≤ 128) (h2 : -2 ≤ tl) (h3 : tl ≤ 128) (h4 : 1 ≤ P) (h5 : P ≤ 6) : -3000 ≤ (E - tl) * 2 * P ∧ (E - tl) * 2 * P ≤ 3000 ∧ -3000 ≤ (tl - E) * 2 * P ∧ (tl - E) * 2 * P ≤ 3000 := by
  rcases (show P = 1 ∨ P = 2 ∨ P = 3 ∨ P = 4 ∨ P = 5 ∨ P = 6 by omega) with rfl | rfl | rfl | rfl | rfl | rfl <;> omega
set_option maxRecDepth 20000 in
set_option maxHeartbeats 8000000 in
theorem lawWindows_walk {a1 a2 : Option Addr} {c1 c2 : Nat} {xs ys : List Int} {w : World} (hr : Rd (Value.int .u8) w a1 c1 xs) (hb : ∀ x ∈ xs, 0 ≤ x ∧ x < 256) (hr2 : Rd (Value.int .u8) w a2 c2 ys) (hb2 : ∀ x ∈ ys, 0 ≤ x ∧ x < 256) :
    Calls Try.prog 3 #[.slice a1 xs.length c1, .slice a2 ys.length c2] w fun e w' => e = .returned (.bool true) ∧ Below w.heap.size w w' := by
  have hl1 := hr.len
  have hl2 := hr2.len
  have HR1 := Lib.hid (And.intro hr hb)
  have HR2 := Lib.hid (And.intro hr2 hb2)
  clear hr hb hr2 hb2
  cases hlong : (decide (48 < xs.length) || decide (48 < ys.length)) with
  | true =>
    go_enter Try.func3, Try.ntmps3
    go_wp2_with fail
    refine (r8Long_any hl1 hl2).mono ?_
    rintro e w1 ⟨rfl, rfl⟩
    rw [hlong]
    go_wp2
    go_ret
    exact ⟨rfl, Below.refl _ _⟩
  | false =>
  go_enter Try.func3, Try.ntmps3
  go_wp2_with fail
  refine (r8Long_any hl1 hl2).mono ?_
  rintro e w1 ⟨rfl, rfl⟩
  rw [hlong]
  clear hlong
  go_wp2_with fail
  refine (r8At_any (i := 40) (n := 30) HR2.out.1 HR2.out.2 (by omega) (by omega) (by omega)).mono ?_
  rintro e w1 ⟨⟨v1, rfl, hv1⟩, rfl⟩
  obtain ⟨n, hn⟩ : ∃ n, 1 + v1 = n := ⟨_, rfl⟩
  have en : (1 : Int) + (v1 : Int) = (n : Int) := by omega
  have enw : IntKind.i64.wrap (n : Int) = (n : Int) := IntWalk.i64_in _ (by omega)
  go_upto_region 4 with (fail)
  clear en enw
  go_wp2_with fail
  refine (r8Times_any HR1.out.1 HR1.out.2 (by omega)).mono ?_
  rintro e w1 ⟨at_, ct, tm, rfl, hl, hsb, ho, hb1⟩
  subst hl
  have hn1 : 1 ≤ tm.length := by omega
  have hn2 : tm.length ≤ 30 := by omega
  have HTM := Lib.hid hsb
  have HT1 := Lib.hid ho.rd
  have HBW1 := Lib.hid hb1
  have HC1 := Lib.hid (And.intro (HR1.out.1.below hb1 (Nat.le_refl _)) HR1.out.2)
  have HM1 := Lib.hid (And.intro (HR2.out.1.below hb1 (Nat.le_refl _)) HR2.out.2)
  clear hsb ho hb1 HR1 HR2 hn hv1
  go_wp2_with fail
  refine (r8At_any (i := 41) (n := 60) HM1.out.1 HM1.out.2 (by omega) (by omega) (by omega)).mono ?_
  rintro e w2 ⟨⟨v2, rfl, hv2⟩, rfl⟩
  obtain ⟨L, hL⟩ : ∃ L : Int, 1 + (v2 : Int) = L := ⟨_, rfl⟩
  have enw : IntKind.i64.wrap L = L := IntWalk.i64_in _ (by omega)
  have hL1 : 1 ≤ L ∧ L ≤ 60 := by omega
  go_upto_region 6 with (fail)
  clear enw hL hv2
  go_wp2_with fail
  refine (r8At_any (i := 42) (n := 6) HM1.out.1 HM1.out.2 (by omega) (by omega) (by omega)).mono ?_
  rintro e w2 ⟨⟨v2, rfl, hv2⟩, rfl⟩
  obtain ⟨P, hP⟩ : ∃ P : Int, 1 + (v2 : Int) = P := ⟨_, rfl⟩
  have enw : IntKind.i64.wrap P = P := IntWalk.i64_in _ (by omega)
  have hP1 : 1 ≤ P ∧ P ≤ 16 := by omega
  have hP6 : P ≤ 6 := by omega
  go_upto_region 7 with (fail)
  clear enw hP hv2
  go_wp2_with fail
  refine (newWindow_any ⟨hL1.1, by omega⟩ hP1).mono ?_
  rintro e w2 ⟨rfl, hb2⟩
  have HT2 := Lib.hid (HT1.out.below hb2 (Nat.le_refl _))
  have HBW2 := Lib.hid (HBW1.out.trans (hb2.mono HBW1.out.size))
  have HC2 := Lib.hid (And.intro (HC1.out.1.below hb2 (Nat.le_refl _)) HC1.out.2)
  have HM2 := Lib.hid (And.intro (HM1.out.1.below hb2 (Nat.le_refl _)) HM1.out.2)
  clear hb2 HT1 HBW1 HC1 HM1
  have BA : Below w2.heap.size w2 ((w2.alloc (.cells #[.int .i64 L, .int .i64 P, .slice none 0 0, .slice none 0 0] 28)).alloc (.cells #[] 4)) := ((Below.refl _ _).alloc (Nat.le_refl _) _).alloc (by simp) _
  have HB9 := Lib.hid BA
  have HI9 : Hid (Blk ((w2.alloc (.cells #[.int .i64 L, .int .i64 P, .slice none 0 0, .slice none 0 0] 28)).alloc (.cells #[] 4)) w2.heap.size #[.int .i64 L, .int .i64 P, .slice none 0 0, .slice none 0 0] 28) := Lib.hid ((Blk.new _ _ _).alloc _)
  have hz9 : (w2.alloc (.cells #[.int .i64 L, .int .i64 P, .slice none 0 0, .slice none 0 0] 28)).heap.size = w2.heap.size + 1 := Array.size_push _
  have he9 := own_empty (f := Value.bool) (e := 4) (α := Bool) (w2.alloc (.cells #[.int .i64 L, .int .i64 P, .slice none 0 0, .slice none 0 0] 28)) (by_ := 0) (w2.heap.size + 1) (by simp) rfl
  rw [hz9] at he9
  have HE9 := Lib.hid he9
  clear hz9 he9
  clear BA
  have HLP := Lib.hid (And.intro (show 1 ≤ L ∧ L ≤ 1000000 by omega) hP1)
  go_upto_region 9 with (fail)
  generalize ((w2.alloc (.cells #[.int .i64 L, .int .i64 P, .slice none 0 0, .slice none 0 0] 28)).alloc (.cells #[] 4)) = w3 at HB9 HI9 HE9 ⊢
  go_wp2_with fail
  go_loopw [11, 12] (fun o i wr => ∃ (k : Nat) (b : Option Addr) (cc : Nat) (bs : List Bool) (p : Option Addr) (c : Nat) (ts : List Int) (q : Option Addr) (d : Nat) (ss : List Int), k ≤ tm.length ∧ i = .int .i64 k ∧ o = .slice b k cc ∧ Hid (Own Value.bool 4 wr (w2.heap.size + 1) b cc bs) ∧ Hid (Blk wr w2.heap.size #[.int .i64 L, .int .i64 P, .slice p ts.length c, .slice q ss.length d] 28) ∧ Hid (Own (Value.int .i64) 2 wr (w2.heap.size + 1) p c ts) ∧ Hid (Own (Value.int .i64) 2 wr (w2.heap.size + 1) q d ss) ∧ Hid (WinK L P tm bs k ts ss) ∧ Hid (Below w2.heap.size w2 wr)) (fun _ i _ => tm.length - (intOf i).toNat)
  case atStart => exact ⟨0, _, _, [], none, 0, [], none, 0, [], Nat.zero_le _, rfl, rfl, HE9, HI9, Lib.hid (own_nil _ _ _ _), Lib.hid (own_nil _ _ _ _), Lib.hid (winK_start HLP.out.1 HLP.out.2), HB9⟩
  case round =>
    clear HE9 HI9 HB9
    obtain ⟨k, b, cc, bs, p, c, ts, q, d, ss, hk, rfl, rfl, HO, HI, HTS, HSS, HK, HB⟩ := hrel
    by_cases hlt : k < tm.length
    ·
      have hlz : (k : Int) < (tm.length : Int) := by omega
      have HM := Lib.hid (And.intro (HM2.out.1.below HB.out (Nat.le_refl _)) HM2.out.2)
      go_wp2_with fail
      refine (r8At_any (i := k) (n := 3) HM.out.1 HM.out.2 (by omega) (by omega) (by omega)).mono ?_
      rintro e w4 ⟨⟨v, rfl, hv⟩, rfl⟩
      go_upto_region 13 with (fail)
      obtain ⟨bit, hbit⟩ : ∃ bit, decide (0 < v) = bit := ⟨_, rfl⟩
      rw [hbit]
      clear hbit hv
      obtain ⟨⟨QT, QS⟩, E, lo, hi, tl, R⟩ := winR_of HK.out bit HLP.out.1 HLP.out.2 HTM.out.1 HTM.out.2 hn2 hlt
      have HR := Lib.hid R
      have hbl := HK.out.n
      have htb := tms_bd HTM.out.2 hn2 hlt
      obtain ⟨t, ht⟩ : ∃ t, at0 tm k = t := ⟨_, rfl⟩
      rw [ht] at htb
      have HTK := Lib.hid ht
      clear R HK HM ht
      subst hbl
      have hz2 : w2.heap.size + 1 ≤ wr.heap.size := HI.out.lt
      go_upto_region 14 with (at_builtin; refine wpl_append1 (f := Value.bool) (d := false) (base := w2.heap.size + 1) und_bse info_b (fun _ => rfl) bit HO.out rfl _ _ rfl rfl rfl (by omega) (by omega) hz2 ?_; intro a4 c4 w4 ho4 hg4)
      have hb0 : ∀ g, b = some g → w2.heap.size + 1 ≤ g.block := fun g hg => (HO.out.blk g hg).1
      have HI4 := Lib.hid (HI.out.grown hg4 (by
        intro e
        cases b with
        | none => simp at e
        | some g => have := hb0 g rfl; simp only [Option.map_some, Option.some.injEq] at e; omega))
      have HTS4 := Lib.hid (HTS.out.keptS hg4 (sep_of_type HTS.out HO.out (by decide)))
      have HSS4 := Lib.hid (HSS.out.keptS hg4 (sep_of_type HSS.out HO.out (by decide)))
      have HB4 := Lib.hid (HB.out.trans (grown_belowOwn HO.out hg4 (by omega) (by omega)))
      have HO4 := Lib.hid ho4
      clear hb0 hg4 ho4 HI HTS HSS HB HO hz2
      have hlate : lateB L P ts ss t = true := by rw [← HTK.out]; exact HR.out.late
      have hput : putP L P ts ss t bit = (QT, QS) := by rw [← HTK.out]; exact HR.out.put
      have HPUT : Hid (∀ w', Below w4.heap.size w4 w' → Calls Try.prog 8 #[winV L P p ts.length c q ss.length d, .int .i64 t, .bool bit] w' (RetWinX w' L P QT QS true)) := Lib.hid (fun w' h' => (implPut_yes (HTS4.out.rd.below h' (Nat.le_refl _)) (HSS4.out.rd.below h' (Nat.le_refl _)) hlate (QT, QS) (Lib.hid hput) true (Lib.hid HR.out.win)).mono (fun _ _ h => h))
      have HT4 := Lib.hid (HT2.out.below HB4.out (Nat.le_refl _))
      have hix := fun w' : World => HT4.out.idx und_is siz_is w' bs.length hlt
      have hcx := at0_cell HT4.out hlt HTK.out
      have z0 := HI4.out.cell (i := 0) (v := .int .i64 L) rfl
      have z1 := HI4.out.cell (i := 1) (v := .int .i64 P) rfl
      have z2 := HI4.out.cell (i := 2) (v := .slice p ts.length c) rfl
      have z3 := HI4.out.cell (i := 3) (v := .slice q ss.length d) rfl
      have lz : w2.heap.size < w4.heap.size := HI4.out.lt
      have lc := World.block_lt_of_cell? _ _ hcx
      have C : Hid (Below w4.heap.size w4 w4.drew) := Lib.hid (below_of_drewN w4 1 _)
      clear hlate hput
      go_cut [14, 15] (fun pp bb wz => ∃ (g : Nat) (p : Option Addr) (c : Nat) (q : Option Addr) (d : Nat), pp = .pointer (some ⟨g, 0, none⟩) ∧ bb = .bool true ∧ Hid (Blk wz g #[.int .i64 L, .int .i64 P, .slice p QT.length c, .slice q QS.length d] 28) ∧ Hid (Own (Value.int .i64) 2 wz w4.heap.size p c QT) ∧ Hid (Own (Value.int .i64) 2 wz w4.heap.size q d QS) ∧ Hid (Below w4.heap.size w4 wz))
      case first =>
        go_region_held3 (fun w' => w'.cell? ⟨w2.heap.size, 0, none⟩ = some (.int .i64 L) ∧ w'.cell? ⟨w2.heap.size, 1, none⟩ = some (.int .i64 P) ∧ w'.cell? ⟨w2.heap.size, 2, none⟩ = some (.slice p ts.length c) ∧ w'.cell? ⟨w2.heap.size, 3, none⟩ = some (.slice q ss.length d) ∧ w'.cell? (elt at_ bs.length) = some (.int .i64 t)) ((refine ⟨?_, ?_, ?_, ?_, ?_⟩ <;> (repeat (first | with_reducible assumption | with_reducible refine k_drew ?_ | with_reducible refine k_alloc ?_ | with_reducible refine k_set (by first | omega | (dsimp only; omega)) ?_)))) ((go_at_call 8; refine (HPUT.out _ (by first | with_reducible exact C.out | exact C.out.alloc (Nat.le_refl _) _)).mono ?_; rintro e wj ⟨pj, cj, qj, dj, rfl, oj1, oj2, _, hbj⟩; have hbk : Below w4.heap.size w4 wj := (by first | with_reducible exact belRun C.out hbj | exact belRun (C.out.alloc (Nat.le_refl _) _) hbj); have lj := hbk.size; have k0 := k_at hbk z0; have k1 := k_at hbk z1; have k2 := k_at hbk z2; have k3 := k_at hbk z3; have k4 := k_at hbk hcx; (first | (have Z : Hid (Blk wj w4.heap.size #[.int .i64 0, .int .i64 0, .slice none 0 0, .slice none 0 0] 28) := Lib.hid (Blk.newBelow (w := w4.drew) hbj (Nat.le_refl _)); have y0 := Z.out.cell (i := 0) (v := .int .i64 0) rfl; have y1 := Z.out.cell (i := 1) (v := .int .i64 0) rfl; have y2 := Z.out.cell (i := 2) (v := .slice none 0 0) rfl; have y3 := Z.out.cell (i := 3) (v := .slice none 0 0) rfl; have f0 := Z.out.free 0; have f1 := Z.out.free 1; have f2 := Z.out.free 2; have f3 := Z.out.free 3) | (have hZ := True.intro))))
        all_goals
          as_aux_lemma =>
            go_wp2_with fail
            go_meet
            first
            | exact ⟨_, pj, cj, qj, dj, rfl, rfl, Lib.hid ((((Z.out.set 0 _).set 1 _).set 2 _).set 3 _), Lib.hid (((((oj1.setFar _ _ (by simp)).setFar _ _ (by simp)).setFar _ _ (by simp)).setFar _ _ (by simp)).mono (by simp)), Lib.hid (((((oj2.setFar _ _ (by simp)).setFar _ _ (by simp)).setFar _ _ (by simp)).setFar _ _ (by simp)).mono (by simp)), Lib.hid ((((((C.out.alloc (Nat.le_refl _) _).trans (hbj.mono (by simp))).setCell (Nat.le_refl _) _).setCell (Nat.le_refl _) _).setCell (Nat.le_refl _) _).setCell (Nat.le_refl _) _)⟩
            | exact ⟨_, pj, cj, qj, dj, rfl, rfl, Lib.hid (Blk.new _ _ _), Lib.hid ((oj1.alloc _).mono (Nat.le_refl _)), Lib.hid ((oj2.alloc _).mono (Nat.le_refl _)), Lib.hid ((C.out.trans hbj).alloc hbj.size _)⟩
      case rest =>
        as_aux_lemma =>
          obtain ⟨g, p5, c5, q5, d5, rfl, rfl, HG, HQ1, HQ2, HBC⟩ := hcut
          have HI5 := Lib.hid (HI4.out.below HBC.out (Nat.le_refl _))
          have HO5 := Lib.hid (HO4.out.below HBC.out (Nat.le_refl _))
          have HB5 := Lib.hid (HB4.out.trans (HBC.out.mono HB4.out.size))
          have hwin : winB L P QT QS = true := HR.out.win
          have g0 := HG.out.cell (i := 0) (v := .int .i64 L) rfl
          have g1 := HG.out.cell (i := 1) (v := .int .i64 P) rfl
          have g2 := HG.out.cell (i := 2) (v := .slice p5 QT.length c5) rfl
          have g3 := HG.out.cell (i := 3) (v := .slice q5 QS.length d5) rfl
          clear HPUT hix hcx z0 z1 z2 z3 lc C HTS4 HSS4 HI4 HO4 HB4 HT4 HBC
          go_wp2_with fail
          refine (validWindow_any HQ1.out.rd HQ2.out.rd).mono ?_
          rintro e w5 ⟨rfl, hb5⟩
          rw [hwin]
          replace HG := Lib.hid (HG.out.below hb5 (Nat.le_refl _))
          replace HI5 := Lib.hid (HI5.out.below hb5 (Nat.le_refl _))
          replace HO5 := Lib.hid (HO5.out.below hb5 (Nat.le_refl _))
          replace HQ1 := Lib.hid (HQ1.out.below hb5 (Nat.le_refl _))
          replace HQ2 := Lib.hid (HQ2.out.below hb5 (Nat.le_refl _))
          replace HB5 := Lib.hid (HB5.out.trans (hb5.mono HB5.out.size))
          clear g0 g1 g2 g3 hb5
          have g0 := HG.out.cell (i := 0) (v := .int .i64 L) rfl
          have g1 := HG.out.cell (i := 1) (v := .int .i64 P) rfl
          have g2 := HG.out.cell (i := 2) (v := .slice p5 QT.length c5) rfl
          have g3 := HG.out.cell (i := 3) (v := .slice q5 QS.length d5) rfl
          have z0 := HI5.out.cell (i := 0) (v := .int .i64 L) rfl
          have z1 := HI5.out.cell (i := 1) (v := .int .i64 P) rfl
          have z2 := HI5.out.cell (i := 2) (v := .slice p ts.length c) rfl
          have z3 := HI5.out.cell (i := 3) (v := .slice q ss.length d) rfl
          have f0 := HI5.out.free 0
          have f1 := HI5.out.free 1
          have f2 := HI5.out.free 2
          have f3 := HI5.out.free 3
          go_upto_region 18 with (fail)
          have HI6 := Lib.hid ((((HI5.out.set 0 (.int .i64 L)).set 1 (.int .i64 P)).set 2 (.slice p5 QT.length c5)).set 3 (.slice q5 QS.length d5))
          have HO6 := Lib.hid ((((HO5.out.setFar ⟨w2.heap.size, 0, none⟩ (.int .i64 L) (by simp)).setFar ⟨w2.heap.size, 1, none⟩ (.int .i64 P) (by simp)).setFar ⟨w2.heap.size, 2, none⟩ (.slice p5 QT.length c5) (by simp)).setFar ⟨w2.heap.size, 3, none⟩ (.slice q5 QS.length d5) (by simp))
          have HQ1 := Lib.hid (((((HQ1.out.setFar ⟨w2.heap.size, 0, none⟩ (.int .i64 L) lz).setFar ⟨w2.heap.size, 1, none⟩ (.int .i64 P) lz).setFar ⟨w2.heap.size, 2, none⟩ (.slice p5 QT.length c5) lz).setFar ⟨w2.heap.size, 3, none⟩ (.slice q5 QS.length d5) lz).mono (b' := w2.heap.size + 1) (by omega))
          have HQ2 := Lib.hid (((((HQ2.out.setFar ⟨w2.heap.size, 0, none⟩ (.int .i64 L) lz).setFar ⟨w2.heap.size, 1, none⟩ (.int .i64 P) lz).setFar ⟨w2.heap.size, 2, none⟩ (.slice p5 QT.length c5) lz).setFar ⟨w2.heap.size, 3, none⟩ (.slice q5 QS.length d5) lz).mono (b' := w2.heap.size + 1) (by omega))
          have HB6 : Hid (Below w2.heap.size w2 ((((w5.setCell ⟨w2.heap.size, 0, none⟩ (.int .i64 L)).setCell ⟨w2.heap.size, 1, none⟩ (.int .i64 P)).setCell ⟨w2.heap.size, 2, none⟩ (.slice p5 QT.length c5)).setCell ⟨w2.heap.size, 3, none⟩ (.slice q5 QS.length d5))) := Lib.hid ((((HB5.out.setCell (Nat.le_refl _) _).setCell (Nat.le_refl _) _).setCell (Nat.le_refl _) _).setCell (Nat.le_refl _) _)
          clear g0 g1 g2 g3 z0 z1 z2 z3 f0 f1 f2 f3 HI5 HO5 HB5 HG hwin
          generalize ((((w5.setCell ⟨w2.heap.size, 0, none⟩ (.int .i64 L)).setCell ⟨w2.heap.size, 1, none⟩ (.int .i64 P)).setCell ⟨w2.heap.size, 2, none⟩ (.slice p5 QT.length c5)).setCell ⟨w2.heap.size, 3, none⟩ (.slice q5 QS.length d5)) = w6 at HI6 HO6 HQ1 HQ2 HB6 ⊢
          replace HI6 : Hid (Blk w6 w2.heap.size #[.int .i64 L, .int .i64 P, .slice p5 QT.length c5, .slice q5 QS.length d5] 28) := HI6
          have ewk : IntKind.i64.wrap ((bs.length : Int) + 1) = (bs.length : Int) + 1 := IntWalk.i64_in _ (by omega)
          have ec : ((bs.length + 1 : Nat) : Int) = (bs.length : Int) + 1 := by omega
          have hF : lateB L P QT QS t = true ∧ winR lowV L P QT QS t = lo ∧ winR highV L P QT QS t = hi ∧ winR countV L P QT QS t = tl ∧ cexN (tm.take (bs.length + 1)) (bs ++ [bit]) (t - L) t (bs.length + 1) = E := by
            rw [← HTK.out]; exact ⟨HR.out.late2, HR.out.low, HR.out.high, HR.out.cnt, HR.out.ex⟩
          have HF := Lib.hid hF
          clear hF
          -- region 18
          have HT6 := Lib.hid (HT2.out.below HB6.out (Nat.le_refl _))
          obtain ⟨ι, hne, G, hG, hS⟩ := calm_family w6
          have hix := fun w' : World => HT6.out.idx und_is siz_is w' bs.length hlt
          have hcx := fun i : ι => at0_cell (HT6.out.below (hG i) (Nat.le_refl _)) hlt HTK.out
          obtain ⟨a6, c6, hsl, hrsl⟩ := HT6.out.headRun2 und_is siz_is (hi := bs.length + 1) (by omega)
          rw [ec] at hsl
          have n1 : (0 : Int) ≤ (bs.length : Int) + 1 := by omega
          have HCEX : Hid (∀ i : ι, Calls Try.prog 10 #[.slice a6 (bs.length + 1) c6, .slice a4 (bs.length + 1) c4, .int .i64 t, .int .i64 L] (G i) fun e w' => e = .returned (.tuple #[.int .i64 (E : Int), .bool true]) ∧ Below (G i).heap.size (G i) w') := Lib.hid (fun i => by
            have h := implCex_any (t := t) (L := L) (hrsl _ (HT6.out.below (hG i) (Nat.le_refl _))) (HO6.out.below (hG i) (Nat.le_refl _)).rd (n := bs.length + 1) (by rw [List.length_take]; omega) (by simp) (by omega) (by omega) (tms_ok HTM.out.1 HTM.out.2 hn2 (by omega)) (by omega) (by omega)
            rw [HF.out.2.2.2.2] at h
            exact h)
          have HG := Lib.hid hG
          have HSU := Lib.hid hS
          clear hG hS hrsl
          refine wp_region_calm (G := G) (by kernel_rfl) (by kernel_rfl) HSU.out ?_
          repeat (go_big_quiet_step ((go_at_call 10; exact calm_call HG.out HSU.out (HCEX.out _))))
          refine wpQuiet_nil ?_
          intro _ hw'
          obtain ⟨gi, hw''⟩ := hw'
          subst hw''
          have hbc := HG.out gi
          replace HI6 := Lib.hid (HI6.out.below hbc (Nat.le_refl _))
          replace HO6 := Lib.hid (HO6.out.below hbc (Nat.le_refl _))
          replace HQ1 := Lib.hid (HQ1.out.below hbc (Nat.le_refl _))
          replace HQ2 := Lib.hid (HQ2.out.below hbc (Nat.le_refl _))
          replace HB6 := Lib.hid (HB6.out.trans (hbc.mono HB6.out.size))
          generalize G gi = w7 at HI6 HO6 HQ1 HQ2 HB6 ⊢
          clear hbc HG HSU HCEX hix hcx hsl n1 hne HT6 gi G ι
          go_upto_region 19 with (fail)
          -- region 19
          have HT6 := Lib.hid (HT2.out.below HB6.out (Nat.le_refl _))
          obtain ⟨ι, hne, G, hG, hS⟩ := calm_family w7
          have hix := fun w' : World => HT6.out.idx und_is siz_is w' bs.length hlt
          have hcx := fun i : ι => at0_cell (HT6.out.below (hG i) (Nat.le_refl _)) hlt HTK.out
          have z0 := fun i : ι => (HI6.out.below (hG i) (Nat.le_refl _)).cell (i := 0) (v := .int .i64 L) rfl
          have z1 := fun i : ι => (HI6.out.below (hG i) (Nat.le_refl _)).cell (i := 1) (v := .int .i64 P) rfl
          have z2 := fun i : ι => (HI6.out.below (hG i) (Nat.le_refl _)).cell (i := 2) (v := .slice p5 QT.length c5) rfl
          have z3 := fun i : ι => (HI6.out.below (hG i) (Nat.le_refl _)).cell (i := 3) (v := .slice q5 QS.length d5) rfl
          have HCN : Hid (∀ i : ι, Calls Try.prog 11 #[winV L P p5 QT.length c5 q5 QS.length d5, .int .i64 t] (G i) fun e w' => e = .returned (.tuple #[.int .i64 tl, .bool true]) ∧ Below (G i).heap.size (G i) w') := Lib.hid (fun i => by
            have h := implCount_any (L := L) (P := P) (t := t) (HQ1.out.below (hG i) (Nat.le_refl _)).rd (HQ2.out.below (hG i) (Nat.le_refl _)).rd
            rw [HF.out.1, HF.out.2.2.2.1] at h
            exact h)
          have HG := Lib.hid hG
          have HSU := Lib.hid hS
          clear hG hS
          refine wp_region_calm (G := G) (by kernel_rfl) (by kernel_rfl) HSU.out ?_
          repeat (go_big_quiet_step ((go_at_call 11; exact calm_call HG.out HSU.out (HCN.out _))))
          refine wpQuiet_nil ?_
          intro _ hw'
          obtain ⟨gi, hw''⟩ := hw'
          subst hw''
          have hbc := HG.out gi
          replace HI6 := Lib.hid (HI6.out.below hbc (Nat.le_refl _))
          replace HO6 := Lib.hid (HO6.out.below hbc (Nat.le_refl _))
          replace HQ1 := Lib.hid (HQ1.out.below hbc (Nat.le_refl _))
          replace HQ2 := Lib.hid (HQ2.out.below hbc (Nat.le_refl _))
          replace HB6 := Lib.hid (HB6.out.trans (hbc.mono HB6.out.size))
          generalize G gi = w8 at HI6 HO6 HQ1 HQ2 HB6 ⊢
          clear hbc HG HSU HCN hix hcx z0 z1 z2 z3 hne HT6 gi G ι
          go_upto_region 20 with (fail)
          -- region 20
          have HT6 := Lib.hid (HT2.out.below HB6.out (Nat.le_refl _))
          obtain ⟨ι, hne, G, hG, hS⟩ := calm_family w8
          have hix := fun w' : World => HT6.out.idx und_is siz_is w' bs.length hlt
          have hcx := fun i : ι => at0_cell (HT6.out.below (hG i) (Nat.le_refl _)) hlt HTK.out
          have z0 := fun i : ι => (HI6.out.below (hG i) (Nat.le_refl _)).cell (i := 0) (v := .int .i64 L) rfl
          have z1 := fun i : ι => (HI6.out.below (hG i) (Nat.le_refl _)).cell (i := 1) (v := .int .i64 P) rfl
          have z2 := fun i : ι => (HI6.out.below (hG i) (Nat.le_refl _)).cell (i := 2) (v := .slice p5 QT.length c5) rfl
          have z3 := fun i : ι => (HI6.out.below (hG i) (Nat.le_refl _)).cell (i := 3) (v := .slice q5 QS.length d5) rfl
          have HCN : Hid (∀ i : ι, Calls Try.prog 12 #[winV L P p5 QT.length c5 q5 QS.length d5, .int .i64 t] (G i) fun e w' => e = .returned (.tuple #[.int .i64 lo, .int .i64 hi, .bool true]) ∧ Below (G i).heap.size (G i) w') := Lib.hid (fun i => by
            have h := implBounds_any (L := L) (P := P) (t := t) (HQ1.out.below (hG i) (Nat.le_refl _)).rd (HQ2.out.below (hG i) (Nat.le_refl _)).rd
            rw [HF.out.1, HF.out.2.1, HF.out.2.2.1] at h
            exact h)
          have HG := Lib.hid hG
          have HSU := Lib.hid hS
          clear hG hS
          refine wp_region_calm (G := G) (by kernel_rfl) (by kernel_rfl) HSU.out ?_
          repeat (go_big_quiet_step ((go_at_call 12; exact calm_call HG.out HSU.out (HCN.out _))))
          refine wpQuiet_nil ?_
          intro _ hw'
          obtain ⟨gi, hw''⟩ := hw'
          subst hw''
          have hbc := HG.out gi
          replace HI6 := Lib.hid (HI6.out.below hbc (Nat.le_refl _))
          replace HO6 := Lib.hid (HO6.out.below hbc (Nat.le_refl _))
          replace HQ1 := Lib.hid (HQ1.out.below hbc (Nat.le_refl _))
          replace HQ2 := Lib.hid (HQ2.out.below hbc (Nat.le_refl _))
          replace HB6 := Lib.hid (HB6.out.trans (hbc.mono HB6.out.size))
          generalize G gi = w9 at HI6 HO6 HQ1 HQ2 HB6 ⊢
          clear hbc HG HSU HCN hix hcx z0 z1 z2 z3 hne HT6 gi G ι
          go_upto_region 21 with (fail)
          have hT := HR.out.told
          have e0 := hT.e0
          have e1 := hT.e1
          have hb := ratio_bd (E := (E : Int)) (tl := tl) (P := P) hT.e0 hT.e1 (by have := hT.t1; have := hT.b1; omega) (by have := hT.t2; have := hT.b2; omega) hP1.1 hP6
          have hlo : -1 ≤ lo ∧ lo ≤ 128 := ⟨hT.b1, by have := hT.d0; omega⟩
          have ht2 : -2 ≤ tl ∧ tl ≤ 128 := ⟨by have := hT.t1; have := hT.b1; omega, by have := hT.t2; have := hT.b2; omega⟩
          have h1 : ¬ (E : Int) < lo := by have := hT.d0; omega
          have h2 : ¬ hi < (E : Int) := by have := hT.d1; omega
          have w1' : IntKind.i64.wrap (lo - 1) = lo - 1 := IntWalk.i64_in _ (by omega)
          have h3 : ¬ tl < lo - 1 := by have := hT.t1; omega
          have h4 : ¬ hi < tl := by have := hT.t2; omega
          have w2' : IntKind.i64.wrap ((E : Int) - tl) = (E : Int) - tl := IntWalk.i64_in _ (by omega)
          have w3' : IntKind.i64.wrap (((E : Int) - tl) * 2) = ((E : Int) - tl) * 2 := IntWalk.i64_in _ (by omega)
          have w4' : IntKind.i64.wrap (((E : Int) - tl) * 2 * P) = ((E : Int) - tl) * 2 * P := IntWalk.i64_in _ (by omega)
          have w5' : IntKind.i64.wrap (2 * P) = 2 * P := IntWalk.i64_in _ (by omega)
          have w6' : IntKind.i64.wrap ((E : Int) + 2 * P) = (E : Int) + 2 * P := IntWalk.i64_in _ (by omega)
          have w7' : IntKind.i64.wrap (tl - (E : Int)) = tl - (E : Int) := IntWalk.i64_in _ (by omega)
          have w8' : IntKind.i64.wrap ((tl - (E : Int)) * 2) = (tl - (E : Int)) * 2 := IntWalk.i64_in _ (by omega)
          have w9' : IntKind.i64.wrap ((tl - (E : Int)) * 2 * P) = (tl - (E : Int)) * 2 * P := IntWalk.i64_in _ (by omega)
          have h5 : ¬ ((E : Int) + 2 * P < (tl - (E : Int)) * 2 * P) := by have := hT.r2; omega
          have hQK := Lib.hid HR.out.nxt
          by_cases hE : 0 < E
          · have hE1 : (0 : Int) < (E : Int) := by omega
            have h6 : ¬ ((E : Int) + 2 * P < ((E : Int) - tl) * 2 * P) := by have := hT.r1 hE1; omega
            clear hT hb hlo ht2 e0 e1
            go_wp2_with fail
            go_roundw
            case rel => exact ⟨bs.length + 1, a4, c4, bs ++ [bit], p5, c5, QT, q5, d5, QS, by omega, by go_num, rfl, HO6, HI6, HQ1, HQ2, hQK, HB6⟩
            case measure => simp [intOf]; omega
          · have hE1 : ¬ (0 : Int) < (E : Int) := by omega
            clear hT hb hlo ht2 e0 e1
            go_wp2_with fail
            go_roundw
            case rel => exact ⟨bs.length + 1, a4, c4, bs ++ [bit], p5, c5, QT, q5, d5, QS, by omega, by go_num, rfl, HO6, HI6, HQ1, HQ2, hQK, HB6⟩
            case measure => simp [intOf]; omega
    ·
      obtain rfl : k = tm.length := by omega
      have hlz : ¬ (tm.length : Int) < (tm.length : Int) := by omega
      obtain ⟨m, hm⟩ : ∃ m, tm.length = m + 1 := ⟨tm.length - 1, by omega⟩
      have hK := HK.out
      rw [hm] at hK
      have hWE := winE_of hK hL1 hP1 HTM.out.2 hn2 (show m < tm.length by omega)
      have htb := tms_bd HTM.out.2 hn2 (show m < tm.length by omega)
      obtain ⟨t, ht⟩ : ∃ t, at0 tm m = t := ⟨_, rfl⟩
      rw [ht] at hWE htb
      have HTK := Lib.hid ht
      have HWE := Lib.hid hWE
      have ewm : IntKind.i64.wrap ((tm.length : Int) - 1) = (m : Int) := by rw [IntWalk.i64_in _ (by omega)]; omega
      have ewt : IntKind.i64.wrap (t + L) = t + L := IntWalk.i64_in _ (by omega)
      have hmt : m < tm.length := by omega
      have HMT := Lib.hid hm
      clear hK hWE ht HK hm HO HLP
      obtain ⟨w4, rfl⟩ : ∃ z : World, z = wr := ⟨_, rfl⟩
      have HPUT : Hid (∀ w', Below w4.heap.size w4 w' → Calls Try.prog 8 #[winV L P p ts.length c q ss.length d, .int .i64 (t + L), .bool false] w' (RetWinX w' L P [] [] true)) := Lib.hid (fun w' h' => (implPut_yes (HTS.out.rd.below h' (Nat.le_refl _)) (HSS.out.rd.below h' (Nat.le_refl _)) HWE.out.late ([], []) (Lib.hid HWE.out.put) true (Lib.hid HWE.out.win)).mono (fun _ _ h => h))
      have HT4 := Lib.hid (HT2.out.below HB.out (Nat.le_refl _))
      have hix := fun w' : World => HT4.out.idx und_is siz_is w' m hmt
      have hcx := at0_cell HT4.out hmt HTK.out
      have z0 := HI.out.cell (i := 0) (v := .int .i64 L) rfl
      have z1 := HI.out.cell (i := 1) (v := .int .i64 P) rfl
      have z2 := HI.out.cell (i := 2) (v := .slice p ts.length c) rfl
      have z3 := HI.out.cell (i := 3) (v := .slice q ss.length d) rfl
      have lz : w2.heap.size < w4.heap.size := HI.out.lt
      have lc := World.block_lt_of_cell? _ _ hcx
      have C : Hid (Below w4.heap.size w4 w4.drew) := Lib.hid (below_of_drewN w4 1 _)
      have n1 : (0 : Int) ≤ (m : Int) := by omega
      have n2 : (m : Int) < (tm.length : Int) := by omega
      go_upto_region 25 with (fail)
      go_cut [23, 24] (fun pp bb wz => ∃ (g : Nat) (p : Option Addr) (c : Nat) (q : Option Addr) (d : Nat), pp = .pointer (some ⟨g, 0, none⟩) ∧ bb = .bool true ∧ Hid (Blk wz g #[.int .i64 L, .int .i64 P, .slice p 0 c, .slice q 0 d] 28) ∧ Hid (Own (Value.int .i64) 2 wz w4.heap.size p c ([] : List Int)) ∧ Hid (Own (Value.int .i64) 2 wz w4.heap.size q d ([] : List Int)) ∧ Hid (Below w4.heap.size w4 wz))
      case first =>
        go_region_held3 (fun w' => w'.cell? ⟨w2.heap.size, 0, none⟩ = some (.int .i64 L) ∧ w'.cell? ⟨w2.heap.size, 1, none⟩ = some (.int .i64 P) ∧ w'.cell? ⟨w2.heap.size, 2, none⟩ = some (.slice p ts.length c) ∧ w'.cell? ⟨w2.heap.size, 3, none⟩ = some (.slice q ss.length d) ∧ w'.cell? (elt at_ m) = some (.int .i64 t)) ((refine ⟨?_, ?_, ?_, ?_, ?_⟩ <;> (repeat (first | with_reducible assumption | with_reducible refine k_drew ?_ | with_reducible refine k_alloc ?_ | with_reducible refine k_set (by first | omega | (dsimp only; omega)) ?_)))) ((go_at_call 8; refine (HPUT.out _ (by first | with_reducible exact C.out | exact C.out.alloc (Nat.le_refl _) _)).mono ?_; rintro e wj ⟨pj, cj, qj, dj, rfl, oj1, oj2, _, hbj⟩; have hbk : Below w4.heap.size w4 wj := (by first | with_reducible exact belRun C.out hbj | exact belRun (C.out.alloc (Nat.le_refl _) _) hbj); have lj := hbk.size; have k0 := k_at hbk z0; have k1 := k_at hbk z1; have k2 := k_at hbk z2; have k3 := k_at hbk z3; have k4 := k_at hbk hcx; (first | (have Z : Hid (Blk wj w4.heap.size #[.int .i64 0, .int .i64 0, .slice none 0 0, .slice none 0 0] 28) := Lib.hid (Blk.newBelow (w := w4.drew) hbj (Nat.le_refl _)); have y0 := Z.out.cell (i := 0) (v := .int .i64 0) rfl; have y1 := Z.out.cell (i := 1) (v := .int .i64 0) rfl; have y2 := Z.out.cell (i := 2) (v := .slice none 0 0) rfl; have y3 := Z.out.cell (i := 3) (v := .slice none 0 0) rfl; have f0 := Z.out.free 0; have f1 := Z.out.free 1; have f2 := Z.out.free 2; have f3 := Z.out.free 3) | (have hZ := True.intro))))
        all_goals
          as_aux_lemma =>
            go_wp2_with fail
            go_meet
            first
            | exact ⟨_, pj, cj, qj, dj, rfl, rfl, Lib.hid ((((Z.out.set 0 _).set 1 _).set 2 _).set 3 _), Lib.hid (((((oj1.setFar _ _ (by simp)).setFar _ _ (by simp)).setFar _ _ (by simp)).setFar _ _ (by simp)).mono (by simp)), Lib.hid (((((oj2.setFar _ _ (by simp)).setFar _ _ (by simp)).setFar _ _ (by simp)).setFar _ _ (by simp)).mono (by simp)), Lib.hid ((((((C.out.alloc (Nat.le_refl _) _).trans (hbj.mono (by simp))).setCell (Nat.le_refl _) _).setCell (Nat.le_refl _) _).setCell (Nat.le_refl _) _).setCell (Nat.le_refl _) _)⟩
            | exact ⟨_, pj, cj, qj, dj, rfl, rfl, Lib.hid (Blk.new _ _ _), Lib.hid ((oj1.alloc _).mono (Nat.le_refl _)), Lib.hid ((oj2.alloc _).mono (Nat.le_refl _)), Lib.hid ((C.out.trans hbj).alloc hbj.size _)⟩
      case rest =>
        as_aux_lemma =>
          obtain ⟨g, p5, c5, q5, d5, rfl, rfl, HG, HQ1, HQ2, HBC⟩ := hcut
          have HB5 := Lib.hid (HB.out.trans (HBC.out.mono HB.out.size))
          clear HPUT hix hcx z0 z1 z2 z3 lc C HTS HSS HI HB HT4 HBC lz
          -- region 26
          have HT6 := Lib.hid (HT2.out.below HB5.out (Nat.le_refl _))
          obtain ⟨ι, hne, G, hG, hS⟩ := calm_family wc
          have hix := fun w' : World => HT6.out.idx und_is siz_is w' m hmt
          have hcx := fun i : ι => at0_cell (HT6.out.below (hG i) (Nat.le_refl _)) hmt HTK.out
          have z0 := fun i : ι => (HG.out.below (hG i) (Nat.le_refl _)).cell (i := 0) (v := .int .i64 L) rfl
          have z1 := fun i : ι => (HG.out.below (hG i) (Nat.le_refl _)).cell (i := 1) (v := .int .i64 P) rfl
          have z2 := fun i : ι => (HG.out.below (hG i) (Nat.le_refl _)).cell (i := 2) (v := .slice p5 0 c5) rfl
          have z3 := fun i : ι => (HG.out.below (hG i) (Nat.le_refl _)).cell (i := 3) (v := .slice q5 0 d5) rfl
          have HCN : Hid (∀ i : ι, Calls Try.prog 11 #[winV L P p5 0 c5 q5 0 d5, .int .i64 (t + L)] (G i) fun e w' => e = .returned (.tuple #[.int .i64 0, .bool true]) ∧ Below (G i).heap.size (G i) w') := Lib.hid (fun i => by
            have h := implCount_any (L := L) (P := P) (t := t + L) (HQ1.out.below (hG i) (Nat.le_refl _)).rd (HQ2.out.below (hG i) (Nat.le_refl _)).rd
            rw [HWE.out.late2, HWE.out.cnt] at h
            exact h)
          have HGG := Lib.hid hG
          have HSU := Lib.hid hS
          clear hG hS
          go_upto_region 26 with (fail)
          refine wp_region_calm (G := G) (by kernel_rfl) (by kernel_rfl) HSU.out ?_
          repeat (go_big_quiet_step ((go_at_call 11; exact calm_call HGG.out HSU.out (HCN.out _))))
          refine wpQuiet_nil ?_
          intro _ hw'
          obtain ⟨gi, hw''⟩ := hw'
          subst hw''
          have hbc := HGG.out gi
          replace HG := Lib.hid (HG.out.below hbc (Nat.le_refl _))
          replace HB5 := Lib.hid (HB5.out.trans (hbc.mono HB5.out.size))
          generalize G gi = w7 at HG HB5 ⊢
          clear hbc HGG HSU HCN hix hcx z0 z1 z2 z3 hne HT6 gi G ι HQ1 HQ2 HWE ewt
          have z2 := HG.out.cell (i := 2) (v := .slice p5 0 c5) rfl
          go_upto_region 29 with (fail)
          clear z2 HG
          have HM7 := Lib.hid (And.intro (HM2.out.1.below HB5.out (Nat.le_refl _)) HM2.out.2)
          go_wp2_with fail
          refine (r8At_any (i := 43) (n := 16) HM7.out.1 HM7.out.2 (by omega) (by omega) (by omega)).mono ?_
          rintro e w8 ⟨⟨v, rfl, hv⟩, rfl⟩
          have ew : IntKind.i64.wrap (1 + (v : Int)) = (v : Int) + 1 := by rw [IntWalk.i64_in _ (by omega)]; omega
          have hcv : ∀ w' : World, (convert 2 39 (.int .i64 ((v : Int) + 1))).run Try.prog w' = .ok (.float .f32 (floatOfInt .f32 ((v : Int) + 1))) w' := fun w' => run_convert_int_float w' _ _ _ _ _ (by kernel_rfl) und_f32k
          have ha := ar3w (halfF_ok hv) 39
          obtain ⟨H, hH⟩ : ∃ H, halfF v = H := ⟨_, rfl⟩
          rw [hH] at ha
          generalize floatOfInt .f32 ((v : Int) + 1) = fq at hcv ha
          have HH := Lib.hid hH
          have HV := Lib.hid hv
          clear hH hv
          have HT8 := Lib.hid (HT2.out.below HB5.out (Nat.le_refl _))
          obtain ⟨t0, ht0⟩ : ∃ t, at0 tm 0 = t := ⟨_, rfl⟩
          have hi0 : ∀ w' : World, (Instr.indexAt 25 (.slice at_ tm.length ct) (.int .i64 0)).run Try.prog w' = .ok (.pointer (some (elt at_ 0))) w' := fun w' => HT8.out.idx und_is siz_is w' 0 (by omega)
          have hc0 := at0_cell HT8.out (show 0 < tm.length by omega) ht0
          have HT0 := Lib.hid ht0
          clear ht0
          have hsf := @run_store_fl Try.prog
          go_upto_region 31 with (fail)
          clear hi0 hc0 hcv ha ew HT8 HM7
          have IA : Hid (Blk (w7.alloc (.cells #[.float .f32 H, .float .f32 0, .int .i64 t0] 41)) w7.heap.size #[.float .f32 H, .float .f32 0, .int .i64 t0] 41) := Lib.hid (Blk.new _ _ _)
          have BA := Lib.hid (HB5.out.alloc HB5.out.size (.cells #[.float .f32 H, .float .f32 0, .int .i64 t0] 41))
          have SA : (w7.alloc (.cells #[.float .f32 H, .float .f32 0, .int .i64 t0] 41)).heap.size = w7.heap.size + 1 := Array.size_push _
          have SB : w2.heap.size ≤ w7.heap.size := HB5.out.size
          clear HB5
          generalize w7.alloc (.cells #[.float .f32 H, .float .f32 0, .int .i64 t0] 41) = w8 at IA BA SA ⊢
          generalize w7.heap.size = gA at IA SA SB ⊢
          have a0 := IA.out.cell (i := 0) (v := .float .f32 H) rfl
          have a1 := IA.out.cell (i := 1) (v := .float .f32 0) rfl
          have a2 := IA.out.cell (i := 2) (v := .int .i64 t0) rfl
          go_upto_region 32 with (fail)
          clear a0 a1 a2
          have IB : Hid (Blk (w8.alloc (.cells #[.float .f32 H, .float .f32 0, .int .i64 t0] 41)) w8.heap.size #[.float .f32 H, .float .f32 0, .int .i64 t0] 41) := Lib.hid (Blk.new _ _ _)
          replace IA := Lib.hid (IA.out.alloc (.cells #[.float .f32 H, .float .f32 0, .int .i64 t0] 41))
          replace BA := Lib.hid (BA.out.alloc BA.out.size (.cells #[.float .f32 H, .float .f32 0, .int .i64 t0] 41))
          have SC : (w8.alloc (.cells #[.float .f32 H, .float .f32 0, .int .i64 t0] 41)).heap.size = w8.heap.size + 1 := Array.size_push _
          generalize w8.alloc (.cells #[.float .f32 H, .float .f32 0, .int .i64 t0] 41) = w9 at IA IB BA SC ⊢
          generalize w8.heap.size = gB at IB SA SC ⊢
          have a0 := IA.out.cell (i := 0) (v := .float .f32 H) rfl
          have a1 := IA.out.cell (i := 1) (v := .float .f32 0) rfl
          have a2 := IA.out.cell (i := 2) (v := .int .i64 t0) rfl
          go_upto_region 33 with (fail)
          clear a0 a1 a2
          have IC : Hid (Blk (w9.alloc (.cells #[.float .f32 H, .float .f32 0, .int .i64 t0] 41)) w9.heap.size #[.float .f32 H, .float .f32 0, .int .i64 t0] 41) := Lib.hid (Blk.new _ _ _)
          replace IA := Lib.hid (IA.out.alloc (.cells #[.float .f32 H, .float .f32 0, .int .i64 t0] 41))
          replace IB := Lib.hid (IB.out.alloc (.cells #[.float .f32 H, .float .f32 0, .int .i64 t0] 41))
          replace BA := Lib.hid (BA.out.alloc BA.out.size (.cells #[.float .f32 H, .float .f32 0, .int .i64 t0] 41))
          generalize w9.alloc (.cells #[.float .f32 H, .float .f32 0, .int .i64 t0] 41) = w10 at IA IB IC BA ⊢
          generalize w9.heap.size = gC at IC SC ⊢
          subst SC
          subst SA
          have hD0 : Dc3 v 0 (at0 tm (0 - 1)) 0 0 t0 0 t0 0 0 0 := by
            rw [show (0 - 1 : Nat) = 0 from rfl, HT0.out]; exact dc3_start (by rw [← HT0.out]; exact (tms_bd HTM.out.2 hn2 (show 0 < tm.length by omega)).1)
          have HD0 := Lib.hid hD0
          have IC : Hid (Blk w10 (gA + 1 + 1) #[.float .f32 H, .float .f32 0, .int .i64 (at0 tm (0 - 1))] 41) := by rw [show (0 - 1 : Nat) = 0 from rfl, HT0.out]; exact IC
          clear hD0 HT0
          go_wp2_with fail
          go_loopw [31] (fun iv wr => ∃ (i : Nat) (Sc Sa : Nat) (Ma : Int) (Sb : Nat) (Mb : Int), i ≤ tm.length ∧ iv = .int .i64 i ∧ Hid (Blk wr gA #[.float .f32 H, .float .f32 Sa, .int .i64 Ma] 41) ∧ Hid (Blk wr (gA + 1) #[.float .f32 H, .float .f32 Sb, .int .i64 Mb] 41) ∧ Hid (Blk wr (gA + 1 + 1) #[.float .f32 H, .float .f32 Sc, .int .i64 (at0 tm (i - 1))] 41) ∧ Hid (∃ A B C : Rat, Dc3 v i (at0 tm (i - 1)) Sc Sa Ma Sb Mb A B C) ∧ Hid (Below w2.heap.size w2 wr)) (fun iv _ => tm.length - (intOf iv).toNat)
          case atStart => exact ⟨0, 0, 0, t0, 0, t0, Nat.zero_le _, rfl, IA, IB, IC, Lib.hid ⟨_, _, _, HD0.out⟩, BA⟩
          case round =>
            clear IA IB IC HD0 BA
            obtain ⟨i, Sc, Sa, Ma, Sb, Mb, hi, rfl, IA, IB, IC, HD, HB⟩ := hrel
            by_cases hlt : i < tm.length
            ·
              have hlz2 : (i : Int) < (tm.length : Int) := by omega
              have HC := Lib.hid (And.intro (HC2.out.1.below HB.out (Nat.le_refl _)) HC2.out.2)
              go_wp2_with fail
              refine (r8At_any (i := i) (n := 9) HC.out.1 HC.out.2 (by omega) (by omega) (by omega)).mono ?_
              rintro e w11 ⟨⟨z, rfl, hz⟩, rfl⟩
              have hcv : ∀ w' : World, (convert 2 39 (.int .i64 (z : Int))).run Try.prog w' = .ok (.float .f32 (floatOfInt .f32 (z : Int))) w' := fun w' => run_convert_int_float w' _ _ _ _ _ (by kernel_rfl) und_f32k
              obtain ⟨xN, x0, x4, hxq⟩ := halfX_ok hz
              have ha := ar3w hxq 39
              obtain ⟨x, hx⟩ : ∃ x, halfX z = x := ⟨_, rfl⟩
              rw [hx] at ha xN x0 x4
              generalize floatOfInt .f32 (z : Int) = fq at hcv ha
              clear hx hxq hz HC
              obtain ⟨A, B, C, D⟩ := HD.out
              have htt := tms_mono HTM.out.1 (show i - 1 ≤ i by omega) hlt
              have htb := tms_bd HTM.out.2 hn2 hlt
              have htb0 := tms_bd HTM.out.2 hn2 (show i - 1 < tm.length by omega)
              obtain ⟨t, ht⟩ : ∃ t, at0 tm i = t := ⟨_, rfl⟩
              obtain ⟨tp, htp⟩ : ∃ t, at0 tm (i - 1) = t := ⟨_, rfl⟩
              rw [ht] at htt htb
              rw [htp] at htt htb0 D
              obtain ⟨pc, pa, T2, A2, Da⟩ := dc3_put HV.out D (show i < 30 by omega) htt (show t < 168 by omega) xN x0 x4
              obtain ⟨_, pb, T3, B2, Db⟩ := dc3_put HV.out D.swap (show i < 30 by omega) htt (show t < 168 by omega) xN x0 x4
              obtain ⟨rc, hrc⟩ : ∃ r, putS v Sc (t - tp).toNat x = r := ⟨_, rfl⟩
              obtain ⟨ra, hra⟩ : ∃ r, putS v Sa (t - Ma).toNat x = r := ⟨_, rfl⟩
              obtain ⟨rb, hrb⟩ : ∃ r, putS v Sb (t - Mb).toNat x = r := ⟨_, rfl⟩
              rw [hrc] at pc Da Db
              rw [hra] at pa Da
              rw [hrb] at pb Db
              have HDa : Hid (∃ A B C : Rat, Dc3 v (i + 1) t rc ra t Sb Mb A B C) := Lib.hid ⟨_, _, _, Da⟩
              have HDb : Hid (∃ A B C : Rat, Dc3 v (i + 1) t rc Sa Ma rb t A B C) := Lib.hid ⟨_, _, _, Db.swap⟩
              have HPC : Hid (∀ w' : World, Calls Try.prog 13 #[.agg #[.float .f32 H, .float .f32 Sc, .int .i64 tp], .int .i64 t, .float .f32 x] w' fun e w'' => e = .returned (.tuple #[.agg #[.float .f32 H, .float .f32 rc, .int .i64 t], .bool true]) ∧ Below w'.heap.size w' w'') := Lib.hid (fun w' => by have h := putDecay_any (w := w') pc xN (by omega); rw [HH.out] at h; exact h)
              have HPA : Hid (∀ w' : World, Calls Try.prog 13 #[.agg #[.float .f32 H, .float .f32 Sa, .int .i64 Ma], .int .i64 t, .float .f32 x] w' fun e w'' => e = .returned (.tuple #[.agg #[.float .f32 H, .float .f32 ra, .int .i64 t], .bool true]) ∧ Below w'.heap.size w' w'') := Lib.hid (fun w' => by have h := putDecay_any (w := w') pa xN (by omega); rw [HH.out] at h; exact h)
              have HPB : Hid (∀ w' : World, Calls Try.prog 13 #[.agg #[.float .f32 H, .float .f32 Sb, .int .i64 Mb], .int .i64 t, .float .f32 x] w' fun e w'' => e = .returned (.tuple #[.agg #[.float .f32 H, .float .f32 rb, .int .i64 t], .bool true]) ∧ Below w'.heap.size w' w'') := Lib.hid (fun w' => by have h := putDecay_any (w := w') pb xN (by omega); rw [HH.out] at h; exact h)
              have HTI := Lib.hid ht
              rw [htp] at IC
              clear hrc hra hrb pc pa pb Da Db D HD ht htp xN x0 x4 htt htb htb0
              obtain ⟨w4, rfl⟩ : ∃ z : World, z = wr := ⟨_, rfl⟩
              have HT4 := Lib.hid (HT2.out.below HB.out (Nat.le_refl _))
              have hix := fun w' : World => HT4.out.idx und_is siz_is w' i hlt
              have hcx := at0_cell HT4.out hlt HTI.out
              have z0 := IC.out.cell (i := 0) (v := .float .f32 H) rfl
              have z1 := IC.out.cell (i := 1) (v := .float .f32 Sc) rfl
              have z2 := IC.out.cell (i := 2) (v := .int .i64 tp) rfl
              have lz := IC.out.lt
              have lc := World.block_lt_of_cell? _ _ hcx
              have CC : Hid (Below w4.heap.size w4 w4.drew) := Lib.hid (below_of_drewN w4 1 _)
              go_upto_region 37 with (fail)
              clear hcv ha
              go_cut [33, 34] (fun pp bb wz => ∃ (g : Nat), pp = .pointer (some ⟨g, 0, none⟩) ∧ bb = .bool true ∧ Hid (Blk wz g #[.float .f32 H, .float .f32 rc, .int .i64 t] 41) ∧ Hid (Below w4.heap.size w4 wz))
              case first =>
                go_region_held3 (fun w' => w'.cell? ⟨gA + 1 + 1, 0, none⟩ = some (.float .f32 H) ∧ w'.cell? ⟨gA + 1 + 1, 1, none⟩ = some (.float .f32 Sc) ∧ w'.cell? ⟨gA + 1 + 1, 2, none⟩ = some (.int .i64 tp) ∧ w'.cell? (elt at_ i) = some (.int .i64 t)) ((refine ⟨?_, ?_, ?_, ?_⟩ <;> (repeat (first | with_reducible assumption | with_reducible refine k_drew ?_ | with_reducible refine k_alloc ?_ | with_reducible refine k_set (by first | omega | (dsimp only; omega)) ?_)))) ((go_at_call 13; refine (HPC.out _).mono ?_; rintro e wj ⟨rfl, hbj⟩; have hbk : Below w4.heap.size w4 wj := (by first | with_reducible exact belRun CC.out hbj | exact belRun (CC.out.alloc (Nat.le_refl _) _) hbj); have lj := hbk.size; have k0 := k_at hbk z0; have k1 := k_at hbk z1; have k2 := k_at hbk z2; have k4 := k_at hbk hcx; (first | (have Z : Hid (Blk wj w4.heap.size #[.float .f32 0, .float .f32 0, .int .i64 0] 41) := Lib.hid (Blk.newBelow (w := w4.drew) hbj (Nat.le_refl _)); have y0 := Z.out.cell (i := 0) (v := .float .f32 0) rfl; have y1 := Z.out.cell (i := 1) (v := .float .f32 0) rfl; have y2 := Z.out.cell (i := 2) (v := .int .i64 0) rfl; have f0 := Z.out.free 0; have f1 := Z.out.free 1; have f2 := Z.out.free 2) | (have hZ := True.intro))))
                all_goals
                  as_aux_lemma =>
                    go_wp2_with fail
                    go_meet
                    first
                    | exact ⟨_, rfl, rfl, Lib.hid (((Z.out.set 0 _).set 1 _).set 2 _), Lib.hid (((((CC.out.alloc (Nat.le_refl _) _).trans (hbj.mono (by simp))).setCell (Nat.le_refl _) _).setCell (Nat.le_refl _) _).setCell (Nat.le_refl _) _)⟩
                    | exact ⟨_, rfl, rfl, Lib.hid (Blk.new _ _ _), Lib.hid ((CC.out.trans hbj).alloc hbj.size _)⟩
              case rest =>
                obtain ⟨g3, rfl, rfl, HG, HBC⟩ := hcut
                have IA5 := Lib.hid (IA.out.below HBC.out (Nat.le_refl _))
                have IB5 := Lib.hid (IB.out.below HBC.out (Nat.le_refl _))
                have IC5 := Lib.hid (IC.out.below HBC.out (Nat.le_refl _))
                have HB5 := Lib.hid (HB.out.trans (HBC.out.mono HB.out.size))
                clear HPC hix hcx z0 z1 z2 lz lc CC HT4 HBC IA IB IC HB
                have g0 := HG.out.cell (i := 0) (v := .float .f32 H) rfl
                have g1 := HG.out.cell (i := 1) (v := .float .f32 rc) rfl
                have g2 := HG.out.cell (i := 2) (v := .int .i64 t) rfl
                have z0 := IC5.out.cell (i := 0) (v := .float .f32 H) rfl
                have z1 := IC5.out.cell (i := 1) (v := .float .f32 Sc) rfl
                have z2 := IC5.out.cell (i := 2) (v := .int .i64 tp) rfl
                have f0 := IC5.out.free 0
                have f1 := IC5.out.free 1
                have f2 := IC5.out.free 2
                go_upto_region 41 with (fail)
                clear g0 g1 g2 z0 z1 z2 f0 f1 f2
                have IC : Hid (Blk (((wc.setCell ⟨gA + 1 + 1, 0, none⟩ (.float .f32 H)).setCell ⟨gA + 1 + 1, 1, none⟩ (.float .f32 rc)).setCell ⟨gA + 1 + 1, 2, none⟩ (.int .i64 t)) (gA + 1 + 1) #[.float .f32 H, .float .f32 rc, .int .i64 t] 41) := Lib.hid (((IC5.out.set 0 (.float .f32 H)).set 1 (.float .f32 rc)).set 2 (.int .i64 t))
                have IA : Hid (Blk (((wc.setCell ⟨gA + 1 + 1, 0, none⟩ (.float .f32 H)).setCell ⟨gA + 1 + 1, 1, none⟩ (.float .f32 rc)).setCell ⟨gA + 1 + 1, 2, none⟩ (.int .i64 t)) gA #[.float .f32 H, .float .f32 Sa, .int .i64 Ma] 41) := Lib.hid (((IA5.out.far (by simp; try omega) _).far (by simp; try omega) _).far (by simp; try omega) _)
                have IB : Hid (Blk (((wc.setCell ⟨gA + 1 + 1, 0, none⟩ (.float .f32 H)).setCell ⟨gA + 1 + 1, 1, none⟩ (.float .f32 rc)).setCell ⟨gA + 1 + 1, 2, none⟩ (.int .i64 t)) (gA + 1) #[.float .f32 H, .float .f32 Sb, .int .i64 Mb] 41) := Lib.hid (((IB5.out.far (by simp; try omega) _).far (by simp; try omega) _).far (by simp; try omega) _)
                have HB : Hid (Below w2.heap.size w2 (((wc.setCell ⟨gA + 1 + 1, 0, none⟩ (.float .f32 H)).setCell ⟨gA + 1 + 1, 1, none⟩ (.float .f32 rc)).setCell ⟨gA + 1 + 1, 2, none⟩ (.int .i64 t))) := Lib.hid (((HB5.out.setCell (by simp; omega) _).setCell (by simp; omega) _).setCell (by simp; omega) _)
                generalize (((wc.setCell ⟨gA + 1 + 1, 0, none⟩ (.float .f32 H)).setCell ⟨gA + 1 + 1, 1, none⟩ (.float .f32 rc)).setCell ⟨gA + 1 + 1, 2, none⟩ (.int .i64 t)) = w6 at IA IB IC HB ⊢
                clear IA5 IB5 IC5 HB5 HG
                have HT6 := Lib.hid (HT2.out.below HB.out (Nat.le_refl _))
                have hix := fun w' : World => HT6.out.idx und_is siz_is w' i hlt
                have hcx := at0_cell HT6.out hlt HTI.out
                have lc := World.block_lt_of_cell? _ _ hcx
                have CC : Hid (Below w6.heap.size w6 w6.drew) := Lib.hid (below_of_drewN w6 1 _)
                by_cases hpar : i % 2 = 0
                · have hrm : (i : Int).tmod 2 = 0 := by have : (i : Int).tmod 2 = ((i % 2 : Nat) : Int) := rfl; rw [this, hpar]; rfl
                  clear hpar
                  have z0 := IA.out.cell (i := 0) (v := .float .f32 H) rfl
                  have z1 := IA.out.cell (i := 1) (v := .float .f32 Sa) rfl
                  have z2 := IA.out.cell (i := 2) (v := .int .i64 Ma) rfl
                  go_upto_region 43 with (fail)
                  go_cut [35] (fun bb wz => bb = .bool true ∧ Hid (Blk wz gA #[.float .f32 H, .float .f32 ra, .int .i64 t] 41) ∧ Hid (Blk wz (gA + 1) #[.float .f32 H, .float .f32 Sb, .int .i64 Mb] 41) ∧ Hid (Blk wz (gA + 1 + 1) #[.float .f32 H, .float .f32 rc, .int .i64 t] 41) ∧ Hid (Below w2.heap.size w2 wz))
                  case first =>
                    go_region_law (first
                      | (go_simp; go_at_call 13; refine (HPA.out _).mono ?_; rintro e wj ⟨rfl, hbj⟩; have hbk := CC.out.trans hbj; have Z := Lib.hid (IA.out.below hbk (Nat.le_refl _)); have y0 := Z.out.cell (i := 0) (v := .float .f32 H) rfl; have y1 := Z.out.cell (i := 1) (v := .float .f32 Sa) rfl; have y2 := Z.out.cell (i := 2) (v := .int .i64 Ma) rfl; have f0 := Z.out.free 0; have f1 := Z.out.free 1; have f2 := Z.out.free 2))
                    all_goals
                      as_aux_lemma =>
                        go_wp2_with fail
                        go_meet
                        exact ⟨rfl, Lib.hid ((((IA.out.below hbk (Nat.le_refl _)).set 0 _).set 1 _).set 2 _), Lib.hid ((((IB.out.below hbk (Nat.le_refl _)).far (by simp; try omega) _).far (by simp; try omega) _).far (by simp; try omega) _), Lib.hid ((((IC.out.below hbk (Nat.le_refl _)).far (by simp; try omega) _).far (by simp; try omega) _).far (by simp; try omega) _), Lib.hid ((((HB.out.trans (hbk.mono HB.out.size)).setCell (by simp; try omega) _).setCell (by simp; try omega) _).setCell (by simp; try omega) _)⟩
                  case rest =>
                    as_aux_lemma =>
                      obtain ⟨rfl, JA, JB, JC, HB7⟩ := hcut
                      clear z0 z1 z2 hix hcx lc CC HPA HPB HT6 IA IB IC HB
                      have e1 : at0 tm (i + 1 - 1) = t := by rw [Nat.add_sub_cancel]; exact HTI.out
                      replace JC : Hid (Blk wc (gA + 1 + 1) #[.float .f32 H, .float .f32 rc, .int .i64 (at0 tm (i + 1 - 1))] 41) := by rw [e1]; exact JC
                      replace HDa : Hid (∃ A B C : Rat, Dc3 v (i + 1) (at0 tm (i + 1 - 1)) rc ra t Sb Mb A B C) := by rw [e1]; exact HDa
                      clear e1
                      go_wp2_with fail
                      go_roundw
                      case rel => exact ⟨i + 1, rc, ra, t, Sb, Mb, by omega, by go_num, JA, JB, JC, HDa, HB7⟩
                      case measure => simp [intOf]; omega
                · have hrm : (i : Int).tmod 2 = 1 := by have : (i : Int).tmod 2 = ((i % 2 : Nat) : Int) := rfl; rw [this, show i % 2 = 1 by omega]; rfl
                  clear hpar
                  have z0 := IB.out.cell (i := 0) (v := .float .f32 H) rfl
                  have z1 := IB.out.cell (i := 1) (v := .float .f32 Sb) rfl
                  have z2 := IB.out.cell (i := 2) (v := .int .i64 Mb) rfl
                  go_upto_region 44 with (fail)
                  go_cut [35] (fun bb wz => bb = .bool true ∧ Hid (Blk wz gA #[.float .f32 H, .float .f32 Sa, .int .i64 Ma] 41) ∧ Hid (Blk wz (gA + 1) #[.float .f32 H, .float .f32 rb, .int .i64 t] 41) ∧ Hid (Blk wz (gA + 1 + 1) #[.float .f32 H, .float .f32 rc, .int .i64 t] 41) ∧ Hid (Below w2.heap.size w2 wz))
                  case first =>
                    go_region_law (first
                      | (go_simp; go_at_call 13; refine (HPB.out _).mono ?_; rintro e wj ⟨rfl, hbj⟩; have hbk := CC.out.trans hbj; have Z := Lib.hid (IB.out.below hbk (Nat.le_refl _)); have y0 := Z.out.cell (i := 0) (v := .float .f32 H) rfl; have y1 := Z.out.cell (i := 1) (v := .float .f32 Sb) rfl; have y2 := Z.out.cell (i := 2) (v := .int .i64 Mb) rfl; have f0 := Z.out.free 0; have f1 := Z.out.free 1; have f2 := Z.out.free 2))
                    all_goals
                      as_aux_lemma =>
                        go_wp2_with fail
                        go_meet
                        exact ⟨rfl, Lib.hid ((((IA.out.below hbk (Nat.le_refl _)).far (by simp; try omega) _).far (by simp; try omega) _).far (by simp; try omega) _), Lib.hid ((((IB.out.below hbk (Nat.le_refl _)).set 0 _).set 1 _).set 2 _), Lib.hid ((((IC.out.below hbk (Nat.le_refl _)).far (by simp; try omega) _).far (by simp; try omega) _).far (by simp; try omega) _), Lib.hid ((((HB.out.trans (hbk.mono HB.out.size)).setCell (by simp; try omega) _).setCell (by simp; try omega) _).setCell (by simp; try omega) _)⟩
                  case rest =>
                    as_aux_lemma =>
                      obtain ⟨rfl, JA, JB, JC, HB7⟩ := hcut
                      clear z0 z1 z2 hix hcx lc CC HPA HPB HT6 IA IB IC HB
                      have e1 : at0 tm (i + 1 - 1) = t := by rw [Nat.add_sub_cancel]; exact HTI.out
                      replace JC : Hid (Blk wc (gA + 1 + 1) #[.float .f32 H, .float .f32 rc, .int .i64 (at0 tm (i + 1 - 1))] 41) := by rw [e1]; exact JC
                      replace HDb : Hid (∃ A B C : Rat, Dc3 v (i + 1) (at0 tm (i + 1 - 1)) rc Sa Ma rb t A B C) := by rw [e1]; exact HDb
                      clear e1
                      go_wp2_with fail
                      go_roundw
                      case rel => exact ⟨i + 1, rc, Sa, Ma, rb, t, by omega, by go_num, JA, JB, JC, HDb, HB7⟩
                      case measure => simp [intOf]; omega
            ·
              as_aux_lemma =>
                obtain rfl : i = tm.length := by omega
                have hlz2 : ¬ (tm.length : Int) < (tm.length : Int) := by omega
                have e1 : at0 tm (tm.length - 1) = t := by rw [show tm.length - 1 = m by have := HMT.out; omega]; exact HTK.out
                rw [e1] at HD IC
                obtain ⟨A, B, C, D⟩ := HD.out
                obtain ⟨X, sm, rm, DE⟩ := dc3_end HV.out D hn2 (show t + 7 < 168 by omega)
                have hmx : max Ma Mb = t := by have h1 := D.one; have h2 := D.ma; have h3 := D.mb; rcases h1 with h | h <;> omega
                have hmx2 : max Mb Ma = t := by rw [Int.max_comm]; exact hmx
                have dT := dct_of DE.sN DE.rN DE.s0 DE.s1 DE.near1 DE.near2
                have e8 := eight_ok HV.out
                have HJ1 : Hid (∀ w' : World, Calls Try.prog 14 #[.agg #[.float .f32 H, .float .f32 Sa, .int .i64 (Ma)], .agg #[.float .f32 H, .float .f32 Sb, .int .i64 (Mb)]] w' fun e w'' => e = .returned (.tuple #[.agg #[.float .f32 H, .float .f32 X, .int .i64 (t)], .bool true]) ∧ Below w'.heap.size w' w'') := Lib.hid (fun w' => by have h := joinD_any (w := w') DE.okab DE.sab hmx; rw [HH.out] at h; exact h)
                have HJ2 : Hid (∀ w' : World, Calls Try.prog 14 #[.agg #[.float .f32 H, .float .f32 Sb, .int .i64 (Mb)], .agg #[.float .f32 H, .float .f32 Sa, .int .i64 (Ma)]] w' fun e w'' => e = .returned (.tuple #[.agg #[.float .f32 H, .float .f32 X, .int .i64 (t)], .bool true]) ∧ Below w'.heap.size w' w'') := Lib.hid (fun w' => by have h := joinD_any (w := w') DE.okba DE.sba hmx2; rw [HH.out] at h; exact h)
                have HA1 : Hid (∀ w' : World, Calls Try.prog 15 #[.agg #[.float .f32 H, .float .f32 Sc, .int .i64 (t)], .int .i64 (t + 7)] w' fun e w'' => e = .returned (.tuple #[.float .f32 sm, .bool true]) ∧ Below w'.heap.size w' w'') := Lib.hid (fun w' => by have h := atD_any (w := w') DE.lc DE.oc (by omega); rw [HH.out] at h; exact h)
                have HA2 : Hid (∀ w' : World, Calls Try.prog 15 #[.agg #[.float .f32 H, .float .f32 X, .int .i64 (t)], .int .i64 (t + 7)] w' fun e w'' => e = .returned (.tuple #[.float .f32 rm, .bool true]) ∧ Below w'.heap.size w' w'') := Lib.hid (fun w' => by have h := atD_any (w := w') DE.lx DE.ox (by omega); rw [HH.out] at h; exact h)
                have HA3 : Hid (∀ w' : World, Calls Try.prog 15 #[.agg #[.float .f32 H, .float .f32 1090519040, .int .i64 3], .int .i64 3] w' fun e w'' => e = .returned (.tuple #[.float .f32 1090519040, .bool true]) ∧ Below w'.heap.size w' w'') := Lib.hid (fun w' => by have h := atD_any (w := w') e8.2 e8.1 (by omega); rw [HH.out] at h; exact h)
                have HVD : Hid (∀ w' : World, Calls Try.prog 16 #[.agg #[.float .f32 H, .float .f32 X, .int .i64 (t)]] w' fun e w'' => e = .returned (.bool true) ∧ Below w'.heap.size w' w'') := Lib.hid (fun w' => by have h := validDecay_any (H := halfF v) (S := X) (M := t) (w := w'); rw [DE.dec, HH.out] at h; exact h)
                obtain ⟨Y, hY⟩ : ∃ Y, fo3 .add X X = Y := ⟨_, rfl⟩
                have hxx := DE.XX
                rw [hY] at hxx
                have haX := ar3w hxx.1 39
                have HSD : Hid (∀ w' : World, Calls Try.prog 17 #[.agg #[.float .f32 H, .float .f32 Y, .int .i64 (t)], .agg #[.float .f32 H, .float .f32 Y, .int .i64 (t)]] w' fun e w'' => e = .returned (.bool true) ∧ Below w'.heap.size w' w'') := Lib.hid (fun w' => by have h := sameDecay_any (H := halfF v) (S := Y) (M := t) (w := w') (half_ok HV.out).1 hxx.2; rw [HH.out] at h; exact h)
                have cv1 := fun w' : World => run_convert_float_float (P := Try.prog) w' 39 49 .f32 .f64 sm _ und_f32 und_f64 dT.ws
                have cv2 := fun w' : World => run_convert_float_float (P := Try.prog) w' 39 49 .f32 .f64 rm _ und_f32 und_f64 dT.wr
                have HGP : Hid (∀ w' : World, Calls Try.prog 18 #[.float .f64 (wid sm), .float .f64 (wid rm)] w' fun e w'' => e = .returned (.float .f64 (gapF (wid sm) (wid rm))) ∧ w' = w'') := Lib.hid (fun w' => r8Gap_any dT.gap)
                have aO := ar dT.one 49
                have aM := ar dT.mul 49
                have tL := dT.lt
                generalize fo .mul cHun (fo .add cOne64 (wid sm)) = vm at aM tL
                generalize fo .add cOne64 (wid sm) = vo at aO aM
                generalize gapF (wid sm) (wid rm) = vg at HGP tL
                generalize wid sm = s6 at cv1 aO HGP
                generalize wid rm = r6 at cv2 HGP
                rw [show cHun = 4576918229304087675 from rfl] at aM
                rw [show cOne64 = 4607182418800017408 from rfl] at aO
                have t8 : FloatKind.f32.format.order 1090519040 1090519040 = some .eq := by decide +kernel
                have HX := Lib.hid (And.intro haX (And.intro cv1 (And.intro cv2 (And.intro aO (And.intro aM (And.intro tL t8))))))
                clear DE D dT e8 hxx hY haX cv1 cv2 aO aM tL t8 hmx hmx2 HD e1
                obtain ⟨w4, rfl⟩ : ∃ z : World, z = wr := ⟨_, rfl⟩
                have a0 := IA.out.cell (i := 0) (v := .float .f32 H) rfl
                have a1 := IA.out.cell (i := 1) (v := .float .f32 Sa) rfl
                have a2 := IA.out.cell (i := 2) (v := .int .i64 Ma) rfl
                have b0 := IB.out.cell (i := 0) (v := .float .f32 H) rfl
                have b1 := IB.out.cell (i := 1) (v := .float .f32 Sb) rfl
                have b2 := IB.out.cell (i := 2) (v := .int .i64 Mb) rfl
                go_wp2_with fail
                refine (HJ1.out _).mono ?_
                rintro e w5 ⟨rfl, hb5⟩
                replace IA := Lib.hid (IA.out.below hb5 (Nat.le_refl _))
                replace IB := Lib.hid (IB.out.below hb5 (Nat.le_refl _))
                replace IC := Lib.hid (IC.out.below hb5 (Nat.le_refl _))
                replace HB := Lib.hid (HB.out.trans (hb5.mono HB.out.size))
                clear a0 a1 a2 b0 b1 b2 hb5 HJ1
                go_upto_region 48 with (fail)
                have IX : Hid (Blk (w5.alloc (.cells #[.float .f32 H, .float .f32 X, .int .i64 t] 41)) w5.heap.size #[.float .f32 H, .float .f32 X, .int .i64 t] 41) := Lib.hid (Blk.new _ _ _)
                replace IA := Lib.hid (IA.out.alloc (.cells #[.float .f32 H, .float .f32 X, .int .i64 t] 41))
                replace IB := Lib.hid (IB.out.alloc (.cells #[.float .f32 H, .float .f32 X, .int .i64 t] 41))
                replace IC := Lib.hid (IC.out.alloc (.cells #[.float .f32 H, .float .f32 X, .int .i64 t] 41))
                replace HB := Lib.hid (HB.out.alloc HB.out.size (.cells #[.float .f32 H, .float .f32 X, .int .i64 t] 41))
                generalize w5.alloc (.cells #[.float .f32 H, .float .f32 X, .int .i64 t] 41) = w6 at IA IB IC IX HB ⊢
                generalize w5.heap.size = gX at IX ⊢
                have a0 := IA.out.cell (i := 0) (v := .float .f32 H) rfl
                have a1 := IA.out.cell (i := 1) (v := .float .f32 Sa) rfl
                have a2 := IA.out.cell (i := 2) (v := .int .i64 Ma) rfl
                have b0 := IB.out.cell (i := 0) (v := .float .f32 H) rfl
                have b1 := IB.out.cell (i := 1) (v := .float .f32 Sb) rfl
                have b2 := IB.out.cell (i := 2) (v := .int .i64 Mb) rfl
                go_wp2_with fail
                refine (HJ2.out _).mono ?_
                rintro e w7 ⟨rfl, hb7⟩
                replace IX := Lib.hid (IX.out.below hb7 (Nat.le_refl _))
                replace IC := Lib.hid (IC.out.below hb7 (Nat.le_refl _))
                replace HB := Lib.hid (HB.out.trans (hb7.mono HB.out.size))
                clear a0 a1 a2 b0 b1 b2 hb7 HJ2 IA IB
                go_upto_region 49 with (fail)
                have IY : Hid (Blk (w7.alloc (.cells #[.float .f32 H, .float .f32 X, .int .i64 t] 41)) w7.heap.size #[.float .f32 H, .float .f32 X, .int .i64 t] 41) := Lib.hid (Blk.new _ _ _)
                replace IX := Lib.hid (IX.out.alloc (.cells #[.float .f32 H, .float .f32 X, .int .i64 t] 41))
                replace IC := Lib.hid (IC.out.alloc (.cells #[.float .f32 H, .float .f32 X, .int .i64 t] 41))
                replace HB := Lib.hid (HB.out.alloc HB.out.size (.cells #[.float .f32 H, .float .f32 X, .int .i64 t] 41))
                generalize w7.alloc (.cells #[.float .f32 H, .float .f32 X, .int .i64 t] 41) = w8 at IC IX IY HB ⊢
                generalize w7.heap.size = gY at IY ⊢
                have ew7 : IntKind.i64.wrap (t + 7) = t + 7 := IntWalk.i64_in _ (by omega)
                -- region 49
                have HT6 := Lib.hid (HT2.out.below HB.out (Nat.le_refl _))
                obtain ⟨ι, hne, G, hG, hS⟩ := calm_family w8
                have hix := fun w' : World => HT6.out.idx und_is siz_is w' m hmt
                have hcx := fun i : ι => at0_cell (HT6.out.below (hG i) (Nat.le_refl _)) hmt HTK.out
                have z0 := fun i : ι => (IC.out.below (hG i) (Nat.le_refl _)).cell (i := 0) (v := .float .f32 H) rfl
                have z1 := fun i : ι => (IC.out.below (hG i) (Nat.le_refl _)).cell (i := 1) (v := .float .f32 Sc) rfl
                have z2 := fun i : ι => (IC.out.below (hG i) (Nat.le_refl _)).cell (i := 2) (v := .int .i64 t) rfl
                have HGG := Lib.hid hG
                have HSU := Lib.hid hS
                clear hG hS
                refine wp_region_calm (G := G) (by kernel_rfl) (by kernel_rfl) HSU.out ?_
                repeat (go_big_quiet_step ((go_at_call 15; exact calm_call HGG.out HSU.out (HA1.out _))))
                refine wpQuiet_nil ?_
                intro _ hw'
                obtain ⟨gi, hw''⟩ := hw'
                subst hw''
                have hbc := HGG.out gi
                replace IC := Lib.hid (IC.out.below hbc (Nat.le_refl _))
                replace IX := Lib.hid (IX.out.below hbc (Nat.le_refl _))
                replace IY := Lib.hid (IY.out.below hbc (Nat.le_refl _))
                replace HB := Lib.hid (HB.out.trans (hbc.mono HB.out.size))
                generalize G gi = w9 at IC IX IY HB ⊢
                clear hbc HGG HSU HA1 hix hcx z0 z1 z2 hne HT6 gi G ι
                go_upto_region 50 with (fail)
                -- region 50
                have HT6 := Lib.hid (HT2.out.below HB.out (Nat.le_refl _))
                obtain ⟨ι, hne, G, hG, hS⟩ := calm_family w9
                have hix := fun w' : World => HT6.out.idx und_is siz_is w' m hmt
                have hcx := fun i : ι => at0_cell (HT6.out.below (hG i) (Nat.le_refl _)) hmt HTK.out
                have z0 := fun i : ι => (IX.out.below (hG i) (Nat.le_refl _)).cell (i := 0) (v := .float .f32 H) rfl
                have z1 := fun i : ι => (IX.out.below (hG i) (Nat.le_refl _)).cell (i := 1) (v := .float .f32 X) rfl
                have z2 := fun i : ι => (IX.out.below (hG i) (Nat.le_refl _)).cell (i := 2) (v := .int .i64 t) rfl
                have HGG := Lib.hid hG
                have HSU := Lib.hid hS
                clear hG hS
                refine wp_region_calm (G := G) (by kernel_rfl) (by kernel_rfl) HSU.out ?_
                repeat (go_big_quiet_step ((go_at_call 15; exact calm_call HGG.out HSU.out (HA2.out _))))
                refine wpQuiet_nil ?_
                intro _ hw'
                obtain ⟨gi, hw''⟩ := hw'
                subst hw''
                have hbc := HGG.out gi
                replace IC := Lib.hid (IC.out.below hbc (Nat.le_refl _))
                replace IX := Lib.hid (IX.out.below hbc (Nat.le_refl _))
                replace IY := Lib.hid (IY.out.below hbc (Nat.le_refl _))
                replace HB := Lib.hid (HB.out.trans (hbc.mono HB.out.size))
                generalize G gi = w10 at IC IX IY HB ⊢
                clear hbc HGG HSU HA2 hix hcx z0 z1 z2 hne HT6 gi G ι
                go_upto_region 51 with (fail)
                go_upto_region 52 with (fail)
                have I8 : Hid (Blk (w10.alloc (.cells #[.float .f32 H, .float .f32 1090519040, .int .i64 3] 41)) w10.heap.size #[.float .f32 H, .float .f32 1090519040, .int .i64 3] 41) := Lib.hid (Blk.new _ _ _)
                replace IX := Lib.hid (IX.out.alloc (.cells #[.float .f32 H, .float .f32 1090519040, .int .i64 3] 41))
                replace IY := Lib.hid (IY.out.alloc (.cells #[.float .f32 H, .float .f32 1090519040, .int .i64 3] 41))
                replace HB := Lib.hid (HB.out.alloc HB.out.size (.cells #[.float .f32 H, .float .f32 1090519040, .int .i64 3] 41))
                generalize w10.alloc (.cells #[.float .f32 H, .float .f32 1090519040, .int .i64 3] 41) = w11 at IX IY I8 HB ⊢
                generalize w10.heap.size = g8 at I8 ⊢
                have a0 := I8.out.cell (i := 0) (v := .float .f32 H) rfl
                have a1 := I8.out.cell (i := 1) (v := .float .f32 1090519040) rfl
                have a2 := I8.out.cell (i := 2) (v := .int .i64 3) rfl
                go_wp2_with fail
                refine (HA3.out _).mono ?_
                rintro e w12 ⟨rfl, hb12⟩
                replace IX := Lib.hid (IX.out.below hb12 (Nat.le_refl _))
                replace IY := Lib.hid (IY.out.below hb12 (Nat.le_refl _))
                replace HB := Lib.hid (HB.out.trans (hb12.mono HB.out.size))
                clear a0 a1 a2 hb12 HA3 I8 IC
                go_upto_region 53 with (fail)
                have a0 := IX.out.cell (i := 0) (v := .float .f32 H) rfl
                have a1 := IX.out.cell (i := 1) (v := .float .f32 X) rfl
                have a2 := IX.out.cell (i := 2) (v := .int .i64 t) rfl
                go_wp2_with fail
                refine (HVD.out _).mono ?_
                rintro e w13 ⟨rfl, hb13⟩
                replace IX := Lib.hid (IX.out.below hb13 (Nat.le_refl _))
                replace IY := Lib.hid (IY.out.below hb13 (Nat.le_refl _))
                replace HB := Lib.hid (HB.out.trans (hb13.mono HB.out.size))
                clear a0 a1 a2 hb13 HVD
                have a0 := IX.out.cell (i := 0) (v := .float .f32 H) rfl
                have a1 := IX.out.cell (i := 1) (v := .float .f32 X) rfl
                have a2 := IX.out.cell (i := 2) (v := .int .i64 t) rfl
                have b0 := IY.out.cell (i := 0) (v := .float .f32 H) rfl
                have b1 := IY.out.cell (i := 1) (v := .float .f32 X) rfl
                have b2 := IY.out.cell (i := 2) (v := .int .i64 t) rfl
                obtain ⟨haX, cv1, cv2, aO, aM, tL, t8⟩ := HX.out
                go_wp2_with fail
                refine (HSD.out _).mono ?_
                rintro e w14 ⟨rfl, hb14⟩
                replace HB := Lib.hid (HB.out.trans (hb14.mono HB.out.size))
                clear a0 a1 a2 b0 b1 b2 hb14 HSD
                go_wp2_with fail
                refine (HGP.out _).mono ?_
                rintro e w15 ⟨rfl, rfl⟩
                have HF := Lib.hid (HBW2.out.trans (HB.out.mono HBW2.out.size))
                go_wp2
                go_ret
                exact ⟨rfl, HF.out⟩

end Go.Proofs.Ytncbkbfkdgggkaa
