/- ReadWindow: plain, and in both texts. The walk of the law FnExactReadWindow. -/
import Derived.Test.YtmmpemfhbnkomaaDoorQRw26
import Derived.Test.YtmmpemfhbnkomaaDoorQRw22
import Derived.Test.YtmmpemfhbnkomaaDoorQRw15
import Derived.Deep.Cut
import Derived.Deep.DrawnRows
import Derived.Test.YtmmpemfhbnkomaaDoorQRw2
import Derived.Test.YtmmpemfhbnkomaaDoorQRw4
set_option linter.unusedVariables false
set_option linter.unusedSimpArgs false
namespace Go.Proofs.YtmmpemfhbnkomaaDoor
open Go.RowKit
attribute [local go_sem ↓] Go.wp_at_zero Go.wp_at_succ

def pz (t : ByteArray) (i : Nat) : ByteArray := (parts t 59)[i]?.getD ⟨#[]⟩
def rwB (t : ByteArray) : Bool := decide ((parts t 59).length = 3) && numsB (pz t 0) && numsB (pz t 1) && numsB (pz t 2) && decide ((numsL (pz t 0)).length = 2) && winB (at0 (numsL (pz t 0)) 0) (at0 (numsL (pz t 0)) 1) (numsL (pz t 1)) (numsL (pz t 2))
def rwL (t : ByteArray) : Int := if rwB t then at0 (numsL (pz t 0)) 0 else 0
def rwP (t : ByteArray) : Int := if rwB t then at0 (numsL (pz t 0)) 1 else 0
def rwT (t : ByteArray) : List Int := if rwB t then numsL (pz t 1) else []
def rwS (t : ByteArray) : List Int := if rwB t then numsL (pz t 2) else []
theorem rw_no {t : ByteArray} (h : rwB t = false) : rwL t = 0 ∧ rwP t = 0 ∧ rwT t = [] ∧ rwS t = [] := by unfold rwL rwP rwT rwS; rw [h]; exact ⟨rfl, rfl, rfl, rfl⟩
theorem rw_yes {t : ByteArray} (h : rwB t = true) : rwL t = at0 (numsL (pz t 0)) 0 ∧ rwP t = at0 (numsL (pz t 0)) 1 ∧ rwT t = numsL (pz t 1) ∧ rwS t = numsL (pz t 2) := by unfold rwL rwP rwT rwS; rw [h]; exact ⟨rfl, rfl, rfl, rfl⟩
theorem two_ofW {xs : List Int} (h : xs.length = 2) : xs = [at0 xs 0, at0 xs 1] := by
  match xs, h with
  | [x, y], _ => rfl
theorem three_of {xs : List ByteArray} (h : xs.length = 3) : xs = [xs[0]?.getD ⟨#[]⟩, xs[1]?.getD ⟨#[]⟩, xs[2]?.getD ⟨#[]⟩] := by
  match xs, h with
  | [x, y, z], _ => rfl
theorem rw_text {t : ByteArray} (hl : (parts t 59).length = 3) (h0 : numsB (pz t 0) = true) (h1 : numsB (pz t 1) = true) (h2 : numsB (pz t 2) = true) (h3 : (numsL (pz t 0)).length = 2) (h4 : winB (at0 (numsL (pz t 0)) 0) (at0 (numsL (pz t 0)) 1) (numsL (pz t 1)) (numsL (pz t 2)) = true) :
    winTV (at0 (numsL (pz t 0)) 0) (at0 (numsL (pz t 0)) 1) (numsL (pz t 1)) (numsL (pz t 2)) = true ∧ winT (at0 (numsL (pz t 0)) 0) (at0 (numsL (pz t 0)) 1) (numsL (pz t 1)) (numsL (pz t 2)) = t := by
  have hv : winTV (at0 (numsL (pz t 0)) 0) (at0 (numsL (pz t 0)) 1) (numsL (pz t 1)) (numsL (pz t 2)) = true := by unfold winTV; rw [numsB_vals h1, numsB_vals h2, h4]; rfl
  refine ⟨hv, ?_⟩
  unfold winT
  rw [hv, if_pos rfl, ← two_ofW h3, nums_round h0, nums_round h1, nums_round h2]
  apply toL_inj
  have hp := three_of hl
  have hj := join_sp 59 (toL t)
  rw [← parts_toL', hp] at hj
  simp only [List.map_cons, List.map_nil] at hj
  rw [Lib.join_cons] at hj
  have e : toL ⟨#[59]⟩ = [59] := rfl
  rw [toL_append, toL_append, toL_append, toL_append, e, ← hj]
  simp [Lib.joinTail, pz]
theorem readWindow_len (s : ByteArray) : (rwT s).length ≤ 1048576 ∧ (rwS s).length ≤ 1048576 := by
  unfold rwT rwS
  split
  · rename_i h
    unfold rwB at h
    simp only [Bool.and_eq_true] at h
    have h1 := (numsB_all h.1.1.1.2).2
    have h2 := (numsB_all h.1.1.2).2
    rw [numsL_len, numsL_len]; omega
  · simp

set_option maxRecDepth 20000 in
set_option maxHeartbeats 8000000 in
theorem implReadWindow_any {t : ByteArray} {w : World} (hT : PTab w) (hE : ETab w) (hM : MLen w) (hs : t.size ≤ 1048576) :
    Calls Tryd.prog 23 #[.string t] w (RetWinX w (rwL t) (rwP t) (rwT t) (rwS t) (rwB t)) := by
  have HB0 := Lib.hid ((Below.refl w.heap.size w).alloc (Nat.le_refl _) (.cells #[.int .i64 0, .int .i64 0, .slice none 0 0, .slice none 0 0] 43))
  have HI0 : Hid (Blk (w.alloc (.cells #[.int .i64 0, .int .i64 0, .slice none 0 0, .slice none 0 0] 43)) w.heap.size #[.int .i64 0, .int .i64 0, .slice none 0 0, .slice none 0 0] 43) := Lib.hid (Blk.new _ _ _)
  have HT := Lib.hid hT
  have HE := Lib.hid hE
  have HM := Lib.hid hM
  have hs0 : (parts t 59).length = 3 → (pz t 0).size ≤ 1048576 := fun h => by
    have hm : pz t 0 ∈ parts t 59 := by rw [pz, List.getElem?_eq_getElem (by omega)]; exact List.getElem_mem _
    exact Nat.le_trans (mem_size 59 hm) hs
  have hs1 : (parts t 59).length = 3 → (pz t 1).size ≤ 1048576 := fun h => by
    have hm : pz t 1 ∈ parts t 59 := by rw [pz, List.getElem?_eq_getElem (by omega)]; exact List.getElem_mem _
    exact Nat.le_trans (mem_size 59 hm) hs
  have hs2 : (parts t 59).length = 3 → (pz t 2).size ≤ 1048576 := fun h => by
    have hm : pz t 2 ∈ parts t 59 := by rw [pz, List.getElem?_eq_getElem (by omega)]; exact List.getElem_mem _
    exact Nat.le_trans (mem_size 59 hm) hs
  obtain ⟨rb, hrb⟩ : ∃ b, rwB t = b := ⟨_, rfl⟩
  obtain ⟨rl, hrl⟩ : ∃ b, rwL t = b := ⟨_, rfl⟩
  obtain ⟨rp, hrp⟩ : ∃ b, rwP t = b := ⟨_, rfl⟩
  obtain ⟨rt, hrt⟩ : ∃ b, rwT t = b := ⟨_, rfl⟩
  obtain ⟨rs, hrs⟩ : ∃ b, rwS t = b := ⟨_, rfl⟩
  have HNO : Hid (rwB t = false → rb = false ∧ rl = 0 ∧ rp = 0 ∧ rt = [] ∧ rs = []) := Lib.hid (fun h => ⟨hrb ▸ h, hrl ▸ (rw_no h).1, hrp ▸ (rw_no h).2.1, hrt ▸ (rw_no h).2.2.1, hrs ▸ (rw_no h).2.2.2⟩)
  have HYES : Hid (rwB t = true → rb = true ∧ rl = at0 (numsL (pz t 0)) 0 ∧ rp = at0 (numsL (pz t 0)) 1 ∧ rt = numsL (pz t 1) ∧ rs = numsL (pz t 2)) := Lib.hid (fun h => ⟨hrb ▸ h, hrl ▸ (rw_yes h).1, hrp ▸ (rw_yes h).2.1, hrt ▸ (rw_yes h).2.2.1, hrs ▸ (rw_yes h).2.2.2⟩)
  have HDEF : Hid (rwB t = (decide ((parts t 59).length = 3) && numsB (pz t 0) && numsB (pz t 1) && numsB (pz t 2) && decide ((numsL (pz t 0)).length = 2) && winB (at0 (numsL (pz t 0)) 0) (at0 (numsL (pz t 0)) 1) (numsL (pz t 1)) (numsL (pz t 2)))) := Lib.hid rfl
  have HTX := Lib.hid (fun h h0 h1 h2 h3 h4 => rw_text (t := t) h h0 h1 h2 h3 h4)
  have HP3 : Hid ((parts t 59).length = 3 → parts t 59 = [pz t 0, pz t 1, pz t 2]) := Lib.hid (fun h => three_of h)
  have hpl := parts_len t 59
  have HCU := Lib.hid (split_any 59 (HM.out.below HB0.out (Nat.le_refl _)) hs)
  have HN0 : Hid (numsB (pz t 0) = true → numsR (pz t 0) = numsL (pz t 0)) := Lib.hid (fun h => by unfold numsR; rw [h]; rfl)
  have HR0 := Lib.hid (fun (w' : World) h h1 h2 h3 => implReadList_any (s := pz t 0) (w := w') h1 h2 h3 (hs0 h))
  have HN1 : Hid (numsB (pz t 1) = true → numsR (pz t 1) = numsL (pz t 1)) := Lib.hid (fun h => by unfold numsR; rw [h]; rfl)
  have HR1 := Lib.hid (fun (w' : World) h h1 h2 h3 => implReadList_any (s := pz t 1) (w := w') h1 h2 h3 (hs1 h))
  have HN2 : Hid (numsB (pz t 2) = true → numsR (pz t 2) = numsL (pz t 2)) := Lib.hid (fun h => by unfold numsR; rw [h]; rfl)
  have HR2 := Lib.hid (fun (w' : World) h h1 h2 h3 => implReadList_any (s := pz t 2) (w := w') h1 h2 h3 (hs2 h))
  rw [hrb, hrl, hrp, hrt, hrs]
  clear hrb hrl hrp hrt hrs hs0 hs1 hs2 hT hE hM
  generalize numsR (pz t 0) = y0 at HN0 HR0
  generalize numsL (pz t 0) = x0 at HN0 HYES HDEF HTX
  generalize numsB (pz t 0) = n0 at HN0 HR0 HDEF HTX
  generalize pz t 0 = p0 at HR0 HP3
  generalize numsR (pz t 1) = y1 at HN1 HR1
  generalize numsL (pz t 1) = x1 at HN1 HYES HDEF HTX
  generalize numsB (pz t 1) = n1 at HN1 HR1 HDEF HTX
  generalize pz t 1 = p1 at HR1 HP3
  generalize numsR (pz t 2) = y2 at HN2 HR2
  generalize numsL (pz t 2) = x2 at HN2 HYES HDEF HTX
  generalize numsB (pz t 2) = n2 at HN2 HR2 HDEF HTX
  generalize pz t 2 = p2 at HR2 HP3
  generalize rwB t = ok at HNO HYES HDEF
  generalize parts t 59 = P at HP3 hpl HCU HDEF HR0 HR1 HR2 HTX
  go_enter Tryd.func23, Tryd.ntmps23
  go_wp2_with fail
  refine HCU.out.mono ?_
  rintro e w1 ⟨pa, pc, rfl, hpo, hb1⟩
  have HB1 := Lib.hid (HB0.out.trans (hb1.mono HB0.out.size))
  have HI1 := Lib.hid (HI0.out.below hb1 (Nat.le_refl _))
  have HPO1 := Lib.hid hpo
  have hix := hpo.rd.idx und_ss siz_ss
  clear hb1 HCU HB0 HI0 hpo
  by_cases hl : P.length = 3
  · obtain rfl := HP3.out hl
    have hl3 : Hid ([p0, p1, p2].length = 3) := Lib.hid rfl
    simp only [List.length_cons, List.length_nil, Nat.zero_add, Nat.reduceAdd] at hix ⊢
    have HX0 : Hid (∀ w' : World, (Instr.indexAt 22 (.slice pa 3 pc) (.int .i64 0)).run Tryd.prog w' = .ok (.pointer (some (elt pa 0))) w') := Lib.hid (fun w' => hix w' 0 (by omega))
    have HX1 : Hid (∀ w' : World, (Instr.indexAt 22 (.slice pa 3 pc) (.int .i64 1)).run Tryd.prog w' = .ok (.pointer (some (elt pa 1))) w') := Lib.hid (fun w' => hix w' 1 (by omega))
    have HX2 : Hid (∀ w' : World, (Instr.indexAt 22 (.slice pa 3 pc) (.int .i64 2)).run Tryd.prog w' = .ok (.pointer (some (elt pa 2))) w') := Lib.hid (fun w' => hix w' 2 (by omega))
    clear hl hpl hix
    have hi := HX0.out
    have hc := HPO1.out.rd.cell 0 (by simp)
    simp only [List.getElem?_cons_zero, List.getElem?_cons_succ, Option.getD_some] at hc
    go_wp2_with fail
    refine (HR0.out _ hl3.out (HT.out.below HB1.out (Nat.le_refl _)) (HE.out.below HB1.out (Nat.le_refl _)) (HM.out.below HB1.out (Nat.le_refl _))).mono ?_
    rintro e w2 ⟨a0, c0, rfl, ho, hb⟩
    have HB2 := Lib.hid (HB1.out.trans (hb.mono HB1.out.size))
    have HI2 := Lib.hid (HI1.out.below hb (Nat.le_refl _))
    have HPO2 := Lib.hid (HPO1.out.below hb (Nat.le_refl _))
    have HO0_2 : Hid (Own (Value.int .i64) 2 w2 (w.heap.size + 1) a0 c0 y0) := Lib.hid (ho.mono HI1.out.lt)
    have HK0 := Lib.hid (fun p hp => (ho.blk p hp))
    clear hb ho hi hc HB1 HI1 HPO1  HX0 HR0
    have hi := HX1.out
    have hc := HPO2.out.rd.cell 1 (by simp)
    simp only [List.getElem?_cons_zero, List.getElem?_cons_succ, Option.getD_some] at hc
    go_wp2_with fail
    refine (HR1.out _ hl3.out (HT.out.below HB2.out (Nat.le_refl _)) (HE.out.below HB2.out (Nat.le_refl _)) (HM.out.below HB2.out (Nat.le_refl _))).mono ?_
    rintro e w3 ⟨a1, c1, rfl, ho, hb⟩
    have HB3 := Lib.hid (HB2.out.trans (hb.mono HB2.out.size))
    have HI3 := Lib.hid (HI2.out.below hb (Nat.le_refl _))
    have HPO3 := Lib.hid (HPO2.out.below hb (Nat.le_refl _))
    have HO0_3 := Lib.hid (HO0_2.out.below hb (Nat.le_refl _))
    have HO1_3 : Hid (Own (Value.int .i64) 2 w3 (w.heap.size + 1) a1 c1 y1) := Lib.hid (ho.mono HI2.out.lt)
    have HK1 := Lib.hid (fun p hp => (ho.blk p hp))
    clear hb ho hi hc HB2 HI2 HPO2 HO0_2 HX1 HR1
    have hi := HX2.out
    have hc := HPO3.out.rd.cell 2 (by simp)
    simp only [List.getElem?_cons_zero, List.getElem?_cons_succ, Option.getD_some] at hc
    go_wp2_with fail
    refine (HR2.out _ hl3.out (HT.out.below HB3.out (Nat.le_refl _)) (HE.out.below HB3.out (Nat.le_refl _)) (HM.out.below HB3.out (Nat.le_refl _))).mono ?_
    rintro e w4 ⟨a2, c2, rfl, ho, hb⟩
    have HB4 := Lib.hid (HB3.out.trans (hb.mono HB3.out.size))
    have HI4 := Lib.hid (HI3.out.below hb (Nat.le_refl _))
    have HPO4 := Lib.hid (HPO3.out.below hb (Nat.le_refl _))
    have HO0_4 := Lib.hid (HO0_3.out.below hb (Nat.le_refl _))
    have HO1_4 := Lib.hid (HO1_3.out.below hb (Nat.le_refl _))
    have HO2_4 : Hid (Own (Value.int .i64) 2 w4 (w.heap.size + 1) a2 c2 y2) := Lib.hid (ho.mono HI3.out.lt)
    have HK2 := Lib.hid (fun p hp => (ho.blk p hp))
    clear hb ho hi hc HB3 HI3 HPO3 HO0_3 HO1_3 HX2 HR2
    have HSEP : Hid (Sep a1 a2) := Lib.hid (fun p q hp hq e => by have h1 := (HK1.out p hp).2; have h2 := (HK2.out q hq).1; omega)
    clear HPO4 HK0 HK1 HK2
    have r0 := HI4.out.cell (i := 0) (v := .int .i64 0) rfl
    have r1 := HI4.out.cell (i := 1) (v := .int .i64 0) rfl
    have r2 := HI4.out.cell (i := 2) (v := .slice none 0 0) rfl
    have r3 := HI4.out.cell (i := 3) (v := .slice none 0 0) rfl
    have q0 := HI4.out.free 0
    have q1 := HI4.out.free 1
    have q2 := HI4.out.free 2
    have q3 := HI4.out.free 3
    cases n0 with
    | false =>
      obtain ⟨rfl, rfl, rfl, rfl, rfl⟩ := HNO.out (by rw [HDEF.out]; simp)
      clear HDEF HYES HN0 HN1 HN2 HTX
      go_wp2
      refine bodyPost_ret (v := .tuple #[winV 0 0 none 0 0 none 0 0, .bool false]) (by simp [results, Tryd.results23, go_sem, r0, r1, r2, r3]) rfl (retWinX_no ((((HB4.out.setCell (by simp) _).setCell (by simp) _).setCell (by simp) _).setCell (by simp) _))
    | true =>
    obtain rfl := HN0.out rfl
    cases n1 with
    | false =>
      obtain ⟨rfl, rfl, rfl, rfl, rfl⟩ := HNO.out (by rw [HDEF.out]; simp)
      clear HDEF HYES HN0 HN1 HN2 HTX
      go_wp2
      refine bodyPost_ret (v := .tuple #[winV 0 0 none 0 0 none 0 0, .bool false]) (by simp [results, Tryd.results23, go_sem, r0, r1, r2, r3]) rfl (retWinX_no ((((HB4.out.setCell (by simp) _).setCell (by simp) _).setCell (by simp) _).setCell (by simp) _))
    | true =>
    obtain rfl := HN1.out rfl
    cases n2 with
    | false =>
      obtain ⟨rfl, rfl, rfl, rfl, rfl⟩ := HNO.out (by rw [HDEF.out]; simp)
      clear HDEF HYES HN0 HN1 HN2 HTX
      go_wp2
      refine bodyPost_ret (v := .tuple #[winV 0 0 none 0 0 none 0 0, .bool false]) (by simp [results, Tryd.results23, go_sem, r0, r1, r2, r3]) rfl (retWinX_no ((((HB4.out.setCell (by simp) _).setCell (by simp) _).setCell (by simp) _).setCell (by simp) _))
    | true =>
    obtain rfl := HN2.out rfl
    by_cases hl2 : y0.length = 2
    · have h2 := two_ofW hl2
      obtain ⟨L, hL⟩ : ∃ R, at0 y0 0 = R := ⟨_, rfl⟩
      obtain ⟨Q, hQ⟩ : ∃ S, at0 y0 1 = S := ⟨_, rfl⟩
      have HDEF2 : Hid (ok = winB L Q y1 y2) := Lib.hid (by rw [HDEF.out, decide_eq_true hl3.out, decide_eq_true hl2, hL, hQ]; simp)
      have HYES2 : Hid (ok = true → rb = true ∧ rl = L ∧ rp = Q ∧ rt = y1 ∧ rs = y2) := Lib.hid (by rw [← hL, ← hQ]; exact HYES.out)
      have HTX2 : Hid (winB L Q y1 y2 = true → winTV L Q y1 y2 = true ∧ winT L Q y1 y2 = t) := Lib.hid (by rw [← hL, ← hQ]; exact fun h4 => HTX.out hl3.out rfl rfl rfl hl2 h4)
      rw [hL, hQ] at h2
      subst h2
      have hcap := HO0_4.out.rd
      have hix := hcap.idx und_is siz_is
      have hc0 := hcap.cell 0 (by simp)
      have hc1 := hcap.cell 1 (by simp)
      simp only [List.getElem?_cons_zero, List.getElem?_cons_succ, Option.getD_some] at hc0 hc1
      simp only [List.length_cons, List.length_nil, Nat.zero_add, Nat.reduceAdd] at hix ⊢
      have hj0 : ∀ w' : World, (Instr.indexAt 35 (.slice a0 2 c0) (.int .i64 0)).run Tryd.prog w' = .ok (.pointer (some (elt a0 0))) w' := fun w' => hix w' 0 (by omega)
      have hj1 : ∀ w' : World, (Instr.indexAt 35 (.slice a0 2 c0) (.int .i64 1)).run Tryd.prog w' = .ok (.pointer (some (elt a0 1))) w' := fun w' => hix w' 1 (by omega)
      have HB5 : Hid (Below w.heap.size w (w4.alloc (.cells #[.int .i64 L, .int .i64 Q, .slice a1 y1.length c1, .slice a2 y2.length c2] 43)).drew) := Lib.hid ((HB4.out.alloc HB4.out.size (.cells #[.int .i64 L, .int .i64 Q, .slice a1 y1.length c1, .slice a2 y2.length c2] 43)).trans (below_of_drewN (w4.alloc (.cells #[.int .i64 L, .int .i64 Q, .slice a1 y1.length c1, .slice a2 y2.length c2] 43)) 1 _))
      have HI5 : Hid (Blk ((w4.alloc (.cells #[.int .i64 L, .int .i64 Q, .slice a1 y1.length c1, .slice a2 y2.length c2] 43)).drew) w.heap.size #[.int .i64 0, .int .i64 0, .slice none 0 0, .slice none 0 0] 43) := Lib.hid ((HI4.out.alloc (.cells #[.int .i64 L, .int .i64 Q, .slice a1 y1.length c1, .slice a2 y2.length c2] 43)).drew)
      have HJ5 : Hid (Blk ((w4.alloc (.cells #[.int .i64 L, .int .i64 Q, .slice a1 y1.length c1, .slice a2 y2.length c2] 43)).drew) w4.heap.size #[.int .i64 L, .int .i64 Q, .slice a1 y1.length c1, .slice a2 y2.length c2] 43) := Lib.hid ((Blk.new w4 #[.int .i64 L, .int .i64 Q, .slice a1 y1.length c1, .slice a2 y2.length c2] 43).drew)
      have HO1_5 : Hid (Own (Value.int .i64) 2 (w4.alloc (.cells #[.int .i64 L, .int .i64 Q, .slice a1 y1.length c1, .slice a2 y2.length c2] 43)).drew (w.heap.size + 1) a1 c1 y1) := Lib.hid ((HO1_4.out.alloc (.cells #[.int .i64 L, .int .i64 Q, .slice a1 y1.length c1, .slice a2 y2.length c2] 43)).drew)
      have HO2_5 : Hid (Own (Value.int .i64) 2 (w4.alloc (.cells #[.int .i64 L, .int .i64 Q, .slice a1 y1.length c1, .slice a2 y2.length c2] 43)).drew (w.heap.size + 1) a2 c2 y2) := Lib.hid ((HO2_4.out.alloc (.cells #[.int .i64 L, .int .i64 Q, .slice a1 y1.length c1, .slice a2 y2.length c2] 43)).drew)
      clear hcap hix hl2 HDEF HYES HN0 HN1 HN2 HTX hL hQ HB4 HO0_4 HO1_4 HO2_4 r0 r1 r2 r3 q0 q1 q2 q3 HI4
      go_wp2_with fail
      go_region_held3 (fun w' => w'.cell? (elt a0 0) = some (.int .i64 L) ∧ w'.cell? (elt a0 1) = some (.int .i64 Q)) ((refine ⟨?_, ?_⟩ <;> (repeat (first | assumption | refine k_drew ?_ | refine k_alloc ?_ | refine k_set (by simp; omega) ?_)))) (fail)
      obtain ⟨B, hB⟩ : ∃ B, w4.heap.size = B := ⟨_, rfl⟩
      rw [hB] at HJ5 ⊢
      generalize (w4.alloc (.cells #[.int .i64 L, .int .i64 Q, .slice a1 y1.length c1, .slice a2 y2.length c2] 43)).drew = w5 at HB5 HI5 HJ5 HO1_5 HO2_5 ⊢
      clear hB hj0 hj1 hc0 hc1
      have j0 := HJ5.out.cell (i := 0) (v := .int .i64 L) rfl
      have j1 := HJ5.out.cell (i := 1) (v := .int .i64 Q) rfl
      have j2 := HJ5.out.cell (i := 2) (v := .slice a1 y1.length c1) rfl
      have j3 := HJ5.out.cell (i := 3) (v := .slice a2 y2.length c2) rfl
      go_wp2_with fail
      refine (windowText_any (HT.out.below HB5.out (Nat.le_refl _)) HO1_5.out.rd HO2_5.out.rd).mono ?_
      rintro e w6 ⟨rfl, hb⟩
      have HB6 := Lib.hid (HB5.out.trans (hb.mono HB5.out.size))
      have HI6 := Lib.hid (HI5.out.below hb (Nat.le_refl _))
      have HJ6 := Lib.hid (HJ5.out.below hb (Nat.le_refl _))
      have HO1_6 := Lib.hid (HO1_5.out.below hb (Nat.le_refl _))
      have HO2_6 := Lib.hid (HO2_5.out.below hb (Nat.le_refl _))
      clear hb j0 j1 j2 j3 HB5 HI5 HJ5 HO1_5 HO2_5
      have j0 := HJ6.out.cell (i := 0) (v := .int .i64 L) rfl
      have j1 := HJ6.out.cell (i := 1) (v := .int .i64 Q) rfl
      have j2 := HJ6.out.cell (i := 2) (v := .slice a1 y1.length c1) rfl
      have j3 := HJ6.out.cell (i := 3) (v := .slice a2 y2.length c2) rfl
      have r0 := HI6.out.cell (i := 0) (v := .int .i64 0) rfl
      have r1 := HI6.out.cell (i := 1) (v := .int .i64 0) rfl
      have r2 := HI6.out.cell (i := 2) (v := .slice none 0 0) rfl
      have r3 := HI6.out.cell (i := 3) (v := .slice none 0 0) rfl
      have q0 := HI6.out.free 0
      have q1 := HI6.out.free 1
      have q2 := HI6.out.free 2
      have q3 := HI6.out.free 3
      cases h4 : winB L Q y1 y2 with
      | false =>
        obtain ⟨rfl, rfl, rfl, rfl, rfl⟩ := HNO.out (by rw [HDEF2.out, h4])
        have hv : winTV L Q y1 y2 = false := by unfold winTV; rw [h4]; simp
        rw [hv]
        generalize winT L Q y1 y2 = tx
        clear h4 hv HTX2 HDEF2 HYES2
        go_wp2
        refine bodyPost_ret (v := .tuple #[winV 0 0 none 0 0 none 0 0, .bool false]) (by simp [results, Tryd.results23, go_sem, r0, r1, r2, r3]) rfl (retWinX_no ((((HB6.out.setCell (by simp) _).setCell (by simp) _).setCell (by simp) _).setCell (by simp) _))
      | true =>
        obtain ⟨hv, htx⟩ := HTX2.out h4
        obtain ⟨rfl, h5, h6, h7, h8⟩ := HYES2.out (by rw [HDEF2.out, h4])
        rw [hv, htx]
        have hnt : (t.toList == t.toList) = true := by simp
        have hnt2 : (t.toList != t.toList) = false := by simp
        clear hv htx h4 HTX2 HDEF2 HYES2 HNO
        subst h5; subst h6; subst h7; subst h8
        go_wp2
        refine bodyPost_ret (v := .tuple #[winV rl rp a1 rt.length c1 a2 rs.length c2, .bool true]) (by simp [results, Tryd.results23, go_sem, r0, r1, r2, r3]) rfl ⟨a1, c1, a2, c2, rfl, ?_, ?_, HSEP.out, (((HB6.out.setCell (by simp) _).setCell (by simp) _).setCell (by simp) _).setCell (by simp) _⟩
        · refine Own.mono (base := w.heap.size + 1) ?_ (by omega)
          refine Own.setFar (Own.setFar (Own.setFar (Own.setFar HO1_6.out _ _ ?_) _ _ ?_) _ _ ?_) _ _ ?_
          all_goals simp
        · refine Own.mono (base := w.heap.size + 1) ?_ (by omega)
          refine Own.setFar (Own.setFar (Own.setFar (Own.setFar HO2_6.out _ _ ?_) _ _ ?_) _ _ ?_) _ _ ?_
          all_goals simp
    · have hln : ((y0.length : Int) == 2) = false := beq_eq_false_iff_ne.2 (by omega)
      have hln2 : ((y0.length : Int) != 2) = true := by show (!((y0.length : Int) == 2)) = true; rw [hln]; rfl
      obtain ⟨rfl, rfl, rfl, rfl, rfl⟩ := HNO.out (by rw [HDEF.out, decide_eq_false hl2]; simp)
      clear HDEF HYES HN0 HN1 HN2 HTX
      go_wp2
      refine bodyPost_ret (v := .tuple #[winV 0 0 none 0 0 none 0 0, .bool false]) (by simp [results, Tryd.results23, go_sem, r0, r1, r2, r3]) rfl (retWinX_no ((((HB4.out.setCell (by simp) _).setCell (by simp) _).setCell (by simp) _).setCell (by simp) _))
  · have hln : ((P.length : Int) == 3) = false := beq_eq_false_iff_ne.2 (by omega)
    have hln2 : ((P.length : Int) != 3) = true := by show (!((P.length : Int) == 3)) = true; rw [hln]; rfl
    obtain ⟨rfl, rfl, rfl, rfl, rfl⟩ := HNO.out (by rw [HDEF.out, decide_eq_false hl]; simp)
    have r0 := HI1.out.cell (i := 0) (v := .int .i64 0) rfl
    have r1 := HI1.out.cell (i := 1) (v := .int .i64 0) rfl
    have r2 := HI1.out.cell (i := 2) (v := .slice none 0 0) rfl
    have r3 := HI1.out.cell (i := 3) (v := .slice none 0 0) rfl
    have q0 := HI1.out.free 0
    have q1 := HI1.out.free 1
    have q2 := HI1.out.free 2
    have q3 := HI1.out.free 3
    clear hix HDEF HYES HN0 HN1 HN2 HR0 HR1 HR2 HTX
    go_wp2
    refine bodyPost_ret (v := .tuple #[winV 0 0 none 0 0 none 0 0, .bool false]) (by simp [results, Tryd.results23, go_sem, r0, r1, r2, r3]) rfl (retWinX_no ((((HB1.out.setCell (by simp) _).setCell (by simp) _).setCell (by simp) _).setCell (by simp) _))

set_option maxRecDepth 20000 in
set_option maxHeartbeats 8000000 in
theorem specReadWindow_any {t : ByteArray} {w : World} (hs : t.size ≤ 1048576) :
    Calls Tryd.prog 43 #[.string t] w (RetWinX w (rwL t) (rwP t) (rwT t) (rwS t) (rwB t)) := by
  have HB0 := Lib.hid ((Below.refl w.heap.size w).alloc (Nat.le_refl _) (.cells #[.int .i64 0, .int .i64 0, .slice none 0 0, .slice none 0 0] 43))
  have HI0 : Hid (Blk (w.alloc (.cells #[.int .i64 0, .int .i64 0, .slice none 0 0, .slice none 0 0] 43)) w.heap.size #[.int .i64 0, .int .i64 0, .slice none 0 0, .slice none 0 0] 43) := Lib.hid (Blk.new _ _ _)
  have hs0 : (parts t 59).length = 3 → (pz t 0).size ≤ 1048576 := fun h => by
    have hm : pz t 0 ∈ parts t 59 := by rw [pz, List.getElem?_eq_getElem (by omega)]; exact List.getElem_mem _
    exact Nat.le_trans (mem_size 59 hm) hs
  have hs1 : (parts t 59).length = 3 → (pz t 1).size ≤ 1048576 := fun h => by
    have hm : pz t 1 ∈ parts t 59 := by rw [pz, List.getElem?_eq_getElem (by omega)]; exact List.getElem_mem _
    exact Nat.le_trans (mem_size 59 hm) hs
  have hs2 : (parts t 59).length = 3 → (pz t 2).size ≤ 1048576 := fun h => by
    have hm : pz t 2 ∈ parts t 59 := by rw [pz, List.getElem?_eq_getElem (by omega)]; exact List.getElem_mem _
    exact Nat.le_trans (mem_size 59 hm) hs
  obtain ⟨rb, hrb⟩ : ∃ b, rwB t = b := ⟨_, rfl⟩
  obtain ⟨rl, hrl⟩ : ∃ b, rwL t = b := ⟨_, rfl⟩
  obtain ⟨rp, hrp⟩ : ∃ b, rwP t = b := ⟨_, rfl⟩
  obtain ⟨rt, hrt⟩ : ∃ b, rwT t = b := ⟨_, rfl⟩
  obtain ⟨rs, hrs⟩ : ∃ b, rwS t = b := ⟨_, rfl⟩
  have HNO : Hid (rwB t = false → rb = false ∧ rl = 0 ∧ rp = 0 ∧ rt = [] ∧ rs = []) := Lib.hid (fun h => ⟨hrb ▸ h, hrl ▸ (rw_no h).1, hrp ▸ (rw_no h).2.1, hrt ▸ (rw_no h).2.2.1, hrs ▸ (rw_no h).2.2.2⟩)
  have HYES : Hid (rwB t = true → rb = true ∧ rl = at0 (numsL (pz t 0)) 0 ∧ rp = at0 (numsL (pz t 0)) 1 ∧ rt = numsL (pz t 1) ∧ rs = numsL (pz t 2)) := Lib.hid (fun h => ⟨hrb ▸ h, hrl ▸ (rw_yes h).1, hrp ▸ (rw_yes h).2.1, hrt ▸ (rw_yes h).2.2.1, hrs ▸ (rw_yes h).2.2.2⟩)
  have HDEF : Hid (rwB t = (decide ((parts t 59).length = 3) && numsB (pz t 0) && numsB (pz t 1) && numsB (pz t 2) && decide ((numsL (pz t 0)).length = 2) && winB (at0 (numsL (pz t 0)) 0) (at0 (numsL (pz t 0)) 1) (numsL (pz t 1)) (numsL (pz t 2)))) := Lib.hid rfl
  have HP3 : Hid ((parts t 59).length = 3 → parts t 59 = [pz t 0, pz t 1, pz t 2]) := Lib.hid (fun h => three_of h)
  have hpl := parts_len t 59
  have HCU := Lib.hid (l01Cut_any (s := t) (m := 59) (mi := 59) (w := w.alloc (.cells #[.int .i64 0, .int .i64 0, .slice none 0 0, .slice none 0 0] 43)) hs rfl)
  have HN0 : Hid (numsB (pz t 0) = true → numsR (pz t 0) = numsL (pz t 0)) := Lib.hid (fun h => by unfold numsR; rw [h]; rfl)
  have HR0 := Lib.hid (fun (w' : World) h => l01Numbers_any (s := pz t 0) (w := w') (hs0 h))
  have HN1 : Hid (numsB (pz t 1) = true → numsR (pz t 1) = numsL (pz t 1)) := Lib.hid (fun h => by unfold numsR; rw [h]; rfl)
  have HR1 := Lib.hid (fun (w' : World) h => l01Numbers_any (s := pz t 1) (w := w') (hs1 h))
  have HN2 : Hid (numsB (pz t 2) = true → numsR (pz t 2) = numsL (pz t 2)) := Lib.hid (fun h => by unfold numsR; rw [h]; rfl)
  have HR2 := Lib.hid (fun (w' : World) h => l01Numbers_any (s := pz t 2) (w := w') (hs2 h))
  rw [hrb, hrl, hrp, hrt, hrs]
  clear hrb hrl hrp hrt hrs hs0 hs1 hs2
  generalize numsR (pz t 0) = y0 at HN0 HR0
  generalize numsL (pz t 0) = x0 at HN0 HYES HDEF
  generalize numsB (pz t 0) = n0 at HN0 HR0 HDEF
  generalize pz t 0 = p0 at HR0 HP3
  generalize numsR (pz t 1) = y1 at HN1 HR1
  generalize numsL (pz t 1) = x1 at HN1 HYES HDEF
  generalize numsB (pz t 1) = n1 at HN1 HR1 HDEF
  generalize pz t 1 = p1 at HR1 HP3
  generalize numsR (pz t 2) = y2 at HN2 HR2
  generalize numsL (pz t 2) = x2 at HN2 HYES HDEF
  generalize numsB (pz t 2) = n2 at HN2 HR2 HDEF
  generalize pz t 2 = p2 at HR2 HP3
  generalize rwB t = ok at HNO HYES HDEF
  generalize parts t 59 = P at HP3 hpl HCU HDEF HR0 HR1 HR2
  go_enter Tryd.func43, Tryd.ntmps43
  go_wp2_with fail
  refine HCU.out.mono ?_
  rintro e w1 ⟨pa, pc, rfl, hpo, hb1⟩
  have HB1 := Lib.hid (HB0.out.trans (hb1.mono HB0.out.size))
  have HI1 := Lib.hid (HI0.out.below hb1 (Nat.le_refl _))
  have HPO1 := Lib.hid hpo
  have hix := hpo.rd.idx und_ss siz_ss
  clear hb1 HCU HB0 HI0 hpo
  by_cases hl : P.length = 3
  · obtain rfl := HP3.out hl
    have hl3 : Hid ([p0, p1, p2].length = 3) := Lib.hid rfl
    simp only [List.length_cons, List.length_nil, Nat.zero_add, Nat.reduceAdd] at hix ⊢
    have HX0 : Hid (∀ w' : World, (Instr.indexAt 22 (.slice pa 3 pc) (.int .i64 0)).run Tryd.prog w' = .ok (.pointer (some (elt pa 0))) w') := Lib.hid (fun w' => hix w' 0 (by omega))
    have HX1 : Hid (∀ w' : World, (Instr.indexAt 22 (.slice pa 3 pc) (.int .i64 1)).run Tryd.prog w' = .ok (.pointer (some (elt pa 1))) w') := Lib.hid (fun w' => hix w' 1 (by omega))
    have HX2 : Hid (∀ w' : World, (Instr.indexAt 22 (.slice pa 3 pc) (.int .i64 2)).run Tryd.prog w' = .ok (.pointer (some (elt pa 2))) w') := Lib.hid (fun w' => hix w' 2 (by omega))
    clear hl hpl hix
    have hi := HX0.out
    have hc := HPO1.out.rd.cell 0 (by simp)
    simp only [List.getElem?_cons_zero, List.getElem?_cons_succ, Option.getD_some] at hc
    go_wp2_with fail
    refine (HR0.out _ hl3.out).mono ?_
    rintro e w2 ⟨a0, c0, rfl, ho, hb⟩
    have HB2 := Lib.hid (HB1.out.trans (hb.mono HB1.out.size))
    have HI2 := Lib.hid (HI1.out.below hb (Nat.le_refl _))
    have HPO2 := Lib.hid (HPO1.out.below hb (Nat.le_refl _))
    have HO0_2 : Hid (Own (Value.int .i64) 2 w2 (w.heap.size + 1) a0 c0 y0) := Lib.hid (ho.mono HI1.out.lt)
    have HK0 := Lib.hid (fun p hp => (ho.blk p hp))
    clear hb ho hi hc HB1 HI1 HPO1  HX0 HR0
    have hi := HX1.out
    have hc := HPO2.out.rd.cell 1 (by simp)
    simp only [List.getElem?_cons_zero, List.getElem?_cons_succ, Option.getD_some] at hc
    go_wp2_with fail
    refine (HR1.out _ hl3.out).mono ?_
    rintro e w3 ⟨a1, c1, rfl, ho, hb⟩
    have HB3 := Lib.hid (HB2.out.trans (hb.mono HB2.out.size))
    have HI3 := Lib.hid (HI2.out.below hb (Nat.le_refl _))
    have HPO3 := Lib.hid (HPO2.out.below hb (Nat.le_refl _))
    have HO0_3 := Lib.hid (HO0_2.out.below hb (Nat.le_refl _))
    have HO1_3 : Hid (Own (Value.int .i64) 2 w3 (w.heap.size + 1) a1 c1 y1) := Lib.hid (ho.mono HI2.out.lt)
    have HK1 := Lib.hid (fun p hp => (ho.blk p hp))
    clear hb ho hi hc HB2 HI2 HPO2 HO0_2 HX1 HR1
    have hi := HX2.out
    have hc := HPO3.out.rd.cell 2 (by simp)
    simp only [List.getElem?_cons_zero, List.getElem?_cons_succ, Option.getD_some] at hc
    go_wp2_with fail
    refine (HR2.out _ hl3.out).mono ?_
    rintro e w4 ⟨a2, c2, rfl, ho, hb⟩
    have HB4 := Lib.hid (HB3.out.trans (hb.mono HB3.out.size))
    have HI4 := Lib.hid (HI3.out.below hb (Nat.le_refl _))
    have HPO4 := Lib.hid (HPO3.out.below hb (Nat.le_refl _))
    have HO0_4 := Lib.hid (HO0_3.out.below hb (Nat.le_refl _))
    have HO1_4 := Lib.hid (HO1_3.out.below hb (Nat.le_refl _))
    have HO2_4 : Hid (Own (Value.int .i64) 2 w4 (w.heap.size + 1) a2 c2 y2) := Lib.hid (ho.mono HI3.out.lt)
    have HK2 := Lib.hid (fun p hp => (ho.blk p hp))
    clear hb ho hi hc HB3 HI3 HPO3 HO0_3 HO1_3 HX2 HR2
    have HSEP : Hid (Sep a1 a2) := Lib.hid (fun p q hp hq e => by have h1 := (HK1.out p hp).2; have h2 := (HK2.out q hq).1; omega)
    clear HPO4 HK0 HK1 HK2
    have r0 := HI4.out.cell (i := 0) (v := .int .i64 0) rfl
    have r1 := HI4.out.cell (i := 1) (v := .int .i64 0) rfl
    have r2 := HI4.out.cell (i := 2) (v := .slice none 0 0) rfl
    have r3 := HI4.out.cell (i := 3) (v := .slice none 0 0) rfl
    have q0 := HI4.out.free 0
    have q1 := HI4.out.free 1
    have q2 := HI4.out.free 2
    have q3 := HI4.out.free 3
    cases n0 with
    | false =>
      obtain ⟨rfl, rfl, rfl, rfl, rfl⟩ := HNO.out (by rw [HDEF.out]; simp)
      clear HDEF HYES HN0 HN1 HN2
      go_wp2
      refine bodyPost_ret (v := .tuple #[winV 0 0 none 0 0 none 0 0, .bool false]) (by simp [results, Tryd.results43, go_sem, r0, r1, r2, r3]) rfl (retWinX_no ((((HB4.out.setCell (by simp) _).setCell (by simp) _).setCell (by simp) _).setCell (by simp) _))
    | true =>
    obtain rfl := HN0.out rfl
    cases n1 with
    | false =>
      obtain ⟨rfl, rfl, rfl, rfl, rfl⟩ := HNO.out (by rw [HDEF.out]; simp)
      clear HDEF HYES HN0 HN1 HN2
      go_wp2
      refine bodyPost_ret (v := .tuple #[winV 0 0 none 0 0 none 0 0, .bool false]) (by simp [results, Tryd.results43, go_sem, r0, r1, r2, r3]) rfl (retWinX_no ((((HB4.out.setCell (by simp) _).setCell (by simp) _).setCell (by simp) _).setCell (by simp) _))
    | true =>
    obtain rfl := HN1.out rfl
    cases n2 with
    | false =>
      obtain ⟨rfl, rfl, rfl, rfl, rfl⟩ := HNO.out (by rw [HDEF.out]; simp)
      clear HDEF HYES HN0 HN1 HN2
      go_wp2
      refine bodyPost_ret (v := .tuple #[winV 0 0 none 0 0 none 0 0, .bool false]) (by simp [results, Tryd.results43, go_sem, r0, r1, r2, r3]) rfl (retWinX_no ((((HB4.out.setCell (by simp) _).setCell (by simp) _).setCell (by simp) _).setCell (by simp) _))
    | true =>
    obtain rfl := HN2.out rfl
    by_cases hl2 : y0.length = 2
    · have h2 := two_ofW hl2
      obtain ⟨L, hL⟩ : ∃ R, at0 y0 0 = R := ⟨_, rfl⟩
      obtain ⟨Q, hQ⟩ : ∃ S, at0 y0 1 = S := ⟨_, rfl⟩
      have HDEF2 : Hid (ok = winB L Q y1 y2) := Lib.hid (by rw [HDEF.out, decide_eq_true hl3.out, decide_eq_true hl2, hL, hQ]; simp)
      have HYES2 : Hid (ok = true → rb = true ∧ rl = L ∧ rp = Q ∧ rt = y1 ∧ rs = y2) := Lib.hid (by rw [← hL, ← hQ]; exact HYES.out)
      rw [hL, hQ] at h2
      subst h2
      have hcap := HO0_4.out.rd
      have hix := hcap.idx und_is siz_is
      have hc0 := hcap.cell 0 (by simp)
      have hc1 := hcap.cell 1 (by simp)
      simp only [List.getElem?_cons_zero, List.getElem?_cons_succ, Option.getD_some] at hc0 hc1
      simp only [List.length_cons, List.length_nil, Nat.zero_add, Nat.reduceAdd] at hix ⊢
      have hj0 : ∀ w' : World, (Instr.indexAt 35 (.slice a0 2 c0) (.int .i64 0)).run Tryd.prog w' = .ok (.pointer (some (elt a0 0))) w' := fun w' => hix w' 0 (by omega)
      have hj1 : ∀ w' : World, (Instr.indexAt 35 (.slice a0 2 c0) (.int .i64 1)).run Tryd.prog w' = .ok (.pointer (some (elt a0 1))) w' := fun w' => hix w' 1 (by omega)
      have HB5 : Hid (Below w.heap.size w (w4.alloc (.cells #[.int .i64 L, .int .i64 Q, .slice a1 y1.length c1, .slice a2 y2.length c2] 43)).drew) := Lib.hid ((HB4.out.alloc HB4.out.size (.cells #[.int .i64 L, .int .i64 Q, .slice a1 y1.length c1, .slice a2 y2.length c2] 43)).trans (below_of_drewN (w4.alloc (.cells #[.int .i64 L, .int .i64 Q, .slice a1 y1.length c1, .slice a2 y2.length c2] 43)) 1 _))
      have HI5 : Hid (Blk ((w4.alloc (.cells #[.int .i64 L, .int .i64 Q, .slice a1 y1.length c1, .slice a2 y2.length c2] 43)).drew) w.heap.size #[.int .i64 0, .int .i64 0, .slice none 0 0, .slice none 0 0] 43) := Lib.hid ((HI4.out.alloc (.cells #[.int .i64 L, .int .i64 Q, .slice a1 y1.length c1, .slice a2 y2.length c2] 43)).drew)
      have HJ5 : Hid (Blk ((w4.alloc (.cells #[.int .i64 L, .int .i64 Q, .slice a1 y1.length c1, .slice a2 y2.length c2] 43)).drew) w4.heap.size #[.int .i64 L, .int .i64 Q, .slice a1 y1.length c1, .slice a2 y2.length c2] 43) := Lib.hid ((Blk.new w4 #[.int .i64 L, .int .i64 Q, .slice a1 y1.length c1, .slice a2 y2.length c2] 43).drew)
      have HO1_5 : Hid (Own (Value.int .i64) 2 (w4.alloc (.cells #[.int .i64 L, .int .i64 Q, .slice a1 y1.length c1, .slice a2 y2.length c2] 43)).drew (w.heap.size + 1) a1 c1 y1) := Lib.hid ((HO1_4.out.alloc (.cells #[.int .i64 L, .int .i64 Q, .slice a1 y1.length c1, .slice a2 y2.length c2] 43)).drew)
      have HO2_5 : Hid (Own (Value.int .i64) 2 (w4.alloc (.cells #[.int .i64 L, .int .i64 Q, .slice a1 y1.length c1, .slice a2 y2.length c2] 43)).drew (w.heap.size + 1) a2 c2 y2) := Lib.hid ((HO2_4.out.alloc (.cells #[.int .i64 L, .int .i64 Q, .slice a1 y1.length c1, .slice a2 y2.length c2] 43)).drew)
      clear hcap hix hl2 HDEF HYES HN0 HN1 HN2 hL hQ HB4 HO0_4 HO1_4 HO2_4 r0 r1 r2 r3 q0 q1 q2 q3 HI4
      go_wp2_with fail
      go_region_held3 (fun w' => w'.cell? (elt a0 0) = some (.int .i64 L) ∧ w'.cell? (elt a0 1) = some (.int .i64 Q)) ((refine ⟨?_, ?_⟩ <;> (repeat (first | assumption | refine k_drew ?_ | refine k_alloc ?_ | refine k_set (by simp; omega) ?_)))) (fail)
      obtain ⟨B, hB⟩ : ∃ B, w4.heap.size = B := ⟨_, rfl⟩
      rw [hB] at HJ5 ⊢
      generalize (w4.alloc (.cells #[.int .i64 L, .int .i64 Q, .slice a1 y1.length c1, .slice a2 y2.length c2] 43)).drew = w5 at HB5 HI5 HJ5 HO1_5 HO2_5 ⊢
      clear hB hj0 hj1 hc0 hc1
      have j0 := HJ5.out.cell (i := 0) (v := .int .i64 L) rfl
      have j1 := HJ5.out.cell (i := 1) (v := .int .i64 Q) rfl
      have j2 := HJ5.out.cell (i := 2) (v := .slice a1 y1.length c1) rfl
      have j3 := HJ5.out.cell (i := 3) (v := .slice a2 y2.length c2) rfl
      have HW := Lib.hid (l06Is_any (b := B) (o := 0) (L := L) (P := Q) (w := w5) ⟨j0, j1, j2, j3, HJ5.out.lt⟩ HO1_5.out.rd HO2_5.out.rd)
      go_wp2_with fail
      refine HW.out.mono ?_
      rintro e w6 ⟨rfl, nq, rfl⟩
      have hb := below_of_drewN w5 nq w5.heap.size
      have HB6 := Lib.hid (HB5.out.trans (hb.mono HB5.out.size))
      have HI6 := Lib.hid (HI5.out.below hb (Nat.le_refl _))
      have HJ6 := Lib.hid (HJ5.out.below hb (Nat.le_refl _))
      have HO1_6 := Lib.hid (HO1_5.out.below hb (Nat.le_refl _))
      have HO2_6 := Lib.hid (HO2_5.out.below hb (Nat.le_refl _))
      clear hb j0 j1 j2 j3 HB5 HI5 HJ5 HO1_5 HO2_5 HW
      generalize w5.drewN nq = w6 at HB6 HI6 HJ6 HO1_6 HO2_6 ⊢
      have j0 := HJ6.out.cell (i := 0) (v := .int .i64 L) rfl
      have j1 := HJ6.out.cell (i := 1) (v := .int .i64 Q) rfl
      have j2 := HJ6.out.cell (i := 2) (v := .slice a1 y1.length c1) rfl
      have j3 := HJ6.out.cell (i := 3) (v := .slice a2 y2.length c2) rfl
      have r0 := HI6.out.cell (i := 0) (v := .int .i64 0) rfl
      have r1 := HI6.out.cell (i := 1) (v := .int .i64 0) rfl
      have r2 := HI6.out.cell (i := 2) (v := .slice none 0 0) rfl
      have r3 := HI6.out.cell (i := 3) (v := .slice none 0 0) rfl
      have q0 := HI6.out.free 0
      have q1 := HI6.out.free 1
      have q2 := HI6.out.free 2
      have q3 := HI6.out.free 3
      cases h4 : winB L Q y1 y2 with
      | false =>
        obtain ⟨rfl, rfl, rfl, rfl, rfl⟩ := HNO.out (by rw [HDEF2.out, h4])
        clear h4 HDEF2 HYES2
        go_wp2
        refine bodyPost_ret (v := .tuple #[winV 0 0 none 0 0 none 0 0, .bool false]) (by simp [results, Tryd.results43, go_sem, r0, r1, r2, r3]) rfl (retWinX_no ((((HB6.out.setCell (by simp) _).setCell (by simp) _).setCell (by simp) _).setCell (by simp) _))
      | true =>
        obtain ⟨rfl, h5, h6, h7, h8⟩ := HYES2.out (by rw [HDEF2.out, h4])
        clear h4 HDEF2 HYES2 HNO
        subst h5; subst h6; subst h7; subst h8
        go_wp2
        refine bodyPost_ret (v := .tuple #[winV rl rp a1 rt.length c1 a2 rs.length c2, .bool true]) (by simp [results, Tryd.results43, go_sem, r0, r1, r2, r3]) rfl ⟨a1, c1, a2, c2, rfl, ?_, ?_, HSEP.out, (((HB6.out.setCell (by simp) _).setCell (by simp) _).setCell (by simp) _).setCell (by simp) _⟩
        · refine Own.mono (base := w.heap.size + 1) ?_ (by omega)
          refine Own.setFar (Own.setFar (Own.setFar (Own.setFar HO1_6.out _ _ ?_) _ _ ?_) _ _ ?_) _ _ ?_
          all_goals simp
        · refine Own.mono (base := w.heap.size + 1) ?_ (by omega)
          refine Own.setFar (Own.setFar (Own.setFar (Own.setFar HO2_6.out _ _ ?_) _ _ ?_) _ _ ?_) _ _ ?_
          all_goals simp
    · have hln : ((y0.length : Int) == 2) = false := beq_eq_false_iff_ne.2 (by omega)
      have hln2 : ((y0.length : Int) != 2) = true := by show (!((y0.length : Int) == 2)) = true; rw [hln]; rfl
      obtain ⟨rfl, rfl, rfl, rfl, rfl⟩ := HNO.out (by rw [HDEF.out, decide_eq_false hl2]; simp)
      clear HDEF HYES HN0 HN1 HN2
      go_wp2
      refine bodyPost_ret (v := .tuple #[winV 0 0 none 0 0 none 0 0, .bool false]) (by simp [results, Tryd.results43, go_sem, r0, r1, r2, r3]) rfl (retWinX_no ((((HB4.out.setCell (by simp) _).setCell (by simp) _).setCell (by simp) _).setCell (by simp) _))
  · have hln : ((P.length : Int) == 3) = false := beq_eq_false_iff_ne.2 (by omega)
    have hln2 : ((P.length : Int) != 3) = true := by show (!((P.length : Int) == 3)) = true; rw [hln]; rfl
    obtain ⟨rfl, rfl, rfl, rfl, rfl⟩ := HNO.out (by rw [HDEF.out, decide_eq_false hl]; simp)
    have r0 := HI1.out.cell (i := 0) (v := .int .i64 0) rfl
    have r1 := HI1.out.cell (i := 1) (v := .int .i64 0) rfl
    have r2 := HI1.out.cell (i := 2) (v := .slice none 0 0) rfl
    have r3 := HI1.out.cell (i := 3) (v := .slice none 0 0) rfl
    have q0 := HI1.out.free 0
    have q1 := HI1.out.free 1
    have q2 := HI1.out.free 2
    have q3 := HI1.out.free 3
    clear hix HDEF HYES HN0 HN1 HN2 HR0 HR1 HR2
    go_wp2
    refine bodyPost_ret (v := .tuple #[winV 0 0 none 0 0 none 0 0, .bool false]) (by simp [results, Tryd.results43, go_sem, r0, r1, r2, r3]) rfl (retWinX_no ((((HB1.out.setCell (by simp) _).setCell (by simp) _).setCell (by simp) _).setCell (by simp) _))

set_option maxHeartbeats 1000000 in
theorem specRw_any {t : ByteArray} {w : World} (hs : t.size ≤ 1048576) :
    Calls Tryd.prog 22 #[.string t] w (RetWinX w (rwL t) (rwP t) (rwT t) (rwS t) (rwB t)) := by
  have HB0 := Lib.hid ((Below.refl w.heap.size w).alloc (Nat.le_refl _) (.cells #[.int .i64 0, .int .i64 0, .slice none 0 0, .slice none 0 0] 43))
  have HI0 : Hid (Blk (w.alloc (.cells #[.int .i64 0, .int .i64 0, .slice none 0 0, .slice none 0 0] 43)) w.heap.size #[.int .i64 0, .int .i64 0, .slice none 0 0, .slice none 0 0] 43) := Lib.hid (Blk.new _ _ _)
  have HC := Lib.hid (specReadWindow_any (t := t) (w := w.alloc (.cells #[.int .i64 0, .int .i64 0, .slice none 0 0, .slice none 0 0] 43)) hs)
  generalize rwL t = L at HC ⊢
  generalize rwP t = Q at HC ⊢
  generalize rwT t = ts at HC ⊢
  generalize rwS t = ss at HC ⊢
  generalize rwB t = b at HC ⊢
  go_enter Tryd.func22, Tryd.ntmps22
  go_wp2_with fail
  refine HC.out.mono ?_
  rintro e w1 ⟨a, c, a2, c2, rfl, ho, ho2, hsep, hb1⟩
  have HB1 := Lib.hid (HB0.out.trans (hb1.mono HB0.out.size))
  have HI1 := HI0.out.below hb1 (Nat.le_refl _)
  have HO1 : Hid (Own (Value.int .i64) 2 w1 (w.heap.size + 1) a c ts) := Lib.hid (ho.mono (by simp))
  have HO2 : Hid (Own (Value.int .i64) 2 w1 (w.heap.size + 1) a2 c2 ss) := Lib.hid (ho2.mono (by simp))
  have HSEP := Lib.hid hsep
  have r0 := HI1.cell (i := 0) (v := .int .i64 0) rfl
  have r1 := HI1.cell (i := 1) (v := .int .i64 0) rfl
  have r2 := HI1.cell (i := 2) (v := .slice none 0 0) rfl
  have r3 := HI1.cell (i := 3) (v := .slice none 0 0) rfl
  have q0 := HI1.free 0
  have q1 := HI1.free 1
  have q2 := HI1.free 2
  have q3 := HI1.free 3
  clear hb1 HB0 HI0 HI1 ho ho2 hsep HC
  go_wp2
  refine bodyPost_ret (v := .tuple #[winV L Q a ts.length c a2 ss.length c2, .bool b]) (by simp [results, Tryd.results22, go_sem, r0, r1, r2, r3]) rfl ⟨a, c, a2, c2, rfl, ?_, ?_, HSEP.out, (((HB1.out.setCell (by simp) _).setCell (by simp) _).setCell (by simp) _).setCell (by simp) _⟩
  · refine Own.mono (base := w.heap.size + 1) ?_ (by omega)
    refine Own.setFar (Own.setFar (Own.setFar (Own.setFar HO1.out _ _ ?_) _ _ ?_) _ _ ?_) _ _ ?_
    all_goals simp
  · refine Own.mono (base := w.heap.size + 1) ?_ (by omega)
    refine Own.setFar (Own.setFar (Own.setFar (Own.setFar HO2.out _ _ ?_) _ _ ?_) _ _ ?_) _ _ ?_
    all_goals simp

end Go.Proofs.YtmmpemfhbnkomaaDoor

namespace Go.Proofs.YtmmpemfhbnkomaaDoor
open Go.RowKit

/-- What the walk asks of the program's own variables. -/
def VarsR (w : World) : Prop := PTab w ∧ ETab w ∧ MLen w
theorem VarsR.below {w w' : World} (h : VarsR w) {B : Nat} (hb : Below B w w') (hB : w.heap.size ≤ B) : VarsR w' := ⟨h.1.below hb hB, h.2.1.below hb hB, h.2.2.below hb hB⟩

set_option maxRecDepth 100000 in
set_option maxHeartbeats 8000000 in
theorem lawReadWindow_walk {s : ByteArray} {w : World} (hV : VarsR w) :
    Calls Tryd.prog 6 #[.string s] w fun e w' => e = .returned (.bool true) ∧ Below w.heap.size w w' := by
  by_cases hs : s.size ≤ 1048576
  · have hd : decide ((1048576 : Int) < (s.size : Int)) = false := decide_eq_false (by omega)
    have hlen := readWindow_len s
    obtain ⟨L, hL⟩ : ∃ z, rwL s = z := ⟨_, rfl⟩
    obtain ⟨P, hP⟩ : ∃ z, rwP s = z := ⟨_, rfl⟩
    obtain ⟨Q0, hQ0⟩ : ∃ z, rwT s = z := ⟨_, rfl⟩
    obtain ⟨Q1, hQ1⟩ : ∃ z, rwS s = z := ⟨_, rfl⟩
    obtain ⟨bb, hbb⟩ : ∃ z, rwB s = z := ⟨_, rfl⟩
    rw [hQ0, hQ1] at hlen
    have HSP : Hid (∀ w : World, Calls Tryd.prog 22 #[.string s] w (RetWinX w L P Q0 Q1 bb)) := by
      show ∀ w : World, _
      intro w
      have := specRw_any (t := s) (w := w) hs
      rwa [hL, hP, hQ0, hQ1, hbb] at this
    have HIM : Hid (∀ w : World, VarsR w → Calls Tryd.prog 23 #[.string s] w (RetWinX w L P Q0 Q1 bb)) := by
      show ∀ w : World, _
      intro w h
      have := implReadWindow_any (t := s) (w := w) h.1 h.2.1 h.2.2 hs
      rwa [hL, hP, hQ0, hQ1, hbb] at this
    have HV : Hid (∀ w', Below w.heap.size w w' → VarsR w') := Lib.hid (fun w' hb => hV.below hb (Nat.le_refl _))
    clear hV hL hP hQ0 hQ1 hbb
    have hnb : (bb ^^ bb) = false := by simp
    have hnb2 : (bb != bb) = false := by simp
    have b64 : Q0.length ≤ 1048576 ∧ Q1.length ≤ 1048576 := hlen
    clear hlen
    obtain ⟨b0, b1⟩ := b64
    go_enter Tryd.func6, Tryd.ntmps6
    go_wp2_with fail
    refine (HSP.out _).mono ?_
    rintro e w1 ⟨aw0, cw0, aw1, cw1, rfl, o0, o1, hsp, hb⟩
    have B := Lib.hid hb
    have z1 := hb.size
    clear hb
    have LW0 := Lib.hid o0.blk
    have W0 := Lib.hid o0
    have LW1 := Lib.hid o1.blk
    have W1 := Lib.hid o1
    have SW := Lib.hid hsp
    clear o0 o1 hsp
    replace B := Lib.hid (B.out.alloc B.out.size (.cells #[.int .i64 L, .int .i64 P, .slice aw0 Q0.length cw0, .slice aw1 Q1.length cw1] 43))
    replace W0 := Lib.hid (W0.out.alloc (.cells #[.int .i64 L, .int .i64 P, .slice aw0 Q0.length cw0, .slice aw1 Q1.length cw1] 43))
    replace W1 := Lib.hid (W1.out.alloc (.cells #[.int .i64 L, .int .i64 P, .slice aw0 Q0.length cw0, .slice aw1 Q1.length cw1] 43))
    have X := Lib.hid (Blk.new w1 #[.int .i64 L, .int .i64 P, .slice aw0 Q0.length cw0, .slice aw1 Q1.length cw1] 43)
    have z1' : w1.heap.size < (w1.alloc (.cells #[.int .i64 L, .int .i64 P, .slice aw0 Q0.length cw0, .slice aw1 Q1.length cw1] 43)).heap.size := by simp
    go_upto_region 4 with (fail)
    generalize w1.alloc (.cells #[.int .i64 L, .int .i64 P, .slice aw0 Q0.length cw0, .slice aw1 Q1.length cw1] 43) = w2 at X z1' B W0 W1 ⊢
    go_wp2_with fail
    refine (HIM.out _ (HV.out _ B.out)).mono ?_
    rintro e w3 ⟨ag0, cg0, ag1, cg1, rfl, o0, o1, hsp, hb⟩
    have z3 := hb.size
    replace B := Lib.hid (B.out.trans (hb.mono B.out.size))
    replace W0 := Lib.hid (W0.out.below hb (Nat.le_refl _))
    replace W1 := Lib.hid (W1.out.below hb (Nat.le_refl _))
    replace X := Lib.hid (X.out.below hb (Nat.le_refl _))
    clear hb
    have LG0 := Lib.hid o0.blk
    have G0 := Lib.hid o0
    have LG1 := Lib.hid o1.blk
    have G1 := Lib.hid o1
    have SG := Lib.hid hsp
    clear o0 o1 hsp
    replace B := Lib.hid (B.out.alloc B.out.size (.cells #[.int .i64 L, .int .i64 P, .slice ag0 Q0.length cg0, .slice ag1 Q1.length cg1] 43))
    replace W0 := Lib.hid (W0.out.alloc (.cells #[.int .i64 L, .int .i64 P, .slice ag0 Q0.length cg0, .slice ag1 Q1.length cg1] 43))
    replace W1 := Lib.hid (W1.out.alloc (.cells #[.int .i64 L, .int .i64 P, .slice ag0 Q0.length cg0, .slice ag1 Q1.length cg1] 43))
    replace X := Lib.hid (X.out.alloc (.cells #[.int .i64 L, .int .i64 P, .slice ag0 Q0.length cg0, .slice ag1 Q1.length cg1] 43))
    replace G0 := Lib.hid (G0.out.alloc (.cells #[.int .i64 L, .int .i64 P, .slice ag0 Q0.length cg0, .slice ag1 Q1.length cg1] 43))
    replace G1 := Lib.hid (G1.out.alloc (.cells #[.int .i64 L, .int .i64 P, .slice ag0 Q0.length cg0, .slice ag1 Q1.length cg1] 43))
    have Y := Lib.hid (Blk.new w3 #[.int .i64 L, .int .i64 P, .slice ag0 Q0.length cg0, .slice ag1 Q1.length cg1] 43)
    have z3' : w3.heap.size < (w3.alloc (.cells #[.int .i64 L, .int .i64 P, .slice ag0 Q0.length cg0, .slice ag1 Q1.length cg1] 43)).heap.size := by simp
    go_upto_region 5 with (fail)
    generalize w3.alloc (.cells #[.int .i64 L, .int .i64 P, .slice ag0 Q0.length cg0, .slice ag1 Q1.length cg1] 43) = w4 at Y z3' B W0 W1 X G0 G1 ⊢
    have y0 := Y.out.cell (i := 0) (v := .int .i64 L) rfl
    have y1 := Y.out.cell (i := 1) (v := .int .i64 P) rfl
    have y2 := Y.out.cell (i := 2) (v := .slice ag0 Q0.length cg0) rfl
    have y3 := Y.out.cell (i := 3) (v := .slice ag1 Q1.length cg1) rfl
    have x0 := X.out.cell (i := 0) (v := .int .i64 L) rfl
    have x1 := X.out.cell (i := 1) (v := .int .i64 P) rfl
    have x2 := X.out.cell (i := 2) (v := .slice aw0 Q0.length cw0) rfl
    have x3 := X.out.cell (i := 3) (v := .slice aw1 Q1.length cw1) rfl
    go_wp2_with fail
    refine (eqWindow_same G0.out.rd G1.out.rd W0.out.rd W1.out.rd).mono ?_
    rintro e w5 ⟨rfl, hb⟩
    have z5 := hb.size
    clear y0 y1 y2 y3
    clear x0 x1 x2 x3
    replace B := Lib.hid (B.out.trans (hb.mono B.out.size))
    replace W0 := Lib.hid (W0.out.below hb (Nat.le_refl _))
    replace W1 := Lib.hid (W1.out.below hb (Nat.le_refl _))
    replace X := Lib.hid (X.out.below hb (Nat.le_refl _))
    replace G0 := Lib.hid (G0.out.below hb (Nat.le_refl _))
    replace G1 := Lib.hid (G1.out.below hb (Nat.le_refl _))
    replace Y := Lib.hid (Y.out.below hb (Nat.le_refl _))
    clear hb
    have y0 := Y.out.cell (i := 0) (v := .int .i64 L) rfl
    have y1 := Y.out.cell (i := 1) (v := .int .i64 P) rfl
    have y2 := Y.out.cell (i := 2) (v := .slice ag0 Q0.length cg0) rfl
    have y3 := Y.out.cell (i := 3) (v := .slice ag1 Q1.length cg1) rfl
    go_wp2_with fail
    refine (markWindow_any (k0 := 1) G0.out G1.out SG.out (hi := w3.heap.size) (fun p hp => (LG0.out p hp).2) (fun p hp => (LG1.out p hp).2) (by omega)).mono ?_
    rintro e w6 ⟨rfl, m0, m1, ht⟩
    have z6 := ht.size
    clear y0 y1 y2 y3
    replace B := Lib.hid (B.out.trans (ht.below (by have := B.out.size; omega) B.out.size))
    replace W0 := Lib.hid (W0.out.turned ht (fun p hp => .inl (by have := (LW0.out p hp).2; omega)))
    replace W1 := Lib.hid (W1.out.turned ht (fun p hp => .inl (by have := (LW1.out p hp).2; omega)))
    replace X := Lib.hid (X.out.turned ht (.inl (by omega)))
    clear G0
    clear G1
    replace Y := Lib.hid (Y.out.turned ht (.inr (Nat.le_refl _)))
    have M0 := Lib.hid m0.rd
    have M1 := Lib.hid m1.rd
    clear ht m0 m1
    have y0 := Y.out.cell (i := 0) (v := .int .i64 L) rfl
    have y1 := Y.out.cell (i := 1) (v := .int .i64 P) rfl
    have y2 := Y.out.cell (i := 2) (v := .slice ag0 Q0.length cg0) rfl
    have y3 := Y.out.cell (i := 3) (v := .slice ag1 Q1.length cg1) rfl
    go_wp2_with fail
    refine (heldWindow_any (k0 := 1) M0.out M1.out (by omega)).mono ?_
    rintro e w7 ⟨rfl, hb⟩
    have z7 := hb.size
    clear y0 y1 y2 y3
    replace B := Lib.hid (B.out.trans (hb.mono B.out.size))
    replace W0 := Lib.hid (W0.out.below hb (Nat.le_refl _))
    replace W1 := Lib.hid (W1.out.below hb (Nat.le_refl _))
    replace X := Lib.hid (X.out.below hb (Nat.le_refl _))
    replace Y := Lib.hid (Y.out.below hb (Nat.le_refl _))
    replace M0 := Lib.hid (M0.out.below hb (Nat.le_refl _))
    replace M1 := Lib.hid (M1.out.below hb (Nat.le_refl _))
    clear hb
    go_wp2_with fail
    refine (HIM.out _ (HV.out _ B.out)).mono ?_
    rintro e w8 ⟨ah0, ch0, ah1, ch1, rfl, o0, o1, hsp, hb⟩
    have z8 := hb.size
    replace B := Lib.hid (B.out.trans (hb.mono B.out.size))
    replace W0 := Lib.hid (W0.out.below hb (Nat.le_refl _))
    replace W1 := Lib.hid (W1.out.below hb (Nat.le_refl _))
    replace X := Lib.hid (X.out.below hb (Nat.le_refl _))
    replace Y := Lib.hid (Y.out.below hb (Nat.le_refl _))
    replace M0 := Lib.hid (M0.out.below hb (Nat.le_refl _))
    replace M1 := Lib.hid (M1.out.below hb (Nat.le_refl _))
    clear hb
    have LH0 := Lib.hid o0.blk
    have H0 := Lib.hid o0.rd
    have LH1 := Lib.hid o1.blk
    have H1 := Lib.hid o1.rd
    have SH := Lib.hid hsp
    clear o0 o1 hsp
    have hba : Below w8.heap.size w8 (w8.alloc (.cells #[.int .i64 L, .int .i64 P, .slice ah0 Q0.length ch0, .slice ah1 Q1.length ch1] 43)) := (Below.refl _ _).alloc (Nat.le_refl _) _
    replace B := Lib.hid (B.out.trans (hba.mono B.out.size))
    replace W0 := Lib.hid (W0.out.below hba (Nat.le_refl _))
    replace W1 := Lib.hid (W1.out.below hba (Nat.le_refl _))
    replace X := Lib.hid (X.out.below hba (Nat.le_refl _))
    replace Y := Lib.hid (Y.out.below hba (Nat.le_refl _))
    replace M0 := Lib.hid (M0.out.below hba (Nat.le_refl _))
    replace M1 := Lib.hid (M1.out.below hba (Nat.le_refl _))
    replace H0 := Lib.hid (H0.out.below hba (Nat.le_refl _))
    replace H1 := Lib.hid (H1.out.below hba (Nat.le_refl _))
    clear hba
    have Z' := Lib.hid (Blk.new w8 #[.int .i64 L, .int .i64 P, .slice ah0 Q0.length ch0, .slice ah1 Q1.length ch1] 43)
    go_upto_region 16 with (fail)
    generalize w8.alloc (.cells #[.int .i64 L, .int .i64 P, .slice ah0 Q0.length ch0, .slice ah1 Q1.length ch1] 43) = w9 at Z' B W0 W1 X Y M0 M1 H0 H1 ⊢
    have h0 := Z'.out.cell (i := 0) (v := .int .i64 L) rfl
    have h1 := Z'.out.cell (i := 1) (v := .int .i64 P) rfl
    have h2 := Z'.out.cell (i := 2) (v := .slice ah0 Q0.length ch0) rfl
    have h3 := Z'.out.cell (i := 3) (v := .slice ah1 Q1.length ch1) rfl
    have x0 := X.out.cell (i := 0) (v := .int .i64 L) rfl
    have x1 := X.out.cell (i := 1) (v := .int .i64 P) rfl
    have x2 := X.out.cell (i := 2) (v := .slice aw0 Q0.length cw0) rfl
    have x3 := X.out.cell (i := 3) (v := .slice aw1 Q1.length cw1) rfl
    go_wp2_with fail
    refine (eqWindow_same H0.out H1.out W0.out.rd W1.out.rd).mono ?_
    rintro e w10 ⟨rfl, hb⟩
    clear h0 h1 h2 h3
    clear x0 x1 x2 x3
    replace B := Lib.hid (B.out.trans (hb.mono B.out.size))
    clear W0
    clear W1
    clear X
    replace Y := Lib.hid (Y.out.below hb (Nat.le_refl _))
    replace M0 := Lib.hid (M0.out.below hb (Nat.le_refl _))
    replace M1 := Lib.hid (M1.out.below hb (Nat.le_refl _))
    clear H0
    clear H1
    clear Z'
    clear hb
    have y0 := Y.out.cell (i := 0) (v := .int .i64 L) rfl
    have y1 := Y.out.cell (i := 1) (v := .int .i64 P) rfl
    have y2 := Y.out.cell (i := 2) (v := .slice ag0 Q0.length cg0) rfl
    have y3 := Y.out.cell (i := 3) (v := .slice ag1 Q1.length cg1) rfl
    go_wp2_with fail
    refine (heldWindow_any (k0 := 1) M0.out M1.out (by omega)).mono ?_
    rintro e w11 ⟨rfl, hb⟩
    have BB := Lib.hid (B.out.trans (hb.mono B.out.size))
    clear hb
    clear y0 y1 y2 y3
    go_wp2
    go_ret
    exact ⟨rfl, BB.out⟩
  · have hd : decide ((1048576 : Int) < (s.size : Int)) = true := decide_eq_true (by omega)
    clear hV
    go_enter Tryd.func6, Tryd.ntmps6
    go_wp2
    go_ret
    exact ⟨rfl, Below.refl _ _⟩

end Go.Proofs.YtmmpemfhbnkomaaDoor
