/- What a window keeps, in the program's text: where it is valid. -/
import Derived.Test.YtncbkbfkdgggkaaQWn5
import Derived.Test.YtncbkbfkdgggkaaQWn1
import Derived.Deep.DrawnRows
import Derived.Deep.Cut
import Derived.Deep.DeepCutAuto
import Derived.Deep.CutBlock
namespace Go.Proofs.Ytncbkbfkdgggkaa
open Go.RowKit
attribute [local go_sem ↓] Go.wp_at_zero Go.wp_at_succ

/-- The first index with a time that is new enough; all of them, if there is none. -/
def keptI (ts : List Int) (c : Int) : Nat := ts.findIdx (fun x => decide (c < x))

/-- A window in new memory, and 'true'. -/
def RetWin (w : World) (L P : Int) (xs ys : List Int) (en : Ending) (w' : World) : Prop :=
  ∃ a c a' c', en = .returned (.tuple #[winV L P a xs.length c a' ys.length c', .bool true]) ∧ Own (Value.int .i64) 2 w' w.heap.size a c xs ∧ Own (Value.int .i64) 2 w' w.heap.size a' c' ys ∧ Below w.heap.size w w'

def RetWin2 (w : World) (L P : Int) (xs ys : List Int) (en : Ending) (w' : World) : Prop :=
  ∃ a c a' c', en = .returned (.tuple #[winV L P a xs.length c a' ys.length c', .bool true]) ∧ Own (Value.int .i64) 2 w' w.heap.size a c xs ∧ Own (Value.int .i64) 2 w' w.heap.size a' c' ys ∧ Sep a a' ∧ Below w.heap.size w w'

theorem kept1_any {x t L : Int} {p q : Nat} {w : World} (t0 : 0 ≤ t) (t1 : t ≤ 1000000) (l0 : 1 ≤ L) (l1 : L ≤ 1000000) (h1 : w.cell? ⟨p, 0, none⟩ = some (.int .i64 t)) (h2 : w.cell? ⟨q, 0, none⟩ = some (.int .i64 L)) :
    Calls Try.prog 36 #[.int .i64 x, .pointer (some ⟨p, 0, none⟩), .pointer (some ⟨q, 0, none⟩)] w fun e w' => e = .returned (.bool (decide (t - L < x))) ∧ Below w.heap.size w w' := by
  go_enter Try.func36, Try.ntmps36
  go_wp2
  go_ret
  exact ⟨rfl, Below.refl _ _⟩
theorem call_kept1 (vs : Array Value) (w : World) : (callFunc 36 vs).run Try.prog w = .ok (.enter 36 vs) w := by kernel_rfl

theorem farK {w : World} {n o : Nat} {v0 v1 v2 v3 : Value} {u : Value} (hc : w.cell? ⟨n, o, none⟩ = some u) :
    ((((w.setCell ⟨n + 1 + 1, 0, none⟩ v0).setCell ⟨n + 1 + 1, 1, none⟩ v1).setCell ⟨n + 1 + 1, 2, none⟩ v2).setCell ⟨n + 1 + 1, 3, none⟩ v3).cell? ⟨n, o, none⟩ = some u := by
  have h : n + 1 + 1 ≠ n := by omega
  rw [World.cell?_setCell_far _ _ _ _ h, World.cell?_setCell_far _ _ _ _ h, World.cell?_setCell_far _ _ _ _ h, World.cell?_setCell_far _ _ _ _ h]
  exact hc

set_option maxRecDepth 4000 in
set_option maxHeartbeats 4000000 in
theorem kept_yes2 {ta sa : Option Addr} {tc sc : Nat} {ts ss : List Int} {L P t : Int} {w : World} (ht : Rd (Value.int .i64) w ta tc ts) (hs : Rd (Value.int .i64) w sa sc ss) (h : lateB L P ts ss t = true) :
    Calls Try.prog 21 #[winV L P ta ts.length tc sa ss.length sc, .int .i64 t] w (RetWin2 w L P (ts.drop (keptI ts (t - L))) (ss.drop (keptI ts (t - L)))) := by
  have hlt := ht.len
  have hls := hs.len
  have HK := Lib.hid (keptW_is w L P ta ts.length tc sa ss.length sc t)
  unfold keptW at HK
  simp only [lateB, Bool.and_eq_true] at h
  obtain ⟨⟨h1, h2⟩, h3⟩ := h
  obtain ⟨l0, l1, _, _, hl128, h4, _, _⟩ := winB_parts h1
  obtain ⟨t0, t1⟩ := (inR_eq _ _ _).1 h2
  have H4 := Lib.hid h4
  have HL := Lib.hid h3
  obtain ⟨DD, hDD⟩ : ∃ D, ts.drop (keptI ts (t - L)) = D := ⟨_, rfl⟩
  obtain ⟨EE, hEE⟩ : ∃ D, ss.drop (keptI ts (t - L)) = D := ⟨_, rfl⟩
  rw [hDD, hEE]
  have HDD := Lib.hid hDD
  have HEE := Lib.hid hEE
  clear h3 h4 hDD hEE
  by_cases h0 : ts.length = 0
  · have hd0 : decide (0 < ts.length) = false := decide_eq_false (by omega)
    have hd1 : ¬ 0 < ts.length := by omega
    have H0 := Lib.hid h0
    clear h0
    go_enter Try.func21, Try.ntmps21
    go_wp2_with fail
    generalize ((w.alloc (.cells #[.int .i64 L, .int .i64 P, .slice ta ts.length tc, .slice sa ss.length sc] 28)).alloc (.cells #[.int .i64 t] 2)).alloc (.cells #[.int .i64 0, .int .i64 0, .slice none 0 0, .slice none 0 0] 28) = W at HK ⊢
    obtain ⟨ι, hne, G, hG, hS⟩ := calm_family W
    have HKG := Lib.hid (fun i => HK.out.below (hG i))
    have c0 := fun i => (HKG.out i).c0
    have c1 := fun i => (HKG.out i).c1
    have c2 := fun i => (HKG.out i).c2
    have c3 := fun i => (HKG.out i).c3
    have ct := fun i => (HKG.out i).ct
    have HT := Lib.hid (fun i => ht.below (HKG.out i).B (Nat.le_refl _))
    have HS := Lib.hid (fun i => hs.below (HKG.out i).B (Nat.le_refl _))
    have HG := Lib.hid hG
    have HSU := Lib.hid hS
    clear hG hS
    refine wp_region_calm (G := G) (by kernel_rfl) (by kernel_rfl) HSU.out ?_
    repeat (go_big_quiet_step ((first | (go_at_call 9; exact calm_call HG.out HSU.out (validWindow_any (HT.out _) (HS.out _))) | (go_at_call 27; exact calm_same isTime_any))))
    refine wpQuiet_nil ?_
    intro _ hw'
    obtain ⟨i, hw''⟩ := hw'
    subst hw''
    have HK2 := Lib.hid (HKG.out i)
    have hT2 := HT.out i
    have hS2 := HS.out i
    clear c0 c1 c2 c3 ct HKG HT HS HG HSU HK
    generalize G i = W2 at HK2 hT2 hS2 ⊢
    clear i
    clear hne
    have c0 := HK2.out.c0
    have c1 := HK2.out.c1
    have c2 := HK2.out.c2
    have c3 := HK2.out.c3
    have ct := HK2.out.ct
    have HT2 := Lib.hid hT2
    have HS2 := Lib.hid hS2
    clear hT2 hS2
    rw [h1, h2]
    clear h1 h2
    go_wp2_with fail
    refine (indexFunci_any ta tc ts W2 36 #[.pointer (some ⟨w.heap.size + 1, 0, none⟩), .pointer (some ⟨w.heap.size, 0, none⟩)] (fun x => decide (t - L < x)) call_kept1 HT2.out (fun k hk wr hbr => ?_)).mono ?_
    · have K3 := HK2.out.below hbr
      exact kept1_any (by omega) (by omega) (by omega) (by omega) K3.ct K3.c0
    rintro e W3 ⟨rfl, hb3⟩
    have HK3 := Lib.hid (HK2.out.below hb3)
    have HT3 := Lib.hid (HT2.out.below hb3 (Nat.le_refl _))
    have HS3 := Lib.hid (HS2.out.below hb3 (Nat.le_refl _))
    clear hb3 c0 c1 c2 c3 ct HK2 HT2 HS2
    have c0 := HK3.out.c0
    have c1 := HK3.out.c1
    have c2 := HK3.out.c2
    have c3 := HK3.out.c3
    obtain ⟨F, hFF⟩ : ∃ F, keptI ts (t - L) = F := ⟨_, rfl⟩
    have hF : (idxOf (fun x => decide (t - L < x)) ts = (F : Int) ∧ F ≤ ts.length) ∨ (idxOf (fun x => decide (t - L < x)) ts = -1 ∧ ts.length = F) := by
      have h7 : ts.findIdx (fun x => decide (t - L < x)) = F := hFF
      rcases idxOf_findIdx (fun x => decide (t - L < x)) ts with ⟨h5, h6⟩ | ⟨h5, h6⟩
      · rw [h7] at h5 h6
        exact .inl ⟨h5, Nat.le_of_lt h6⟩
      · rw [h7] at h6
        exact .inr ⟨h5, h6.symm⟩
    generalize idxOf (fun x => decide (t - L < x)) ts = z at hF ⊢
    have hFl : F ≤ ts.length := by rcases hF with h5 | h5 <;> omega
    rw [hFF] at HDD HEE
    have HF := Lib.hid hF
    clear hF hFF
    go_upto_if 43 with (fail)
    go_cut [6] (fun s wx => s = .int .i64 (F : Int) ∧ W3 = wx)
    case first =>
      rcases HF.out with ⟨h5, _⟩ | ⟨h5, h6⟩
      · have hF0 : 0 ≤ z := by omega
        have H5 := Lib.hid h5
        clear h5
        go_wp2
        go_meet
        case rel => exact ⟨by rw [H5.out], rfl⟩
      · have hF0 : ¬ 0 ≤ z := by omega
        have H6 := Lib.hid h6
        clear h5 h6
        go_wp2
        go_meet
        case rel => exact ⟨by rw [H6.out], rfl⟩
    case rest =>
      obtain ⟨rfl, rfl⟩ := hcut
      clear HF
      have hFs : F ≤ ss.length := by rw [H4.out]; exact hFl
      obtain ⟨a2, p2, hsl, hcut⟩ := HT3.out.cutRun und_is siz_is (k := F) hFl
      obtain ⟨b2, q2, hsm, hcus⟩ := HS3.out.cutRun und_is siz_is (k := F) hFs
      have hD := hcut _ HT3.out
      have hE := hcus _ HS3.out
      have hDl : (ts.drop (F)).length ≤ 1048576 := by rw [List.length_drop]; omega
      have hEl : (ss.drop (F)).length ≤ 1048576 := by rw [List.length_drop, H4.out]; omega
      clear hcut hcus
      generalize ts.drop (F) = D at hD hDl hsl HDD
      generalize ss.drop (F) = E at hE hEl hsm HEE
      have hbd : Below W3.heap.size W3 W3.drew := below_of_drewN W3 1 _
      go_wp2_with fail
      go_region_held3 (fun w' => w'.cell? ⟨w.heap.size, 0, none⟩ = some (.int .i64 L) ∧ w'.cell? ⟨w.heap.size, 1, none⟩ = some (.int .i64 P) ∧ w'.cell? ⟨w.heap.size, 2, none⟩ = some (.slice ta ts.length tc) ∧ w'.cell? ⟨w.heap.size, 3, none⟩ = some (.slice sa ss.length sc))
          (first | (with_reducible exact ⟨KhoT.out.c0, KhoT.out.c1, KhoT.out.c2, KhoT.out.c3⟩) | (with_reducible exact ⟨KhoS.out.c0, KhoS.out.c1, KhoS.out.c2, KhoS.out.c3⟩) | (with_reducible exact ⟨farK KhoS.out.c0, farK KhoS.out.c1, farK KhoS.out.c2, farK KhoS.out.c3⟩) | exact ⟨c0, c1, c2, c3⟩)
          (first
            | (go_at_call 37; (with_reducible refine (clonei_any a2 p2 D _ (hD.below hbd (Nat.le_refl _)) hDl).mono ?_); rintro e whoT ⟨xhoT, yhoT, rfl, hoT, hbT⟩; have KhoT := Lib.hid (HK3.out.below (hbd.trans (hbT.mono hbd.size))))
            | (go_at_call 37; (with_reducible refine (clonei_any b2 q2 E _ (hE.below (hbd.trans (hbT.mono hbd.size)) (Nat.le_refl _)) hEl).mono ?_); rintro e whoS ⟨xhoS, yhoS, rfl, hoS, hbS⟩; have KhoS := Lib.hid (HK3.out.below ((hbd.trans (hbT.mono hbd.size)).trans (hbS.mono (hbd.trans (hbT.mono hbd.size)).size))); have f0 := KhoS.out.f0 0; have f1 := KhoS.out.f0 1; have f2 := KhoS.out.f0 2; have f3 := KhoS.out.f0 3; have r0 := KhoS.out.r0; have r1 := KhoS.out.r1; have r2 := KhoS.out.r2; have r3 := KhoS.out.r3))
      have hsep : Sep xhoT xhoS := fun p q hp hq => by
        have h1 := (hoT.blk p hp).2
        have h2 := (hoS.blk q hq).1
        omega
      have HSEP := Lib.hid hsep
      have hz3 := HK3.out.z
      have oT := (hoT.below hbS (Nat.le_refl _)).mono (b' := w.heap.size + 3) hz3
      have oS := hoS.mono (b' := w.heap.size + 3) (Nat.le_trans hz3 (Nat.le_trans hbd.size hbT.size))
      have HB4 := Lib.hid KhoS.out.B
      have hsz4 := KhoS.out.z
      clear hsep hz3 hbd hbT hbS hoT hoS c0 c1 c2 c3 hsl hsm hD hE
      go_wp2
      refine bodyPost_ret (v := .tuple #[winV L P xhoT D.length yhoT xhoS E.length yhoS, .bool true]) (by simp [results, Try.results21, go_sem, r0, r1, r2, r3]) rfl ⟨xhoT, yhoT, xhoS, yhoS, by rw [HDD.out, HEE.out], ?_, ?_, HSEP.out, (((HB4.out.setCell (by simp; omega) _).setCell (by simp; omega) _).setCell (by simp; omega) _).setCell (by simp; omega) _⟩
      · exact (((((oT.setFar _ _ (by simp)).setFar _ _ (by simp)).setFar _ _ (by simp)).setFar _ _ (by simp)).mono (by omega)).cast HDD.out
      · exact (((((oS.setFar _ _ (by simp)).setFar _ _ (by simp)).setFar _ _ (by simp)).setFar _ _ (by simp)).mono (by omega)).cast HEE.out
  · obtain ⟨p, hp⟩ : ∃ p, at0 ts (ts.length - 1) = p := ⟨_, rfl⟩
    have hle : p ≤ t := by
      have h := HL.out
      simp [lastOk, h0, hp] at h
      exact h
    have hpos : (0 : Int) < (ts.length : Int) := by omega
    have hposn : 0 < ts.length := by omega
    have hposd : decide (0 < ts.length) = true := decide_eq_true hposn
    have htp : decide (t < p) = false := decide_eq_false (by omega)
    have hlast : ts.length - 1 < ts.length := by omega
    clear h0
    go_enter Try.func21, Try.ntmps21
    go_wp2_with fail
    generalize ((w.alloc (.cells #[.int .i64 L, .int .i64 P, .slice ta ts.length tc, .slice sa ss.length sc] 28)).alloc (.cells #[.int .i64 t] 2)).alloc (.cells #[.int .i64 0, .int .i64 0, .slice none 0 0, .slice none 0 0] 28) = W at HK ⊢
    obtain ⟨ι, hne, G, hG, hS⟩ := calm_family W
    have HKG := Lib.hid (fun i => HK.out.below (hG i))
    have c0 := fun i => (HKG.out i).c0
    have c1 := fun i => (HKG.out i).c1
    have c2 := fun i => (HKG.out i).c2
    have c3 := fun i => (HKG.out i).c3
    have ct := fun i => (HKG.out i).ct
    have HT := Lib.hid (fun i => ht.below (HKG.out i).B (Nat.le_refl _))
    have HS := Lib.hid (fun i => hs.below (HKG.out i).B (Nat.le_refl _))
    have HG := Lib.hid hG
    have HSU := Lib.hid hS
    clear hG hS
    have hcl := fun i => at0_cell (HT.out i) hlast hp
    have hix := rd_idxAt ht und_is siz_is (ts.length - 1) hlast ((ts.length : Int) - 1) (by omega)
    have ew : IntKind.i64.wrap ((ts.length : Int) - 1) = (ts.length : Int) - 1 := IntWalk.i64_in _ (by omega)
    clear hp
    refine wp_region_calm (G := G) (by kernel_rfl) (by kernel_rfl) HSU.out ?_
    repeat (go_big_quiet_step ((first | (go_at_call 9; exact calm_call HG.out HSU.out (validWindow_any (HT.out _) (HS.out _))) | (go_at_call 27; exact calm_same isTime_any))))
    refine wpQuiet_nil ?_
    intro _ hw'
    obtain ⟨i, hw''⟩ := hw'
    subst hw''
    clear hcl hix ew
    have HK2 := Lib.hid (HKG.out i)
    have hT2 := HT.out i
    have hS2 := HS.out i
    clear c0 c1 c2 c3 ct HKG HT HS HG HSU HK
    generalize G i = W2 at HK2 hT2 hS2 ⊢
    clear i
    clear hne
    have c0 := HK2.out.c0
    have c1 := HK2.out.c1
    have c2 := HK2.out.c2
    have c3 := HK2.out.c3
    have ct := HK2.out.ct
    have HT2 := Lib.hid hT2
    have HS2 := Lib.hid hS2
    clear hT2 hS2
    rw [h1, h2]
    clear h1 h2
    go_wp2_with fail
    refine (indexFunci_any ta tc ts W2 36 #[.pointer (some ⟨w.heap.size + 1, 0, none⟩), .pointer (some ⟨w.heap.size, 0, none⟩)] (fun x => decide (t - L < x)) call_kept1 HT2.out (fun k hk wr hbr => ?_)).mono ?_
    · have K3 := HK2.out.below hbr
      exact kept1_any (by omega) (by omega) (by omega) (by omega) K3.ct K3.c0
    rintro e W3 ⟨rfl, hb3⟩
    have HK3 := Lib.hid (HK2.out.below hb3)
    have HT3 := Lib.hid (HT2.out.below hb3 (Nat.le_refl _))
    have HS3 := Lib.hid (HS2.out.below hb3 (Nat.le_refl _))
    clear hb3 c0 c1 c2 c3 ct HK2 HT2 HS2
    have c0 := HK3.out.c0
    have c1 := HK3.out.c1
    have c2 := HK3.out.c2
    have c3 := HK3.out.c3
    obtain ⟨F, hFF⟩ : ∃ F, keptI ts (t - L) = F := ⟨_, rfl⟩
    have hF : (idxOf (fun x => decide (t - L < x)) ts = (F : Int) ∧ F ≤ ts.length) ∨ (idxOf (fun x => decide (t - L < x)) ts = -1 ∧ ts.length = F) := by
      have h7 : ts.findIdx (fun x => decide (t - L < x)) = F := hFF
      rcases idxOf_findIdx (fun x => decide (t - L < x)) ts with ⟨h5, h6⟩ | ⟨h5, h6⟩
      · rw [h7] at h5 h6
        exact .inl ⟨h5, Nat.le_of_lt h6⟩
      · rw [h7] at h6
        exact .inr ⟨h5, h6.symm⟩
    generalize idxOf (fun x => decide (t - L < x)) ts = z at hF ⊢
    have hFl : F ≤ ts.length := by rcases hF with h5 | h5 <;> omega
    rw [hFF] at HDD HEE
    have HF := Lib.hid hF
    clear hF hFF
    go_upto_if 43 with (fail)
    go_cut [6] (fun s wx => s = .int .i64 (F : Int) ∧ W3 = wx)
    case first =>
      rcases HF.out with ⟨h5, _⟩ | ⟨h5, h6⟩
      · have hF0 : 0 ≤ z := by omega
        have H5 := Lib.hid h5
        clear h5
        go_wp2
        go_meet
        case rel => exact ⟨by rw [H5.out], rfl⟩
      · have hF0 : ¬ 0 ≤ z := by omega
        have H6 := Lib.hid h6
        clear h5 h6
        go_wp2
        go_meet
        case rel => exact ⟨by rw [H6.out], rfl⟩
    case rest =>
      obtain ⟨rfl, rfl⟩ := hcut
      clear HF
      have hFs : F ≤ ss.length := by rw [H4.out]; exact hFl
      obtain ⟨a2, p2, hsl, hcut⟩ := HT3.out.cutRun und_is siz_is (k := F) hFl
      obtain ⟨b2, q2, hsm, hcus⟩ := HS3.out.cutRun und_is siz_is (k := F) hFs
      have hD := hcut _ HT3.out
      have hE := hcus _ HS3.out
      have hDl : (ts.drop (F)).length ≤ 1048576 := by rw [List.length_drop]; omega
      have hEl : (ss.drop (F)).length ≤ 1048576 := by rw [List.length_drop, H4.out]; omega
      clear hcut hcus
      generalize ts.drop (F) = D at hD hDl hsl HDD
      generalize ss.drop (F) = E at hE hEl hsm HEE
      have hbd : Below W3.heap.size W3 W3.drew := below_of_drewN W3 1 _
      go_wp2_with fail
      go_region_held3 (fun w' => w'.cell? ⟨w.heap.size, 0, none⟩ = some (.int .i64 L) ∧ w'.cell? ⟨w.heap.size, 1, none⟩ = some (.int .i64 P) ∧ w'.cell? ⟨w.heap.size, 2, none⟩ = some (.slice ta ts.length tc) ∧ w'.cell? ⟨w.heap.size, 3, none⟩ = some (.slice sa ss.length sc))
          (first | (with_reducible exact ⟨KhoT.out.c0, KhoT.out.c1, KhoT.out.c2, KhoT.out.c3⟩) | (with_reducible exact ⟨KhoS.out.c0, KhoS.out.c1, KhoS.out.c2, KhoS.out.c3⟩) | (with_reducible exact ⟨farK KhoS.out.c0, farK KhoS.out.c1, farK KhoS.out.c2, farK KhoS.out.c3⟩) | exact ⟨c0, c1, c2, c3⟩)
          (first
            | (go_at_call 37; (with_reducible refine (clonei_any a2 p2 D _ (hD.below hbd (Nat.le_refl _)) hDl).mono ?_); rintro e whoT ⟨xhoT, yhoT, rfl, hoT, hbT⟩; have KhoT := Lib.hid (HK3.out.below (hbd.trans (hbT.mono hbd.size))))
            | (go_at_call 37; (with_reducible refine (clonei_any b2 q2 E _ (hE.below (hbd.trans (hbT.mono hbd.size)) (Nat.le_refl _)) hEl).mono ?_); rintro e whoS ⟨xhoS, yhoS, rfl, hoS, hbS⟩; have KhoS := Lib.hid (HK3.out.below ((hbd.trans (hbT.mono hbd.size)).trans (hbS.mono (hbd.trans (hbT.mono hbd.size)).size))); have f0 := KhoS.out.f0 0; have f1 := KhoS.out.f0 1; have f2 := KhoS.out.f0 2; have f3 := KhoS.out.f0 3; have r0 := KhoS.out.r0; have r1 := KhoS.out.r1; have r2 := KhoS.out.r2; have r3 := KhoS.out.r3))
      have hsep : Sep xhoT xhoS := fun p q hp hq => by
        have h1 := (hoT.blk p hp).2
        have h2 := (hoS.blk q hq).1
        omega
      have HSEP := Lib.hid hsep
      have hz3 := HK3.out.z
      have oT := (hoT.below hbS (Nat.le_refl _)).mono (b' := w.heap.size + 3) hz3
      have oS := hoS.mono (b' := w.heap.size + 3) (Nat.le_trans hz3 (Nat.le_trans hbd.size hbT.size))
      have HB4 := Lib.hid KhoS.out.B
      have hsz4 := KhoS.out.z
      clear hsep hz3 hbd hbT hbS hoT hoS c0 c1 c2 c3 hsl hsm hD hE
      go_wp2
      refine bodyPost_ret (v := .tuple #[winV L P xhoT D.length yhoT xhoS E.length yhoS, .bool true]) (by simp [results, Try.results21, go_sem, r0, r1, r2, r3]) rfl ⟨xhoT, yhoT, xhoS, yhoS, by rw [HDD.out, HEE.out], ?_, ?_, HSEP.out, (((HB4.out.setCell (by simp; omega) _).setCell (by simp; omega) _).setCell (by simp; omega) _).setCell (by simp; omega) _⟩
      · exact (((((oT.setFar _ _ (by simp)).setFar _ _ (by simp)).setFar _ _ (by simp)).setFar _ _ (by simp)).mono (by omega)).cast HDD.out
      · exact (((((oS.setFar _ _ (by simp)).setFar _ _ (by simp)).setFar _ _ (by simp)).setFar _ _ (by simp)).mono (by omega)).cast HEE.out

theorem kept_yes {ta sa : Option Addr} {tc sc : Nat} {ts ss : List Int} {L P t : Int} {w : World} (ht : Rd (Value.int .i64) w ta tc ts) (hs : Rd (Value.int .i64) w sa sc ss) (h : lateB L P ts ss t = true) :
    Calls Try.prog 21 #[winV L P ta ts.length tc sa ss.length sc, .int .i64 t] w (RetWin w L P (ts.drop (keptI ts (t - L))) (ss.drop (keptI ts (t - L)))) :=
  (kept_yes2 ht hs h).mono fun _ _ ⟨a, c, a', c', h1, h2, h3, _, h5⟩ => ⟨a, c, a', c', h1, h2, h3, h5⟩

end Go.Proofs.Ytncbkbfkdgggkaa
