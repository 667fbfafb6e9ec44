/- The walk of the law FnFrequencies. -/
import Derived.Test.YtfclkbppmkjkeaaQFq51
import Derived.Test.YtfclkbppmkjkeaaQFq2
import Derived.Test.YtfclkbppmkjkeaaQFq50
import Derived.Deep.Cut
import Derived.Deep.DeepCutAuto
import Derived.Deep.CutBlock
import Derived.Deep.RegionLaw
namespace Go.Proofs.Ytfclkbppmkjkeaa
open Go.RowKit
attribute [local go_sem ↓] Go.wp_at_zero Go.wp_at_succ

theorem quietW {P : Program} {f : FuncId} {args : Array Value} {w : World} {n : Nat} {v : Value} (h : Calls P f args (w.drewN n) fun e w' => e = .returned v ∧ w.drewN n = w') : Calls P f args (w.drewN n) fun e w'' => e = .returned v ∧ ∃ m, w'' = w.drewN m :=
  h.mono fun _ _ ⟨he, hm⟩ => ⟨he, n, hm.symm⟩
theorem park {p : Prop} (h : Hid p) : p := h.out
set_option maxRecDepth 20000 in
set_option maxHeartbeats 8000000 in
theorem lawFrequencies_walk {a1 a2 : Option Addr} {c1 c2 : Nat} {xs ys : List Int} {w : World} (hr : Rd (Value.int .u8) w a1 c1 xs) (hb : ∀ x ∈ xs, 0 ≤ x ∧ x < 256) (hr2 : Rd (Value.int .u8) w a2 c2 ys) (hb2 : ∀ x ∈ ys, 0 ≤ x ∧ x < 256) :
    Calls Try.prog 6 #[.slice a1 xs.length c1, .slice a2 ys.length c2] w fun e w' => e = .returned (.bool true) ∧ Below w.heap.size w w' := by
  have hl1 := hr.len
  have hl2 := hr2.len
  have HR1 := Lib.hid (And.intro hr hb)
  have HR2 := Lib.hid (And.intro hr2 hb2)
  clear hr hb hr2 hb2
  cases hlong : (decide (1048576 < xs.length) || decide (1048576 < ys.length)) with
  | true =>
    go_enter Try.func6, Try.ntmps6
    go_wp2_with fail
    refine (b10Long_any hl1 hl2).mono ?_
    rintro e w1 ⟨rfl, rfl⟩
    rw [hlong]
    go_wp2
    go_ret
    exact ⟨rfl, Below.refl _ _⟩
  | false =>
  go_enter Try.func6, Try.ntmps6
  go_wp2_with fail
  refine (b10Long_any hl1 hl2).mono ?_
  rintro e w1 ⟨rfl, rfl⟩
  rw [hlong]
  clear hlong
  go_wp2_with fail
  refine (b10At_any (i := 0) (n := 12) HR2.out.1 HR2.out.2 (by omega) (by omega) (by omega)).mono ?_
  rintro e w1 ⟨⟨v1, rfl, hv1⟩, rfl⟩
  obtain ⟨n, hn⟩ : ∃ n, 1 + v1 = n := ⟨_, rfl⟩
  have en : (1 : Int) + (v1 : Int) = (n : Int) := by omega
  have enw : IntKind.i64.wrap (n : Int) = (n : Int) := IntWalk.i64_in _ (by omega)
  have hn1 : 1 ≤ n := by omega
  have hn2 : n ≤ 12 := by omega
  go_upto_region 4 with (fail)
  clear en enw hn hv1
  go_wp2_with fail
  refine (b10List_any HR1.out.1 HR1.out.2 (by omega)).mono ?_
  rintro e w1 ⟨av, cv, vf, vz, rfl, hvl, hvd, hvz, hov, hbv⟩
  have HV := Lib.hid (And.intro hvl (And.intro hvd hvz))
  have HRV := Lib.hid hov.rd
  have HB1 := Lib.hid hbv
  have HR3 := Lib.hid (And.intro (HR2.out.1.below hbv (Nat.le_refl _)) HR2.out.2)
  clear hvl hvd hvz hov hbv HR1 HR2
  go_wp2_with fail
  refine (b10At_any (i := 1) (n := 33) HR3.out.1 HR3.out.2 (by omega) (by omega) (by omega)).mono ?_
  rintro e w2 ⟨⟨v2, rfl, hv2⟩, rfl⟩
  have e1 : IntKind.i64.wrap ((v2 : Int) - 16) = (v2 : Int) - 16 := IntWalk.i64_in _ (by omega)
  have hcv : ∀ w' : World, (convert 2 28 (.int .i64 ((v2 : Int) - 16))).run Try.prog w' = .ok (.float .f32 (floatOfInt .f32 ((v2 : Int) - 16))) w' := fun w' => run_convert_int_float w' _ _ _ _ _ (by kernel_rfl) und_f32k
  have hqd := dy_quo4 (dy_int (z := (v2 : Int) - 16) (by omega)) (by omega)
  have ha := ar3 hqd.1 28
  have e4 : cFour = 1082130432 := rfl
  obtain ⟨y, hy⟩ : ∃ y, fo3 .quo (floatOfInt .f32 ((v2 : Int) - 16)) cFour = y := ⟨_, rfl⟩
  have hqe := hqd.2
  rw [hy] at ha hqe
  obtain ⟨zi, hzi⟩ : ∃ z : Int, (v2 : Int) - 16 = z := ⟨_, rfl⟩
  have hz16 : zi.natAbs ≤ 16 := by omega
  rw [hzi] at e1 hcv hqe ha
  have HY := Lib.hid (And.intro hqe hz16)
  rw [e4] at ha
  generalize hfq : floatOfInt .f32 zi = fq at ha hcv
  clear hqd hqe e4 hy hfq hv2
  obtain ⟨asl, csl, hsl, hrsl⟩ := HRV.out.cutRun (P := Try.prog) und_fs siz_fs (k := 1) (by rw [HV.out.1]; omega)
  have hld : (vf.drop 1).length = n - 1 := by rw [List.length_drop, HV.out.1]
  have hvl := HV.out.1
  rw [hvl, show ((1 : Nat) : Int) = 1 from rfl] at hsl
  have HE := Lib.hid (own_empty (f := Value.float .f32) (e := 28) (α := Nat) w1 (by_ := 0) w1.heap.size (Nat.le_refl _) rfl)
  have HBA := Lib.hid ((Below.refl w1.heap.size w1).alloc (Nat.le_refl _) (.cells #[] 28))
  have hzA := HBA.out.size
  have HRS := Lib.hid (hrsl _ (HRV.out.below HBA.out (Nat.le_refl _)))
  clear hrsl hvl
  obtain ⟨vs, hvs⟩ : ∃ l, vf.drop 1 = l := ⟨_, rfl⟩
  rw [hvs] at hsl hld HRS
  have HVS := Lib.hid hvs
  have HLD := Lib.hid hld
  have hv12 : vs.length ≤ 12 := by omega
  clear hvs hld
  go_wp2_with (at_builtin; refine park ?_)
  refine Lib.hid ?_
  refine wpl_appendN (f := Value.float .f32) (d := 0) (base := w1.heap.size) und_fse info_f (fun _ => rfl) HE.out HRS.out rfl _ _ rfl rfl rfl (by simp) (by omega) (by omega) hzA ?_
  intro a4 c4 w4 ho4 hg4
  rw [List.nil_append] at ho4
  have HO4 := Lib.hid ho4
  have HB4 := Lib.hid (HBA.out.trans (grown_belowOwn HE.out hg4 (Nat.le_refl _) hzA))
  have hz4 := HB4.out.size
  clear ho4 hg4
  go_wp2_with (at_builtin; refine park ?_)
  refine Lib.hid ?_
  refine wpl_appendL (f := Value.float .f32) (d := 0) (base := w1.heap.size) und_fse info_f (fun _ => rfl) [y] HO4.out rfl _ _ rfl rfl rfl (by simp; omega) (by omega) hz4 ?_
  intro a5 c5 w5 ho5 hg5
  have hsl5 : (vs ++ [y]).length = n := by rw [List.length_append, HLD.out]; simp; omega
  have esl : vs.length + [y].length = n := by rw [HLD.out]; simp; omega
  rw [esl]
  have HSL := Lib.hid hsl5
  have HB5 := Lib.hid (HB4.out.trans (grown_belowOwn HO4.out hg5 (Nat.le_refl _) hz4))
  have HRU := Lib.hid ho5.rd
  have HRV5 := Lib.hid (HRV.out.below HB5.out (Nat.le_refl _))
  have HR5 := Lib.hid (And.intro (HR3.out.1.below HB5.out (Nat.le_refl _)) HR3.out.2)
  have HBW5 := Lib.hid (HB1.out.trans (HB5.out.mono HB1.out.size))
  clear hsl5 esl ho5 hg5 hz4 HO4 HB4 HE HRS HBA hzA HRV HR3 HB1 HB5 hsl hv12 ha hcv e1
  have hvb : ∀ i, (at0 vz i).natAbs ≤ 16 := by
    intro i
    unfold at0
    cases h : vz[i]? with
    | none => simp
    | some z => exact HV.out.2.2 z (List.mem_of_getElem? h)
  have HVB := Lib.hid hvb
  have HVL : Hid (vz.length = n) := Lib.hid (by rw [← HV.out.2.1.len, HV.out.1])
  have hP := phT_all hn1 hn2
  have HLV := Lib.hid (lines_ok HV.out.2.1 hvb HV.out.1 hn1 hn2 hP)
  have hdu : DyL 2 (vs ++ [y]) (slidZ vz zi) := by rw [← HVS.out]; exact slid_dy HV.out.2.1 HY.out.1
  have HLU := Lib.hid (lines_ok hdu (slid_bd HVL.out hn1 hvb HY.out.2) HSL.out hn1 hn2 hP)
  have HPH := Lib.hid hP
  clear hvb hP hdu HVS HLD hzi hz16
  generalize vs ++ [y] = us at *
  have HC := Lib.hid (lines_L HRV5.out HV.out.1 HLV.out)
  go_wp2_with fail
  refine HC.out.mono ?_
  rintro e w7 ⟨a7, c7, rfl, r7, b7⟩
  have HRL := Lib.hid r7
  have HRV7 := Lib.hid (HRV5.out.below b7 (Nat.le_refl _))
  have HRU7 := Lib.hid (HRU.out.below b7 (Nat.le_refl _))
  have HR7 := Lib.hid (And.intro (HR5.out.1.below b7 (Nat.le_refl _)) HR5.out.2)
  have HBW7 := Lib.hid (HBW5.out.trans (b7.mono HBW5.out.size))
  clear r7 b7 HC HRV5 HRU HR5 HBW5
  have HC := Lib.hid (implBack_any HRL.out HLV.out HVB.out hn1 hn2 HPH.out)
  go_wp2_with fail
  refine HC.out.mono ?_
  rintro e w8 ⟨a8, c8, bs, rfl, hbl, hbo, r8, b8⟩
  have HBL := Lib.hid hbl
  have HBO := Lib.hid hbo
  have HRB := Lib.hid r8
  have HRL8 := Lib.hid (HRL.out.below b8 (Nat.le_refl _))
  have HRV8 := Lib.hid (HRV7.out.below b8 (Nat.le_refl _))
  have HRU8 := Lib.hid (HRU7.out.below b8 (Nat.le_refl _))
  have HR8 := Lib.hid (And.intro (HR7.out.1.below b8 (Nat.le_refl _)) HR7.out.2)
  have HBW8 := Lib.hid (HBW7.out.trans (b8.mono HBW7.out.size))
  clear r8 b8 HC HRL HRV7 HRU7 HR7 HBW7 hbl hbo
  have HC := Lib.hid (lines_L HRU8.out HSL.out HLU.out)
  go_wp2_with fail
  refine HC.out.mono ?_
  rintro e w9 ⟨a9, c9, rfl, r9, b9⟩
  have HRO := Lib.hid r9
  have QB := Lib.hid (HRB.out.below b9 (Nat.le_refl _))
  have QL := Lib.hid (HRL8.out.below b9 (Nat.le_refl _))
  have QV := Lib.hid (HRV8.out.below b9 (Nat.le_refl _))
  have QR := Lib.hid (And.intro (HR8.out.1.below b9 (Nat.le_refl _)) HR8.out.2)
  have QW := Lib.hid (HBW8.out.trans (b9.mono HBW8.out.size))
  clear r9 b9 HC HRB HRL8 HRV8 HRU8 HR8 HBW8
  have hne : ((n : Int) != (n : Int)) = false := by simp
  go_wp2_with fail
  clear hne
  go_loopw [15, 97] (fun sv iv wr => ∃ k : Nat, k ≤ n ∧ iv = .int .i64 (k : Int) ∧ sv = .float .f64 (sumW vf k) ∧ Hid (Below w9.heap.size w9 wr)) (fun _ iv _ => n - (intOf iv).toNat)
  case atStart => exact ⟨0, Nat.zero_le _, rfl, rfl, Lib.hid (Below.refl _ _)⟩
  case round =>
    obtain ⟨k, hk, rfl, rfl, HB⟩ := hrel
    by_cases hlt : k < n
    · as_aux_lemma =>
        have hlz : (k : Int) < (n : Int) := by omega
        obtain ⟨wk, rfl⟩ : ∃ z : World, z = wr := ⟨_, rfl⟩
        have ek : IntKind.i64.wrap ((k : Int) + 1) = (k : Int) + 1 := IntWalk.i64_in _ (by omega)
        have qv := QV.out.below HB.out (Nat.le_refl _)
        have HLN := Lib.hid (line_L qv HV.out.1 (HV.out.2.1.vec (by rw [HV.out.1]; omega) (by rw [HV.out.1]; omega)) HLV.out hlt)
        have ixv := qv.idx und_fs siz_fs wk k (by rw [HV.out.1]; exact hlt)
        rw [HV.out.1] at ixv
        have clv := qv.cell k (by rw [HV.out.1]; exact hlt)
        have hxd : Dy 2 (vf[k]?.getD default) (at0 vz k) := HV.out.2.1.at' k (by rw [HV.out.1]; exact hlt)
        have SO := sum_ok HV.out.2.1 HVB.out HV.out.1 hn2 (k + 1) (by omega)
        have asum := ar (SO.2.2 k (by omega)) 34
        obtain ⟨s2, hs2⟩ : ∃ s2, sumW vf (k + 1) = s2 := ⟨_, rfl⟩
        rw [hs2] at asum
        have HS2 := Lib.hid hs2
        have cv1 := fun w' : World => run_convert_float_float (P := Try.prog) w' 28 34 .f32 .f64 (vf[k]?.getD default) _ und_f32 und_f64 (wid_val hxd.N).2.2
        have HXD := Lib.hid hxd
        clear qv hxd SO hs2
        generalize sumW vf k = s1 at *
        generalize hx : vf[k]?.getD default = x at *
        generalize hwx : wid x = wx at *
        have HWX := Lib.hid hwx
        clear hwx
        go_wp2_with fail
        refine HLN.out.mono ?_
        rintro e w2 ⟨rfl, hb2⟩
        have HB2 := Lib.hid (HB.out.trans (hb2.mono HB.out.size))
        clear hb2 HB asum HLN clv ixv
        -- the facts
        have hNk := (HLV.out.at' k hlt).2
        have hUk := (HLU.out.at' k hlt).2
        have hx0 : Dy 2 (vf[0]?.getD default) (at0 vz 0) := HV.out.2.1.at' 0 (by rw [HV.out.1]; omega)
        obtain ⟨hS, ⟨m1, m2⟩, ⟨m3, m4⟩⟩ := slide_near HVL.out hn1 hn2 hlt HVB.out HY.out.2 HPH.out hx0 HY.out.1 hNk hUk
        have hM := mov_ok hS.rN hS.iN hUk.rN hUk.iN m1 m2 m3 m4
        have HSD := Lib.hid (fun w : World => implSlide_any (w := w) hS hNk.rN hNk.iN hx0.N HY.out.1.N hlt hn2)
        have hG := back_gap (HVB.out k) (HBO.out k hlt) HXD.out
        obtain ⟨bN, _, _⟩ := HBO.out k hlt
        rw [HWX.out] at hG
        have hzz : (linsR vf)[k]?.getD default = lineAt (linsR vf) k := rfl
        have huu : (linsR us)[k]?.getD default = lineAt (linsR us) k := rfl
        rw [hzz] at hNk hM HSD
        rw [huu] at hUk hM
        have HNZ := Lib.hid (And.intro hNk.rN hNk.iN)
        clear hNk hUk m1 m2 m3 m4 hS
        obtain ⟨ι, hnx, G, hG2, hSu⟩ := calm_family w2
        have HQL2 := Lib.hid (QL.out.below HB2.out (Nat.le_refl _))
        have HQV2 := Lib.hid (QV.out.below HB2.out (Nat.le_refl _))
        have ixz := fun w' : World => HQL2.out.idx und_cs siz_cs w' k (by rw [HLV.out.len]; exact hlt)
        rw [HLV.out.len] at ixz
        have clz : ∀ i, (G i).cell? (elt a7 k) = some (.complex .f32 (lineAt (linsR vf) k).1 (lineAt (linsR vf) k).2) := fun i => (HQL2.out.below (hG2 i) (Nat.le_refl _)).cell k (by rw [HLV.out.len]; exact hlt)
        have ix0 := fun w' : World => HQV2.out.idx und_fs siz_fs w' 0 (by rw [HV.out.1]; omega)
        rw [HV.out.1, show ((0 : Nat) : Int) = 0 from rfl] at ix0
        have cl0 := fun i => (HQV2.out.below (hG2 i) (Nat.le_refl _)).cell 0 (by rw [HV.out.1]; omega)
        generalize bpRe (fo3 .add (fo3 .sub (lineAt (linsR vf) k).1 (vf[0]?.getD default)) y, (lineAt (linsR vf) k).2) k n = mr at *
        generalize bpIm (fo3 .add (fo3 .sub (lineAt (linsR vf) k).1 (vf[0]?.getD default)) y, (lineAt (linsR vf) k).2) k n = mi at *
        generalize vf[0]?.getD default = x0 at *
        have clz2 : ∀ w' : World, Below w9.heap.size w9 w' → w'.cell? (elt a7 k) = some (.complex .f32 (lineAt (linsR vf) k).1 (lineAt (linsR vf) k).2) := fun w' hb => (QL.out.below hb (Nat.le_refl _)).cell k (by rw [HLV.out.len]; exact hlt)
        generalize (lineAt (linsR vf) k).1 = zr at *
        generalize (lineAt (linsR vf) k).2 = zj at *
        have HG := Lib.hid hG2
        have HSU := Lib.hid hSu
        have HCZ := Lib.hid clz2
        have HGG := Lib.hid hG
        have HMM := Lib.hid hM
        have HBN := Lib.hid bN
        clear hG2 hSu HQL2 HQV2 clz2 hG hM bN hzz huu hx0
        go_wp2_with fail
        refine wp_region_calm (G := G) (by kernel_rfl) (by kernel_rfl) HSU.out ?_
        repeat (go_big_quiet_step ((go_at_call 49; exact calm_call HG.out HSU.out (HSD.out _))))
        refine wpQuiet_nil ?_
        intro _ hw'
        obtain ⟨gi, hw''⟩ := hw'
        subst hw''
        have HB3 := Lib.hid (HB2.out.trans ((HG.out gi).mono HB2.out.size))
        generalize G gi = w3 at *
        clear HG HSU HB2 clz cl0 ix0 HSD
        have clz := HCZ.out w3 HB3.out
        have rb := QB.out.below HB3.out (Nat.le_refl _)
        have ixb := fun w' : World => rb.idx und_fs siz_fs w' k (by rw [HBL.out]; exact hlt)
        rw [HBL.out] at ixb
        have clb := rb.cell k (by rw [HBL.out]; exact hlt)
        have rv := QV.out.below HB3.out (Nat.le_refl _)
        have ixv := fun w' : World => rv.idx und_fs siz_fs w' k (by rw [HV.out.1]; exact hlt)
        rw [HV.out.1] at ixv
        have clv := rv.cell k (by rw [HV.out.1]; exact hlt)
        rw [hx] at clv
        have ro := HRO.out.below HB3.out (Nat.le_refl _)
        have ixo := fun w' : World => ro.idx und_cs siz_cs w' k (by rw [HLU.out.len]; exact hlt)
        rw [HLU.out.len] at ixo
        have clo : w3.cell? (elt a9 k) = some (.complex .f32 (lineAt (linsR us) k).1 (lineAt (linsR us) k).2) := ro.cell k (by rw [HLU.out.len]; exact hlt)
        have cv2 := fun w' : World => run_convert_float_float (P := Try.prog) w' 28 34 .f32 .f64 (bs[k]?.getD default) _ und_f32 und_f64 (wid_val HBN.out).2.2
        have HSM : Hid (∀ w : World, Calls Try.prog 50 #[.complex .f32 zr zj, .complex .f32 zr zj] w fun e w' => e = .returned (.bool true) ∧ w = w') := Lib.hid (fun w => by
          have := sameCpx_any (w := w) HNZ.out.1 HNZ.out.2 HNZ.out.1 HNZ.out.2
          rwa [sameB_self, sameB_self] at this)
        have HGP := Lib.hid (fun w : World => b10Gap_any (w := w) (wid_ok HBN.out).1 (by rw [← HWX.out]; exact (wid_ok HXD.out.N).1) HGG.out.1)
        have HLG := Lib.hid (fun w : World => specLong_any (w := w) HMM.out.L)
        have cv3 := fun w' : World => run_convert_float_float (P := Try.prog) w' 28 34 .f32 .f64 _ _ und_f32 und_f64 (wid_val HMM.out.L.N).2.2
        have csub := fun w' : World => run_csub HMM.out w' 72
        have hc2 : c001 = 4562254508917369340 := rfl
        have o1 := HGG.out.2
        have o2 := HMM.out.g
        rw [hc2] at o1 o2
        generalize gapT (wid (bs[k]?.getD default)) wx = gp at *
        generalize wid (bs[k]?.getD default) = wb at *
        generalize bs[k]?.getD default = bk at *
        generalize wid (longN (fo3 .sub mr (lineAt (linsR us) k).1) (fo3 .sub mi (lineAt (linsR us) k).2)) = wl at *
        generalize longN (fo3 .sub mr (lineAt (linsR us) k).1) (fo3 .sub mi (lineAt (linsR us) k).2) = lg at *
        clear HGG HMM
        generalize fo3 .sub mr (lineAt (linsR us) k).1 = dr at *
        generalize fo3 .sub mi (lineAt (linsR us) k).2 = di at *
        generalize (lineAt (linsR us) k).1 = ur at *
        generalize (lineAt (linsR us) k).2 = ui at *
        clear rb rv ro HCZ HXD HWX HNZ HBN hc2 hx
        go_wp2_with fail
        go_quiet (first | (go_at_call 50; exact quietW (HSM.out _)) | (go_at_call 40; exact quietW (HGP.out _)) | (go_at_call 51; exact quietW (HLG.out _)))
        clear clz ixb clb ixv clv ixo clo cv1 cv2 cv3 csub o1 o2 HSM HGP HLG ixz
        go_wp2
        go_roundw
        case rel => exact ⟨k + 1, by omega, by go_num, by rw [HS2.out], Lib.hid (HB3.out.trans (below_of_drewN _ _ _))⟩
        case measure => simp [intOf]; omega
    · as_aux_lemma =>
        obtain rfl : k = n := by omega
        have hlz : ¬ (k : Int) < (k : Int) := by omega
        obtain ⟨wk, rfl⟩ : ∃ z : World, z = wr := ⟨_, rfl⟩
        have HR := Lib.hid (And.intro (QR.out.1.below HB.out (Nat.le_refl _)) QR.out.2)
        have HL := Lib.hid (QL.out.below HB.out (Nat.le_refl _))
        have HW := Lib.hid (QW.out.trans (HB.out.mono QW.out.size))
        have hSG := sum_gap HV.out.2.1 HVB.out HV.out.1 hn1 hn2 HLV.out
        have nS := (sum_ok HV.out.2.1 HVB.out HV.out.1 hn2 k (Nat.le_refl _)).1
        have HSG := Lib.hid (And.intro hSG nS)
        have HLS := Lib.hid (longs_ok HVB.out hn1 hn2 HLV.out)
        have HSMALL := Lib.hid (fun (i : Nat) (hi : i < k) => line_small HLV.out hn1 hi)
        have hll := HLV.out.len
        have hrN := (HLV.out.at' 0 (by omega)).2.rN
        have e00 : (linsR vf)[0]?.getD default = lineAt (linsR vf) 0 := rfl
        rw [e00] at hrN
        have HRN := Lib.hid hrN
        clear hrN e00 hSG nS QR QL QW HB QB QV HRO HLV HLU HVB HVL HPH HBO HBL HY HV HSL
        generalize sumW vf k = sm at *
        generalize linsR vf = O at *
        obtain ⟨N1, hN1⟩ : ∃ N1, k + 1 = N1 := ⟨_, rfl⟩
        have en : (k : Int) + 1 = (N1 : Int) := by omega
        have enw : IntKind.i64.wrap (N1 : Int) = (N1 : Int) := IntWalk.i64_in _ (by omega)
        go_wp2_with fail
        clear hlz
        refine (b10At_any (i := 2) (n := N1) HR.out.1 HR.out.2 (by omega) (by omega) (by omega)).mono ?_
        rintro e w2 ⟨⟨kp, rfl, hkp⟩, rfl⟩
        have hkp2 : kp ≤ k := by omega
        clear en enw hN1 hkp HR
        have HC := Lib.hid (implTop_any (keep := kp) HL.out hll hn1 hn2 hkp2 HLS.out)
        go_wp2_with fail
        refine HC.out.mono ?_
        rintro e w3 ⟨a3, c3, rfl, r3, b3⟩
        have HT := Lib.hid r3
        have HL3 := Lib.hid (HL.out.below b3 (Nat.le_refl _))
        have HW3 := Lib.hid (HW.out.trans (b3.mono HW.out.size))
        clear r3 b3 HC HL HW
        have HC := Lib.hid (implTop_any (keep := k) HL3.out hll hn1 hn2 (Nat.le_refl _) HLS.out)
        go_wp2_with fail
        refine HC.out.mono ?_
        rintro e w4 ⟨a4, c4, rfl, r4, b4⟩
        have HA := Lib.hid r4
        have HT4 := Lib.hid (HT.out.below b4 (Nat.le_refl _))
        have HL4 := Lib.hid (HL3.out.below b4 (Nat.le_refl _))
        have HW4 := Lib.hid (HW3.out.trans (b4.mono HW3.out.size))
        clear r4 b4 HC HL3 HW3 HT
        have hPK := pick_ok (h := topK O) (n := k) (room := (k : Int)) (by omega)
        have HAE : Hid (∀ i, i < k → lineAt (topL O (pickL (topK O) k (k : Int))) i = lineAt O i) := Lib.hid (fun i hi => by
          have hm := hPK.all (by omega) i hi
          have := topL_get (O := O) (sel := pickL (topK O) k (k : Int)) (k := i) (by omega)
          rw [if_pos hm] at this
          exact this)
        have HAL : Hid ((topL O (pickL (topK O) k (k : Int))).length = k) := Lib.hid (by rw [topL_len, hll])
        generalize topL O (pickL (topK O) k (k : Int)) = OA at *
        have HKL := Lib.hid (kept_le (O := O) (n := k) (keep := kp) hn2)
        have HML := Lib.hid (fun l m => most_le (O := O) (n := k) (keep := kp) (l := l) (m := m) hll hn2 HLS.out)
        obtain ⟨sel, hsel⟩ : ∃ s, pickL (topK O) k (kp : Int) = s := ⟨_, rfl⟩
        rw [hsel] at HT4 HKL HML
        clear hPK hsel
        have hne : ((k : Int) != (k : Int)) = false := by simp
        have ix0 := fun w' : World => HL4.out.idx und_cs siz_cs w' 0 (by rw [hll]; omega)
        rw [hll, show ((0 : Nat) : Int) = 0 from rfl] at ix0
        have cl0 : w4.cell? (elt a7 0) = some (.complex .f32 (lineAt O 0).1 (lineAt O 0).2) := HL4.out.cell 0 (by rw [hll]; omega)
        have cv0 := fun w' : World => run_convert_float_float (P := Try.prog) w' 28 34 .f32 .f64 (lineAt O 0).1 _ und_f32 und_f64 (wid_val HRN.out).2.2
        have HGP := Lib.hid (fun w : World => b10Gap_any (w := w) HSG.out.2 (wid_ok HRN.out).1 HSG.out.1.1)
        have hc2 : c001 = 4562254508917369340 := rfl
        have o1 := HSG.out.1.2
        rw [hc2] at o1
        clear HSG HRN
        generalize gapT sm (wid (lineAt O 0).1) = gp at *
        generalize wid (lineAt O 0).1 = wr0 at *
        generalize (lineAt O 0).1 = r0 at *
        generalize (lineAt O 0).2 = i0 at *
        go_wp2_with fail
        refine (HGP.out _).mono ?_
        rintro e w5 ⟨rfl, rfl⟩
        go_wp2_with fail
        clear hne ix0 cl0 cv0 HGP o1 hc2
        go_loopw [26, 27, 28, 214] (fun cw lw mw iv wr => ∃ (j c l m : Nat), j ≤ k ∧ c ≤ 12 ∧ iv = .int .i64 (j : Int) ∧ cw = .int .i64 (c : Int) ∧ lw = .float .f32 l ∧ mw = .float .f32 m ∧ Hid (c = (List.range j).countP (fun i => topB O sel i)) ∧ Hid (leastV O sel j l) ∧ Hid (mostV O sel j m) ∧ Hid (Below w4.heap.size w4 wr)) (fun _ _ _ iv _ => k - (intOf iv).toNat)
        case atStart => exact ⟨0, 0, 1232348160, 0, Nat.zero_le _, by omega, rfl, rfl, rfl, rfl, Lib.hid rfl, Lib.hid (leastV_0 O sel), Lib.hid (mostV_0 O sel), Lib.hid (Below.refl _ _)⟩
        case round =>
          obtain ⟨j, c, l, m, hj, hc12, rfl, rfl, rfl, rfl, HCC, HLV, HMV, HB⟩ := hrel
          by_cases hlt : j < k
          · as_aux_lemma =>
              have hlz : (j : Int) < (k : Int) := by omega
              obtain ⟨wj, rfl⟩ : ∃ z : World, z = wr := ⟨_, rfl⟩
              have ej : IntKind.i64.wrap ((j : Int) + 1) = (j : Int) + 1 := IntWalk.i64_in _ (by omega)
              have ec : IntKind.i64.wrap ((c : Int) + 1) = (c : Int) + 1 := IntWalk.i64_in _ (by omega)
              have TA := top_at (sel := sel) HLS.out (k := j) (by omega) (HSMALL.out j hlt)
              have LJ := HLS.out j (by omega)
              have HCN : Hid ((List.range (j + 1)).countP (fun i => topB O sel i) = (List.range j).countP (fun i => topB O sel i) + if topB O sel j then 1 else 0) := Lib.hid (by rw [List.range_succ, List.countP_append, List.countP_singleton])
              have qa := HA.out.below HB.out (Nat.le_refl _)
              have ixa := fun w' : World => qa.idx und_cs siz_cs w' j (by rw [HAL.out]; exact hlt)
              rw [HAL.out] at ixa
              have cla : wj.cell? (elt a4 j) = some (.complex .f32 (lineAt OA j).1 (lineAt OA j).2) := qa.cell j (by rw [HAL.out]; exact hlt)
              rw [HAE.out j hlt] at cla
              have qt := HT4.out.below HB.out (Nat.le_refl _)
              have ixt := fun w' : World => qt.idx und_cs siz_cs w' j (by rw [topL_len, hll]; exact hlt)
              rw [topL_len, hll] at ixt
              have clt : wj.cell? (elt a3 j) = some (.complex .f32 (lineAt (topL O sel) j).1 (lineAt (topL O sel) j).2) := qt.cell j (by rw [topL_len, hll]; exact hlt)
              have ql := HL4.out.below HB.out (Nat.le_refl _)
              have ixl := fun w' : World => ql.idx und_cs siz_cs w' j (by rw [hll]; exact hlt)
              rw [hll] at ixl
              have cll : wj.cell? (elt a7 j) = some (.complex .f32 (lineAt O j).1 (lineAt O j).2) := ql.cell j (by rw [hll]; exact hlt)
              have HCT : Hid (∀ w', Below w4.heap.size w4 w' → w'.cell? (elt a3 j) = some (.complex .f32 (lineAt (topL O sel) j).1 (lineAt (topL O sel) j).2)) := Lib.hid (fun w' hb => (HT4.out.below hb (Nat.le_refl _)).cell j (by rw [topL_len, hll]; exact hlt))
              have HCL : Hid (∀ w', Below w4.heap.size w4 w' → w'.cell? (elt a7 j) = some (.complex .f32 (lineAt O j).1 (lineAt O j).2)) := Lib.hid (fun w' hb => (HL4.out.below hb (Nat.le_refl _)).cell j (by rw [hll]; exact hlt))
              have HSM : Hid (∀ w : World, Calls Try.prog 50 #[.complex .f32 (lineAt O j).1 (lineAt O j).2, .complex .f32 (lineAt O j).1 (lineAt O j).2] w fun e w' => e = .returned (.bool true) ∧ w = w') := Lib.hid (fun w => by
                have := sameCpx_any (w := w) LJ.rN LJ.iN LJ.rN LJ.iN
                rwa [sameB_self, sameB_self] at this)
              have HST := Lib.hid (fun w : World => sameCpx_any (w := w) TA.tN.1 TA.tN.2 LJ.rN LJ.iN)
              have HLG := Lib.hid (fun w : World => specLong_any (w := w) LJ)
              have HTN := Lib.hid TA.tN
              have HTC := TA.cond
              have HTZ := Lib.hid TA.zero
              have HLN := Lib.hid LJ.N
              have elo : longN (lineAt O j).1 (lineAt O j).2 = longAt O j := rfl
              rw [elo] at HLG HLN
              clear elo LJ TA qa qt ql
              obtain ⟨lg, hlg⟩ : ∃ v, longAt O j = v := ⟨_, rfl⟩
              have HEL := Lib.hid hlg
              rw [hlg] at HLG HLN HTC
              clear hlg
              obtain ⟨B, hB⟩ : ∃ v, topB O sel j = v := ⟨_, rfl⟩
              have HEB := Lib.hid hB
              rw [hB] at HTC HTZ HCN
              clear hB
              generalize hsm : (sameB (lineAt (topL O sel) j).1 (lineAt O j).1 && sameB (lineAt (topL O sel) j).2 (lineAt O j).2) = sm at *
              clear hsm
              generalize (lineAt (topL O sel) j).1 = tr at *
              generalize (lineAt (topL O sel) j).2 = ti at *
              generalize (lineAt O j).1 = zr at *
              generalize (lineAt O j).2 = zj at *
              obtain ⟨lm, hlm, rmin⟩ := run_min_f HLV.out.1 HLN.out
              obtain ⟨mm, hmm, rmax⟩ := run_max_f HMV.out.1 HLN.out
              have HLM := Lib.hid hlm
              have HMM := Lib.hid hmm
              clear hlm hmm
              go_wp2_with fail
              go_quiet ((go_at_call 50; exact quietW (HSM.out _)))
              replace HB := Lib.hid (HB.out.trans (below_of_drewN wj nq _))
              generalize wj.drewN nq = wq at *
              clear clt cll
              have clt := HCT.out wq HB.out
              have cll := HCL.out wq HB.out
              clear HCT HCL
              go_wp2_with fail
              refine (HLG.out _).mono ?_
              rintro e w6 ⟨rfl, rfl⟩
              clear ixa cla HSM HLG
              cases B with
              | true =>
                rw [Bool.and_eq_true] at HTC
                obtain ⟨rfl, og⟩ := HTC
                unfold gtzB at og
                rw [if_pos rfl] at HCN
                go_wp2_with fail
                go_quiet ((go_at_call 50; exact quietW (HST.out _)))
                go_wp2
                go_roundw
                case rel => exact ⟨j + 1, c + 1, lm, m, by omega, by have := HCC.out; have := List.countP_le_length (p := fun i => topB O sel i) (l := List.range j); rw [List.length_range] at this; omega, by go_num, by go_num, rfl, rfl, Lib.hid (by rw [HCN.out, HCC.out]), Lib.hid (leastV_to (by rw [HEL.out]; exact HLN.out) HLV.out HEB.out (by rw [HEL.out]; exact HLM.out)), Lib.hid (mostV_up HMV.out), Lib.hid (HB.out.trans (below_of_drewN _ _ _))⟩
                case measure => simp [intOf]; omega
              | false =>
                have hz := HTZ.out rfl
                have rz := fun w' : World => run_ceq0 HTN.out.1 HTN.out.2 hz.1 hz.2 w'
                rw [if_neg (by decide)] at HCN
                clear hz
                cases sm with
                | false =>
                  go_wp2_with fail
                  go_quiet ((go_at_call 50; exact quietW (HST.out _)))
                  go_wp2
                  go_roundw
                  case rel => exact ⟨j + 1, c, l, mm, by omega, hc12, by go_num, rfl, rfl, rfl, Lib.hid (by rw [HCN.out, HCC.out]; rfl), Lib.hid (leastV_up HLV.out), Lib.hid (mostV_to (by rw [HEL.out]; exact HLN.out) HMV.out HEB.out (by rw [HEL.out]; exact HMM.out)), Lib.hid (HB.out.trans (below_of_drewN _ _ _))⟩
                  case measure => simp [intOf]; omega
                | true =>
                  rw [Bool.true_and] at HTC
                  unfold gtzB at HTC
                  go_wp2_with fail
                  go_quiet ((go_at_call 50; exact quietW (HST.out _)))
                  go_wp2
                  go_roundw
                  case rel => exact ⟨j + 1, c, l, mm, by omega, hc12, by go_num, rfl, rfl, rfl, Lib.hid (by rw [HCN.out, HCC.out]; rfl), Lib.hid (leastV_up HLV.out), Lib.hid (mostV_to (by rw [HEL.out]; exact HLN.out) HMV.out HEB.out (by rw [HEL.out]; exact HMM.out)), Lib.hid (HB.out.trans (below_of_drewN _ _ _))⟩
                  case measure => simp [intOf]; omega
          · as_aux_lemma =>
              obtain rfl : j = k := by omega
              have hlz : ¬ (j : Int) < (j : Int) := by omega
              obtain ⟨wj, rfl⟩ : ∃ z : World, z = wr := ⟨_, rfl⟩
              have hck : c ≤ kp := by rw [HCC.out]; exact HKL.out
              have hck2 : (c : Int) ≤ (kp : Int) := by omega
              have hml := HML.out l m HLV.out HMV.out
              have hQ := Lib.hid (HW4.out.trans (HB.out.mono HW4.out.size))
              obtain ⟨o, ho, hog⟩ := ordLe HMV.out.1 HLV.out.1 hml
              clear hml HW4 HB HML HKL HLS HSMALL HT4 HL4 HA HAE HAL HCC HLV HMV hck
              cases o with
              | gt => cases hog
              | lt =>
                by_cases h1 : kp = j
                · have h1z : ((kp : Int) == (j : Int)) = true := by rw [h1]; exact beq_self_eq_true _
                  go_wp2
                  go_ret
                  exact ⟨rfl, hQ.out⟩
                · have h1z : ((kp : Int) == (j : Int)) = false := by simp; omega
                  by_cases h2 : c = 0
                  · have h2z : ((c : Int) == 0) = true := by rw [h2]; rfl
                    go_wp2
                    go_ret
                    exact ⟨rfl, hQ.out⟩
                  · have h2z : ((c : Int) == 0) = false := by simp; omega
                    go_wp2
                    go_ret
                    exact ⟨rfl, hQ.out⟩
              | eq =>
                by_cases h1 : kp = j
                · have h1z : ((kp : Int) == (j : Int)) = true := by rw [h1]; exact beq_self_eq_true _
                  go_wp2
                  go_ret
                  exact ⟨rfl, hQ.out⟩
                · have h1z : ((kp : Int) == (j : Int)) = false := by simp; omega
                  by_cases h2 : c = 0
                  · have h2z : ((c : Int) == 0) = true := by rw [h2]; rfl
                    go_wp2
                    go_ret
                    exact ⟨rfl, hQ.out⟩
                  · have h2z : ((c : Int) == 0) = false := by simp; omega
                    go_wp2
                    go_ret
                    exact ⟨rfl, hQ.out⟩

end Go.Proofs.Ytfclkbppmkjkeaa
