/- The exponential function in both texts. -/
import Derived.Test.YtmmpemfhbnkomaaQJd1
import Derived.Deep.DrawnRows
import Derived.Deep.Cut
import Derived.Deep.CutBlock
set_option linter.unusedVariables false
set_option linter.unusedSimpArgs false
namespace Go.Proofs.Ytmmpemfhbnkomaa
open Go.RowKit
attribute [local go_sem ↓] Go.wp_at_zero Go.wp_at_succ

def flOf : Value → Nat
  | .float _ b => b
  | _ => 0
theorem kF_ge : ∀ i : Fin 12, FloatKind.f64.format.order (kF i.val) 4607182418800017408 = some .gt ∨ FloatKind.f64.format.order (kF i.val) 4607182418800017408 = some .eq := by decide +kernel
theorem kF_end : FloatKind.f64.format.order (kF 12) 4607182418800017408 = some .lt := by decide +kernel
theorem kF_sub : ∀ i : Fin 12, fbin .sub .f64 (some (kF i.val)) (some 4607182418800017408) = some (kF (i.val + 1)) := by decide +kernel
theorem kF_dn : ∀ i : Fin 12, kF (i.val + 1) < kF i.val := by decide +kernel
theorem kF_cn : ∀ i : Fin 13, cn .f64 (kF i.val) = some (kF i.val) := by decide +kernel
theorem kF_0 : kF 0 = 4622945017495814144 := by decide +kernel
theorem one_cn : cn .f64 4607182418800017408 = some 4607182418800017408 := by decide +kernel
theorem c256_cn : cn .f64 4643211215818981376 = some 4643211215818981376 := by decide +kernel
theorem numB_cn {B : Int} {s : Bool} {k : FloatKind} {b : Nat} (h : numB B s (k.decode b)) : cn k b = some b := by
  obtain ⟨m, e, hd, _⟩ := h
  unfold cn; rw [hd]; rfl
theorem sgn_cn {s : Bool} {k : FloatKind} {b : Nat} (h : sgD s (k.decode b)) : cn k b = some b := by
  unfold cn
  rcases h with ⟨m, e, hd⟩ | hd <;> rw [hd] <;> rfl

set_option maxRecDepth 20000 in
set_option maxHeartbeats 4000000 in
theorem implExp_any {x : Nat} {w : World} (h : sgD true (FloatKind.f32.decode x)) :
    Calls Try.prog 24 #[.float .f32 x] w (RetF w (expO x)) := by
  have ho1 := (order_p200 h).1
  by_cases hlt : FloatKind.f32.format.order x 3276275712 = some .lt
  · have he : expO x = some 0 := by unfold expO; rw [if_pos hlt]
    rw [he]
    clear he h
    go_enter Try.func24, Try.ntmps24
    go_wp2
    go_ret
    exact ⟨0, rfl, cn_zero, Below.refl _ _⟩
  · have he : expO x = narrow (squareF (hornerF (expT x) 12) 8) := by unfold expO; rw [if_neg hlt]
    rw [he]
    have ho2 : (FloatKind.f32.format.order x 3276275712 == some Ordering.lt) = false := by simpa using hlt
    obtain ⟨t, ht, htn⟩ := expT_ok h hlt
    have HFIT := Lib.hid (exp_fits h hlt)
    have HP : Hid (∀ i, i ≤ 12 → ∃ p, hornerF (some t) i = some p ∧ numB 0 false (FloatKind.f64.decode p)) := Lib.hid (fun i hi => hornerF_le htn i hi)
    have HT := Lib.hid ht
    have htc := numB_cn htn
    rw [ht]
    rw [ht] at HFIT
    have HX := Lib.hid (sgn_cn h)
    have HTC := Lib.hid htc
    clear he ht htn htc h hlt
    generalize hres : narrow (squareF (hornerF (some t) 12) 8) = res
    have HRES := Lib.hid hres
    clear hres
    go_enter Try.func24, Try.ntmps24
    go_upto_region 6 with (first | (refine wpl_widen rfl _ _ _ rfl und_f32 und_f64 _ rfl ?_; rintro q w' ⟨n, rfl⟩ hq; have HQ := Lib.hid hq; clear hq) | (refine wpl_fbin rfl _ _ _ _ _ rfl rfl .f64 _ _ rfl rfl ?_; rintro r w' ⟨n, rfl⟩ hr; have HR := Lib.hid hr; clear hr))
    have hrt : cn .f64 r = some t := by rw [HR.out, HQ.out, HX.out, c256_cn]; exact HT.out
    obtain ⟨e, _⟩ := cn_some hrt
    have e := e.symm
    subst e
    clear hrt HR HQ HT HX
    generalize hwa : w.drewN _ = wa
    have HB : Hid (Below w.heap.size w wa) := Lib.hid (by rw [← hwa]; exact below_of_drewN _ _ _)
    clear hwa
    go_wp2
    have hk0 := kF_0
    go_loopw [4, 5] (fun pi ki wr => ∃ (i p : Nat), i ≤ 12 ∧ ki = .float .f64 (kF i) ∧ pi = .float .f64 p ∧ Hid (hornerF (some t) i = some p) ∧ Hid (Below w.heap.size w wr)) (fun _ ki _ => flOf ki)
    case atStart => exact ⟨0, 4607182418800017408, by omega, by rw [hk0], rfl, Lib.hid rfl, HB⟩
    case round =>
      obtain ⟨i, p, hi, rfl, rfl, HH, HBr⟩ := hrel
      clear hk0
      by_cases hlt : i < 12
      · have hge : (FloatKind.f64.format.order (kF i) 4607182418800017408 == some .gt || FloatKind.f64.format.order (kF i) 4607182418800017408 == some .eq) = true := by
          rcases kF_ge ⟨i, hlt⟩ with h | h <;> (simp only at h; rw [h]; rfl)
        have hge1 : FloatKind.f64.format.order (kF i) 4607182418800017408 = some .gt ∨ FloatKind.f64.format.order (kF i) 4607182418800017408 = some .eq := kF_ge ⟨i, hlt⟩
        go_upto_region 9 with (first | (refine wpl_fbin rfl _ _ _ _ _ rfl rfl .f64 _ _ rfl rfl ?_; rintro r w' ⟨n, rfl⟩ hr; have HR := Lib.hid hr; clear hr))
        rename_i r1 n1 HR1 r2 n2 HR2
        obtain ⟨p', hp', hn'⟩ := HP.out (i + 1) (by omega)
        obtain ⟨p0, hp0, hn0⟩ := HP.out i (by omega)
        have e0 : p0 = p := by have h := HH.out; rw [hp0] at h; simpa using h
        subst e0
        have hr : cn .f64 r = some p' := by
          rw [HR.out, HR2.out, HR1.out, one_cn, HTC.out, numB_cn hn0, kF_cn ⟨i, by omega⟩, ← hp']
          show _ = fbin .add .f64 (some 4607182418800017408) (fbin .quo .f64 (fbin .mul .f64 (some t) (hornerF (some t) i)) (some (kF i)))
          rw [hp0]
        obtain ⟨e, _⟩ := cn_some hr
        have e := e.symm
        subst e
        have HH' := Lib.hid hp'
        clear hr HR HR1 HR2 hp' hn' hp0 hn0 HH hge hge1
        generalize hwb : wr.drewN _ = wb
        have HBb : Hid (Below w.heap.size w wb) := Lib.hid (by rw [← hwb]; exact HBr.out.trans (below_of_drewN _ _ _))
        clear hwb HBr
        go_wp2_with (first | (refine wpl_fbin rfl _ _ _ _ _ rfl rfl .f64 _ _ rfl rfl ?_; rintro r w' ⟨n, rfl⟩ hr; have HR := Lib.hid hr; clear hr))
        have hk : cn .f64 r = some (kF (i + 1)) := by rw [HR.out, one_cn, kF_cn ⟨i, by omega⟩]; exact kF_sub ⟨i, hlt⟩
        obtain ⟨e, _⟩ := cn_some hk
        subst e
        have hdn := kF_dn ⟨i, hlt⟩
        go_roundw
        case rel => exact ⟨i + 1, _, by omega, rfl, rfl, HH', Lib.hid (HBb.out.trans (below_of_drewN _ _ _))⟩
        case measure => simp [flOf]; omega
      · obtain rfl : i = 12 := by omega
        have hge : (FloatKind.f64.format.order (kF 12) 4607182418800017408 == some .gt || FloatKind.f64.format.order (kF 12) 4607182418800017408 == some .eq) = false := by rw [kF_end]; rfl
        have hge1 := kF_end
        obtain ⟨p0, hp0, hn0⟩ := HP.out 12 (by omega)
        have e0 : p0 = p := by have h := HH.out; rw [hp0] at h; simpa using h
        subst e0
        have HSQ : Hid (∀ j, ∃ b, squareF (some p0) j = some b ∧ numB 0 false (FloatKind.f64.decode b)) := Lib.hid (fun j => squareF_le hn0 j)
        rw [hp0] at HFIT HRES
        clear hp0 hn0 HH HP
        go_wp2
        clear hge hge1
        go_loopw [4, 27] (fun pi ji wr' => ∃ (j b : Nat), j ≤ 8 ∧ ji = .int .i64 (j : Int) ∧ pi = .float .f64 b ∧ Hid (squareF (some p0) j = some b) ∧ Hid (Below w.heap.size w wr')) (fun _ ji _ => 8 - (intOf ji).toNat)
        case atStart => exact ⟨0, p0, by omega, rfl, rfl, Lib.hid rfl, HBr⟩
        case round =>
          obtain ⟨j, b, hj, rfl, rfl, HJ, HBj⟩ := hrel
          clear HBr
          have ewj : IntKind.i64.wrap ((j : Int) + 1) = (j : Int) + 1 := IntWalk.i64_in _ (by omega)
          by_cases hlj : j < 8
          · have hljz : (j : Int) < 8 := by omega
            obtain ⟨b', hb', hn'⟩ := HSQ.out (j + 1)
            obtain ⟨b0, hb0, hn0⟩ := HSQ.out j
            have e0 : b0 = b := by have h := HJ.out; rw [hb0] at h; simpa using h
            subst e0
            have HE : Hid (fbin .mul .f64 (cn .f64 b0) (cn .f64 b0) = some b') := Lib.hid (by
              rw [numB_cn hn0, ← hb']
              show _ = fbin .mul .f64 (squareF (some p0) j) (squareF (some p0) j)
              rw [hb0])
            have HJ' := Lib.hid hb'
            clear hb0 hn0 hb' hn' HJ
            go_wp2_with (first | (refine wpl_fbin rfl _ _ _ _ _ rfl rfl .f64 _ _ rfl rfl ?_; rintro r w' ⟨n, rfl⟩ hr; have HR := Lib.hid hr; clear hr))
            have hk : cn .f64 r = some b' := by rw [HR.out]; exact HE.out
            obtain ⟨e, _⟩ := cn_some hk
            subst e
            go_roundw
            case rel => exact ⟨j + 1, _, by omega, by go_num, rfl, HJ', Lib.hid (HBj.out.trans (below_of_drewN _ _ _))⟩
            case measure => simp [intOf]; omega
          · obtain rfl : j = 8 := by omega
            obtain ⟨b0, hb0, hn0⟩ := HSQ.out 8
            have e0 : b0 = b := by have h := HJ.out; rw [hb0] at h; simpa using h
            subst e0
            rw [hb0] at HRES HFIT
            have hbc := numB_cn hn0
            have HBC := Lib.hid hbc
            clear hb0 hn0 HJ hbc HSQ
            go_wp2_with (refine wpl_narrow rfl _ _ _ rfl (by kernel_rfl) (by kernel_rfl) _ rfl (by rw [HBC.out]; exact HFIT.out) ?_; rintro q2 w' ⟨n2, rfl⟩ hq2; have HQ2 := Lib.hid hq2; clear hq2)
            go_ret
            exact ⟨q2, rfl, by rw [HQ2.out, HBC.out]; exact HRES.out, HBj.out.trans (below_of_drewN _ _ _)⟩

/-- What the wide one returns. -/
def expW (x : Nat) : Option Nat := if FloatKind.f32.format.order x 3276275712 = some .lt then some 0 else squareF (hornerF (expT x) 12) 8
theorem expO_W {x : Nat} : expO x = narrow (expW x) := by
  unfold expO expW
  split
  · rfl
  · rfl
theorem floatOf_k : ∀ i : Fin 12, floatOfInt .f64 (12 - (i.val : Int)) = kF i.val := by decide +kernel

set_option maxRecDepth 20000 in
set_option maxHeartbeats 4000000 in
theorem l01ExpWide_any {x y : Nat} {w : World} (h : sgD true (FloatKind.f32.decode x)) (hy : y = FloatKind.f64.encode (FloatKind.f32.decode x)) :
    Calls Try.prog 26 #[.float .f64 y] w (RetF64 w (expW x)) := by
  have ho1 := (order_p200 h).2
  have ho0 := order_self64 h
  have hom := order_m200 h
  rw [← hy] at ho1 ho0 hom
  by_cases hlt : FloatKind.f32.format.order x 3276275712 = some .lt
  · have he : expW x = some 0 := by unfold expW; rw [if_pos hlt]
    rw [he]
    rw [hlt] at hom
    clear he h hy
    go_enter Try.func26, Try.ntmps26
    go_wp2
    go_ret
    exact ⟨0, rfl, by decide +kernel, Below.refl _ _⟩
  · have he : expW x = squareF (hornerF (expT x) 12) 8 := by unfold expW; rw [if_neg hlt]
    rw [he]
    have ho2 : (FloatKind.f64.format.order y 13864612927836782592 == some Ordering.lt) = false := by rw [hom]; simpa using hlt
    obtain ⟨t, ht, htn⟩ := expT_ok h hlt
    have HP : Hid (∀ i, i ≤ 12 → ∃ p, hornerF (some t) i = some p ∧ numB 0 false (FloatKind.f64.decode p)) := Lib.hid (fun i hi => hornerF_le htn i hi)
    have HT : Hid (fbin .quo .f64 (cn .f64 y) (cn .f64 4643211215818981376) = some t) := Lib.hid (by
      have hyc : cn .f64 y = some y := by
        rw [hy]
        have h2 : (FloatKind.f32.decode x).isNaN = false := sgn_notNaN h
        exact cn_write .f64 _ h2
      rw [hyc, c256_cn, ← ht, hy]; rfl)
    have HTC := Lib.hid (numB_cn htn)
    rw [ht]
    clear he ht htn h hlt hom hy
    generalize hres : squareF (hornerF (some t) 12) 8 = res
    have HRES := Lib.hid hres
    clear hres
    go_enter Try.func26, Try.ntmps26
    go_upto_region 8 with (first | (refine wpl_fbin rfl _ _ _ _ _ rfl rfl .f64 _ _ rfl rfl ?_; rintro r w' ⟨n, rfl⟩ hr; have HR := Lib.hid hr; clear hr))
    have hrt : cn .f64 r = some t := by rw [HR.out]; exact HT.out
    obtain ⟨e, _⟩ := cn_some hrt
    have e := e.symm
    subst e
    clear hrt HR HT
    generalize hwa : w.drewN _ = wa
    have HB : Hid (Below w.heap.size w wa) := Lib.hid (by rw [← hwa]; exact below_of_drewN _ _ _)
    clear hwa
    go_wp2
    go_loopw [4, 5] (fun pi ki wr => ∃ (i p : Nat), i ≤ 12 ∧ ki = .int .i64 (12 - (i : Int)) ∧ pi = .float .f64 p ∧ Hid (hornerF (some t) i = some p) ∧ Hid (Below w.heap.size w wr)) (fun _ ki _ => (intOf ki).toNat)
    case atStart => exact ⟨0, 4607182418800017408, by omega, rfl, rfl, Lib.hid rfl, HB⟩
    case round =>
      obtain ⟨i, p, hi, rfl, rfl, HH, HBr⟩ := hrel
      by_cases hlt : i < 12
      · have hge : (1 : Int) ≤ 12 - (i : Int) := by omega
        have ewk : IntKind.i64.wrap (12 - (i : Int) - 1) = 12 - (i : Int) - 1 := IntWalk.i64_in _ (by omega)
        have hfk := floatOf_k ⟨i, hlt⟩
        simp only at hfk
        go_upto_region 11 with (first | (refine wpl_fbin rfl _ _ _ _ _ rfl rfl .f64 _ _ rfl rfl ?_; rintro r w' ⟨n, rfl⟩ hr; have HR := Lib.hid hr; clear hr))
        rename_i r1 n1 HR1 r2 n2 HR2
        obtain ⟨p', hp', hn'⟩ := HP.out (i + 1) (by omega)
        obtain ⟨p0, hp0, hn0⟩ := HP.out i (by omega)
        have e0 : p0 = p := by have h := HH.out; rw [hp0] at h; simpa using h
        subst e0
        have hr : cn .f64 r = some p' := by
          rw [HR.out, HR2.out, HR1.out, one_cn, HTC.out, numB_cn hn0, kF_cn ⟨i, by omega⟩, ← hp']
          show _ = fbin .add .f64 (some 4607182418800017408) (fbin .quo .f64 (fbin .mul .f64 (some t) (hornerF (some t) i)) (some (kF i)))
          rw [hp0]
        obtain ⟨e, _⟩ := cn_some hr
        have e := e.symm
        subst e
        have HH' := Lib.hid hp'
        clear hr HR HR1 HR2 hp' hn' hp0 hn0 HH hfk
        generalize hwb : wr.drewN _ = wb
        have HBb : Hid (Below w.heap.size w wb) := Lib.hid (by rw [← hwb]; exact HBr.out.trans (below_of_drewN _ _ _))
        clear hwb HBr
        go_wp2
        go_roundw
        case rel => exact ⟨i + 1, _, by omega, by go_num, rfl, HH', HBb⟩
        case measure => simp [intOf]; omega
      · obtain rfl : i = 12 := by omega
        have e12 : (12 : Int) - ((12 : Nat) : Int) = 0 := rfl
        rw [e12]
        obtain ⟨p0, hp0, hn0⟩ := HP.out 12 (by omega)
        have e0 : p0 = p := by have h := HH.out; rw [hp0] at h; simpa using h
        subst e0
        have HSQ : Hid (∀ j, ∃ b, squareF (some p0) j = some b ∧ numB 0 false (FloatKind.f64.decode b)) := Lib.hid (fun j => squareF_le hn0 j)
        rw [hp0] at HRES
        clear hp0 hn0 HH HP
        go_wp2
        go_loopw [4, 6] (fun pi ji wr' => ∃ (j b : Nat), j ≤ 8 ∧ ji = .int .i64 (j : Int) ∧ pi = .float .f64 b ∧ Hid (squareF (some p0) j = some b) ∧ Hid (Below w.heap.size w wr')) (fun _ ji _ => 8 - (intOf ji).toNat)
        case atStart => exact ⟨0, p0, by omega, rfl, rfl, Lib.hid rfl, HBr⟩
        case round =>
          obtain ⟨j, b, hj, rfl, rfl, HJ, HBj⟩ := hrel
          clear HBr
          have ewj : IntKind.i64.wrap ((j : Int) + 1) = (j : Int) + 1 := IntWalk.i64_in _ (by omega)
          by_cases hlj : j < 8
          · have hljz : (j : Int) < 8 := by omega
            obtain ⟨b', hb', hn'⟩ := HSQ.out (j + 1)
            obtain ⟨b0, hb0, hn0⟩ := HSQ.out j
            have e0 : b0 = b := by have h := HJ.out; rw [hb0] at h; simpa using h
            subst e0
            have HE : Hid (fbin .mul .f64 (cn .f64 b0) (cn .f64 b0) = some b') := Lib.hid (by
              rw [numB_cn hn0, ← hb']
              show _ = fbin .mul .f64 (squareF (some p0) j) (squareF (some p0) j)
              rw [hb0])
            have HJ' := Lib.hid hb'
            clear hb0 hn0 hb' hn' HJ
            go_wp2_with (first | (refine wpl_fbin rfl _ _ _ _ _ rfl rfl .f64 _ _ rfl rfl ?_; rintro r w' ⟨n, rfl⟩ hr; have HR := Lib.hid hr; clear hr))
            have hk : cn .f64 r = some b' := by rw [HR.out]; exact HE.out
            obtain ⟨e, _⟩ := cn_some hk
            subst e
            go_roundw
            case rel => exact ⟨j + 1, _, by omega, by go_num, rfl, HJ', Lib.hid (HBj.out.trans (below_of_drewN _ _ _))⟩
            case measure => simp [intOf]; omega
          · obtain rfl : j = 8 := by omega
            obtain ⟨b0, hb0, hn0⟩ := HSQ.out 8
            have e0 : b0 = b := by have h := HJ.out; rw [hb0] at h; simpa using h
            subst e0
            rw [hb0] at HRES
            have hbc := numB_cn hn0
            have HBC := Lib.hid hbc
            clear hb0 hn0 HJ hbc HSQ
            go_wp2
            go_ret
            exact ⟨b0, rfl, by rw [HBC.out]; exact HRES.out, HBj.out⟩

theorem l01Exp_any {x : Nat} {w : World} (h : sgD true (FloatKind.f32.decode x)) :
    Calls Try.prog 20 #[.float .f32 x] w (RetF w (expO x)) := by
  have HS := Lib.hid h
  have HX := Lib.hid (sgn_cn h)
  have HN := Lib.hid (sgn_notNaN h)
  have HF : Hid (fits (expW x)) := Lib.hid (by
    unfold expW
    split
    · intro b hb; simp at hb; subst hb; exact .inl rfl
    · exact exp_fits h (by assumption))
  rw [expO_W]
  generalize hres : expW x = res at HF
  have HRES := Lib.hid hres
  clear hres h
  go_enter Try.func20, Try.ntmps20
  go_wp2_with (refine wpl_widen rfl _ _ _ rfl und_f32 und_f64 _ rfl ?_; rintro q w' ⟨n, rfl⟩ hq; have HQ := Lib.hid hq; clear hq)
  have hq : q = FloatKind.f64.encode (FloatKind.f32.decode x) := by
    have h1 : cn .f64 q = some (FloatKind.f64.encode (FloatKind.f32.decode x)) := by rw [HQ.out, HX.out]; rfl
    exact (cn_some h1).1
  refine (l01ExpWide_any HS.out hq).mono ?_
  rintro e w1 ⟨r1, rfl, hr1, hb1⟩
  have HR := Lib.hid hr1
  have HB := Lib.hid ((below_of_drewN w n w.heap.size).trans hb1)
  clear hr1 hb1 hq
  go_wp2_with fail
  refine (l01Narrow_any (by rw [HR.out, HRES.out]; exact HF.out)).mono ?_
  rintro e w2 ⟨q2, rfl, hq2, hb2⟩
  have HQ2 := Lib.hid hq2
  have HB2 := Lib.hid (HB.out.trans (hb2.mono HB.out.size))
  clear hq2 hb2
  go_wp2
  go_ret
  exact ⟨q2, rfl, by rw [HQ2.out, HR.out, HRES.out], HB2.out⟩

end Go.Proofs.Ytmmpemfhbnkomaa
