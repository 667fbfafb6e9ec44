/- Means and smoothed numbers of last ones: walked. -/
import Derived.Test.YtfclkbppmkjkeaaQFq7
import Derived.Test.YtfclkbppmkjkeaaQFq34
import Derived.Test.YtfclkbppmkjkeaaQFq20
namespace Go.Proofs.Ytfclkbppmkjkeaa
open Go.RowKit
attribute [local go_sem ↓] Go.wp_at_zero Go.wp_at_succ

def fyL (zs : List Int) : List Nat := zs.map fY
theorem fyL_len (zs : List Int) : (fyL zs).length = zs.length := by unfold fyL; exact List.length_map _
theorem fyL_get {zs : List Int} {k : Nat} (h : k < zs.length) : (fyL zs)[k]?.getD default = fY (at0 zs k) := by
  unfold fyL at0
  rw [List.getElem?_map, List.getElem?_eq_getElem h]
  rfl
theorem fins_of {xs : List Nat} (h : ∀ x ∈ xs, isN .f32 x) : fins xs = true := by
  unfold fins
  rw [List.all_eq_true]
  intro x hx
  obtain ⟨s, m, e, hd⟩ := h x hx
  have hc : cn .f32 x = some x := by unfold cn; rw [hd]; rfl
  rw [hc]
  unfold fin
  simp only [hd]
  rfl
theorem fins_fyL {zs : List Int} (h : ∀ z ∈ zs, z.natAbs ≤ 6) : fins (fyL zs) = true := by
  refine fins_of (fun x hx => ?_)
  unfold fyL at hx
  obtain ⟨z, hz, rfl⟩ := List.mem_map.1 hx
  exact (fY_ok (by have := h z hz; omega)).1
theorem ar3 {op : BinOp} {a b r : Nat} (h : fbin op .f32 (some a) (some b) = some r) (t : TypeId) (w : World) : (binOp op t (.float .f32 a) (.float .f32 b)).run Try.prog w = .ok (.float .f32 r) w := run_float_arith w op t .f32 a b r h
theorem at0_mem6 {zs : List Int} (h : ∀ z ∈ zs, z.natAbs ≤ 6) {k : Nat} (hk : k < zs.length) : (at0 zs k).natAbs ≤ 6 := h _ (by unfold at0; rw [List.getElem?_eq_getElem hk]; exact List.getElem_mem hk)
theorem sumF_next {zs : List Int} (h : ∀ z ∈ zs, z.natAbs ≤ 6) (hl : zs.length ≤ 60) {k : Nat} (hk : k < zs.length) : fbin .add .f32 (some (sumF (zs.take k))) (some (fY (at0 zs k))) = some (sumF (zs.take (k + 1))) := by
  have h6 : ∀ z ∈ zs.take k, z.natAbs ≤ 6 := fun z hz => h z (List.mem_of_mem_take hz)
  have hlt : (zs.take k).length ≤ 60 := by rw [List.length_take]; omega
  obtain ⟨s1, s2⟩ := sumF_ok h6 hlt
  have hs := sum_natAbs _ h6
  have e : at0 zs k = zs[k] := by unfold at0; rw [List.getElem?_eq_getElem hk]; rfl
  rw [sumF_snoc hk, e]
  exact (sum_step s1 s2 (by omega) (by have := h _ (List.getElem_mem hk); omega)).1

set_option maxHeartbeats 2000000 in
theorem sumNumbers_any {a : Option Addr} {c : Nat} {zs : List Int} {w : World} (hr : Rd (Value.float .f32) w a c (fyL zs)) (hz : ∀ z ∈ zs, z.natAbs ≤ 6) (hl : zs.length ≤ 60) :
    Calls Try.prog 78 #[.slice a zs.length c] w fun e w' => e = .returned (.tuple #[.float .f32 (sumF zs), .bool true]) ∧ w = w' := by
  have z0 : ¬ (256 : Int) < (zs.length : Int) := by omega
  have HST : Hid (∀ k, k < zs.length → fbin .add .f32 (some (sumF (zs.take k))) (some (fY (at0 zs k))) = some (sumF (zs.take (k + 1)))) := Lib.hid (fun k hk => sumF_next hz hl hk)
  have HF : Hid (sumF zs = sumF (zs.take zs.length)) := Lib.hid (by rw [List.take_length])
  have HS0 : Hid (sumF (zs.take 0) = 0) := Lib.hid rfl
  have HR := Lib.hid hr
  have HLN := Lib.hid (fyL_len zs)
  have HGT : Hid (∀ k, k < zs.length → (fyL zs)[k]?.getD default = fY (at0 zs k)) := Lib.hid (fun k hk => fyL_get hk)
  clear hr hz
  obtain ⟨S, hS⟩ : ∃ S : Nat → Nat, (fun k => sumF (zs.take k)) = S := ⟨_, rfl⟩
  have HS : Hid (∀ k, sumF (zs.take k) = S k) := Lib.hid (fun k => congrFun hS k)
  rw [HF.out, HS.out]
  clear HF hS
  generalize zs.length = n at *
  go_enter Try.func78, Try.ntmps78
  go_wp2
  go_loop [4, 12] (fun s i => ∃ k : Nat, k ≤ n ∧ i = .int .i64 (k : Int) ∧ s = .float .f32 (S k)) (fun _ i => n - (intOf i).toNat)
  case atStart => exact ⟨0, by omega, rfl, by rw [← HS.out 0, HS0.out]⟩
  case round =>
    obtain ⟨k, hk, rfl, rfl⟩ := hrel
    by_cases hlt : k < n
    · have z1 : (k : Int) < (n : Int) := by omega
      have hix := HR.out.idx und_fs siz_fs w k (by rw [HLN.out]; exact hlt)
      rw [HLN.out] at hix
      have hcx := HR.out.cell k (by rw [HLN.out]; exact hlt)
      rw [HGT.out k hlt] at hcx
      have ha := HST.out k hlt
      rw [HS.out k, HS.out (k + 1)] at ha
      have hb := ar3 ha 28
      have ewk : IntKind.i64.wrap ((k : Int) + 1) = ((k + 1 : Nat) : Int) := by rw [IntWalk.i64_in _ (by omega)]; omega
      generalize fY (at0 zs k) = y at *
      clear ha
      go_wp2
      go_round
      case rel => exact ⟨k + 1, by omega, by go_num, rfl⟩
      case measure => simp [intOf]; omega
    · obtain rfl : k = n := by omega
      have z1 : ¬ (k : Int) < (k : Int) := by omega
      go_wp2
      go_ret2
      exact ⟨rfl, rfl⟩

/-- The last ones of an index, of floats. -/
theorem lastOnesF_any {a : Option Addr} {c : Nat} {zs : List Int} {i : Nat} {L : Int} {w : World} (hr : Rd (Value.float .f32) w a c (fyL zs)) (hi : i < zs.length) (hn : zs.length ≤ 1048576) (hL : 1 ≤ L ∧ L ≤ 128) :
    Calls Try.prog 77 #[.slice a zs.length c, .int .i64 i, .int .i64 L] w fun e w' => ∃ a2 c2, e = .returned (.slice a2 (lastL zs L i).length c2) ∧ Rd (Value.float .f32) w a2 c2 (fyL (lastL zs L i)) ∧ w = w' := by
  obtain ⟨lo, hlo⟩ : ∃ lo : Nat, ((i : Int) - L + 1).toNat = lo := ⟨_, rfl⟩
  obtain ⟨ys, hys⟩ : ∃ ys, lastL zs L i = ys := ⟨_, rfl⟩
  obtain ⟨a2, c2, hrun, hrd⟩ := hr.midRun (P := Try.prog) und_fs siz_fs (lo := lo) (hi := i + 1) (by omega) (by rw [fyL_len]; omega)
  have hys2 : ((fyL zs).take (i + 1)).drop lo = fyL ys := by rw [← hys]; unfold lastL fyL; rw [hlo, List.map_drop, List.map_take]
  have hlen : i + 1 - lo = ys.length := by rw [← hys]; unfold lastL; rw [hlo]; simp; omega
  rw [hys]
  have HRD : Hid (Rd (Value.float .f32) w a2 c2 (fyL ys)) := Lib.hid (hys2 ▸ hrd w hr)
  have HL := Lib.hid hlen
  have e1 : IntKind.i64.wrap ((i : Int) - L) = (i : Int) - L := IntWalk.i64_in _ (by omega)
  have e2 : IntKind.i64.wrap ((i : Int) - L + 1) = (i : Int) - L + 1 := IntWalk.i64_in _ (by omega)
  have e3 : IntKind.i64.wrap ((i : Int) + 1) = (i : Int) + 1 := IntWalk.i64_in _ (by omega)
  have hmax : ∀ w', (Builtin.max_ #[3, 3] 3 #[.int .i64 0, .int .i64 ((i : Int) - L + 1)]).run Try.prog w' = .ok (.int .i64 (lo : Int)) w' := by
    intro w'
    rw [run_max_int2]
    have : (if (i : Int) - L + 1 > 0 then (i : Int) - L + 1 else 0) = (lo : Int) := by split <;> omega
    rw [this]
  have hrun2 : ∀ w' : World, (Instr.sliceAt 27 (.slice a zs.length c) (some (.int .i64 (lo : Int))) (some (.int .i64 ((i : Int) + 1))) none).run Try.prog w' = .ok (.slice a2 (i + 1 - lo) c2) w' := by
    have e : ((i : Int) + 1) = ((i + 1 : Nat) : Int) := by omega
    intro w'
    rw [fyL_len] at hrun
    rw [e]; exact hrun w'
  clear hrd hlo hlen hrun hys hys2
  go_enter Try.func77, Try.ntmps77
  go_wp2
  go_ret
  exact ⟨a2, c2, by rw [HL.out]; rfl, HRD.out, rfl⟩

/-- The means of the first n indices. -/
def meanR (L : Int) (zs : List Int) (n : Nat) : List Nat := (List.range n).map fun i => meanF (lastL zs L i)
theorem meanR_len (L : Int) (zs : List Int) (n : Nat) : (meanR L zs n).length = n := by simp [meanR]
theorem meanR_succ (L : Int) (zs : List Int) (n : Nat) : meanR L zs (n + 1) = meanR L zs n ++ [meanF (lastL zs L n)] := by simp [meanR, List.range_succ]
theorem meanR_fins {L : Int} {zs : List Int} (hz : ∀ z ∈ zs, z.natAbs ≤ 6) (hl : zs.length ≤ 60) (hL : 1 ≤ L) : fins (meanR L zs zs.length) = true := by
  refine fins_of (fun x hx => ?_)
  unfold meanR at hx
  obtain ⟨i, hi, rfl⟩ := List.mem_map.1 hx
  have hi := List.mem_range.1 hi
  obtain ⟨h0, h1⟩ := lastL_len (xs := zs) (i := i) hi hL
  exact (mean_ok (fun z hz' => hz z (lastL_mem z hz')) (by omega) h0).2.1

set_option maxRecDepth 8000 in
set_option maxHeartbeats 4000000 in
theorem implMeans_any {a : Option Addr} {c : Nat} {zs : List Int} {L : Int} {w : World} (hr : Rd (Value.float .f32) w a c (fyL zs)) (hz : ∀ z ∈ zs, z.natAbs ≤ 6) (h1 : 1 ≤ zs.length) (hl : zs.length ≤ 60) (hL : 1 ≤ L ∧ L ≤ 128) :
    Calls Try.prog 16 #[.slice a zs.length c, .int .i64 L] w (RetSB (Value.float .f32) 28 w (meanR L zs zs.length) true) := by
  have e1 : inR zs.length 1 128 = true := (inR_eq _ _ _).2 ⟨by omega, by omega⟩
  have e3 : inR L 1 128 = true := (inR_eq _ _ _).2 hL
  have e2 := fins_fyL hz
  have HLN := Lib.hid (fyL_len zs)
  have HFR := Lib.hid (meanR_fins hz hl hL.1)
  obtain ⟨vz, hvz⟩ : ∃ vz, meanR L zs zs.length = vz := ⟨_, rfl⟩
  have HV := Lib.hid hvz
  rw [hvz] at HFR ⊢
  clear hvz
  have HZ := Lib.hid hz
  have HR := Lib.hid hr
  clear hz hr
  go_enter Try.func16, Try.ntmps16
  go_wp2_with fail
  refine (isStream_any).mono ?_
  rintro e w1 ⟨rfl, rfl⟩
  rw [e1]
  have haf := areFinite_any HR.out
  rw [HLN.out] at haf
  go_wp2_with fail
  refine haf.mono ?_
  rintro e w1 ⟨rfl, hb1⟩
  rw [e2]
  clear haf
  go_wp2_with fail
  refine (within_any _ _ _ _).mono ?_
  rintro e w2 ⟨rfl, rfl⟩
  rw [e3]
  clear e1 e2 e3
  have HE := Lib.hid (own_empty (f := Value.float .f32) (e := 28) (α := Nat) w1 (by_ := 0) w.heap.size hb1.size rfl)
  have HB1 := Lib.hid (hb1.alloc hb1.size (.cells #[] 28))
  clear hb1
  go_wp2_with fail
  go_loopw [6, 28] (fun o i wr => ∃ (k : Nat) (b : Option Addr) (cc : Nat), k ≤ zs.length ∧ i = .int .i64 k ∧ o = .slice b k cc ∧ Hid (Own (Value.float .f32) 28 wr w.heap.size b cc (meanR L zs k)) ∧ Hid (Below w.heap.size w wr)) (fun _ i _ => zs.length - (intOf i).toNat)
  case atStart => exact ⟨0, _, _, Nat.zero_le _, rfl, rfl, HE, HB1⟩
  case round =>
    clear HE HB1
    obtain ⟨k, b, cc, hk, rfl, rfl, HO, HB⟩ := hrel
    by_cases hlt : k < zs.length
    · obtain ⟨wi, rfl⟩ : ∃ wi : World, wi = wr := ⟨_, rfl⟩
      have hlz : (k : Int) < (zs.length : Int) := by omega
      have HRW := Lib.hid (HR.out.below HB.out (Nat.le_refl _))
      have ewk : IntKind.i64.wrap ((k : Int) + 1) = (k : Int) + 1 := IntWalk.i64_in _ (by omega)
      go_wp2_with fail
      refine (lastOnesF_any HRW.out hlt (by omega) hL).mono ?_
      rintro e w3 ⟨a2, c2, rfl, hr2, rfl⟩
      obtain ⟨hne, hle⟩ := lastL_len (xs := zs) (i := k) hlt hL.1
      have HS := Lib.hid (meanR_succ L zs k)
      have h6 : ∀ z ∈ lastL zs L k, z.natAbs ≤ 6 := fun z hz => HZ.out z (lastL_mem z hz)
      have HM := Lib.hid (mean_ok h6 (by omega) hne)
      have hcl := sumNumbers_any hr2 h6 (by omega)
      clear hr2 hne h6
      generalize lastL zs L k = ls at HM hcl HS hle ⊢
      have HCL := Lib.hid hcl
      clear hcl
      go_wp2_with fail
      refine HCL.out.mono ?_
      rintro e w3 ⟨rfl, rfl⟩
      have ha := ar3 HM.out.1 28
      have hfy : fY (ls.length : Int) = floatOfInt .f32 (ls.length : Int) := rfl
      rw [hfy] at ha
      generalize sumF ls = sm at ha ⊢
      generalize meanF ls = y at HS ha ⊢
      clear HCL HM hfy
      have hz3 := HB.out.size
      have hlk : (meanR L zs k).length = k := meanR_len L zs k
      obtain ⟨vs, hvs⟩ : ∃ vs, meanR L zs k = vs := ⟨_, rfl⟩
      rw [hvs] at hlk HS HO
      clear HRW hvs
      subst hlk
      have hcv : ∀ w' : World, (convert 3 28 (.int .i64 (ls.length : Int))).run Try.prog w' = .ok (.float .f32 (floatOfInt .f32 (ls.length : Int))) w' := fun w' => run_convert_int_float w' _ _ _ _ _ (by kernel_rfl) und_f32k
      go_wp2_with (at_builtin; refine wpl_append1 (f := Value.float .f32) (d := 0) (base := w.heap.size) und_fse info_f (fun _ => rfl) y HO.out rfl _ _ rfl rfl rfl (by omega) (by omega) hz3 ?_; intro a4 c4 w4 ho4 hg4)
      go_roundw
      case rel => exact ⟨vs.length + 1, a4, c4, by omega, by go_num, by simp, Lib.hid (ho4.cast HS.out.symm), Lib.hid (HB.out.trans (grown_belowOwn HO.out hg4 (Nat.le_refl _) hz3))⟩
      case measure => simp [intOf]; omega
    · have hk' : k = zs.length := by omega
      subst hk'
      have hlz : ¬ (zs.length : Int) < (zs.length : Int) := by omega
      rw [HV.out] at HO
      have hzl : zs.length = vz.length := by rw [← HV.out, meanR_len]
      have HAF := Lib.hid (areFinite_any HO.out.rd)
      rw [HFR.out, ← hzl] at HAF
      have HZL := Lib.hid hzl
      clear hzl
      go_wp2_with fail
      refine HAF.out.mono ?_
      rintro e w2 ⟨rfl, hb2⟩
      have HO2 := Lib.hid (HO.out.below hb2 (Nat.le_refl _))
      have HB2 := Lib.hid (HB.out.trans (hb2.mono HB.out.size))
      clear hb2 HO HB HAF
      go_wp2
      go_ret2
      exact ⟨b, cc, by rw [← HZL.out]; rfl, HO2.out, HB2.out⟩

/-- The smoothed numbers of the first n indices. -/
def smR (sh : Nat) (zs : List Int) (n : Nat) : List Nat := (List.range n).map (smF sh zs)
theorem smR_len (sh : Nat) (zs : List Int) (n : Nat) : (smR sh zs n).length = n := by simp [smR]
theorem smR_succ (sh : Nat) (zs : List Int) (n : Nat) : smR sh zs (n + 1) = smR sh zs n ++ [smF sh zs n] := by simp [smR, List.range_succ]
theorem smR_fins {sh : Nat} {zs : List Int} (h : ∀ i, i < zs.length → isN .f32 (smF sh zs i)) : fins (smR sh zs zs.length) = true := by
  refine fins_of (fun x hx => ?_)
  unfold smR at hx
  obtain ⟨i, hi, rfl⟩ := List.mem_map.1 hx
  exact h i (List.mem_range.1 hi)

theorem isShare_half {w : World} : Calls Try.prog 79 #[.float .f32 1056964608] w fun e w' => e = .returned (.bool true) ∧ w = w' := by
  have b1 : ∀ w' : World, (binOp .geq 28 (.float .f32 1056964608) (.float .f32 0)).run Try.prog w' = .ok (.bool true) w' := fun w' => by kernel_rfl
  have b2 : ∀ w' : World, (binOp .leq 28 (.float .f32 1056964608) (.float .f32 1065353216)).run Try.prog w' = .ok (.bool true) w' := fun w' => by kernel_rfl
  go_enter Try.func79, Try.ntmps79
  go_wp2
  go_ret
  exact ⟨rfl, rfl⟩
theorem isShare_one {w : World} : Calls Try.prog 79 #[.float .f32 1065353216] w fun e w' => e = .returned (.bool true) ∧ w = w' := by
  have b1 : ∀ w' : World, (binOp .geq 28 (.float .f32 1065353216) (.float .f32 0)).run Try.prog w' = .ok (.bool true) w' := fun w' => by kernel_rfl
  have b2 : ∀ w' : World, (binOp .leq 28 (.float .f32 1065353216) (.float .f32 1065353216)).run Try.prog w' = .ok (.bool true) w' := fun w' => by kernel_rfl
  go_enter Try.func79, Try.ntmps79
  go_wp2
  go_ret
  exact ⟨rfl, rfl⟩

set_option maxRecDepth 8000 in
set_option maxHeartbeats 4000000 in
theorem implSmooth_any {sh : Nat} {a : Option Addr} {c : Nat} {zs : List Int} {w : World} (hsh : ∀ w : World, Calls Try.prog 79 #[.float .f32 sh] w fun e w' => e = .returned (.bool true) ∧ w = w')
    (hr : Rd (Value.float .f32) w a c (fyL zs)) (hz : ∀ z ∈ zs, z.natAbs ≤ 6) (h1 : 1 ≤ zs.length) (hl : zs.length ≤ 60)
    (hN : ∀ i, i < zs.length → isN .f32 (smF sh zs i)) (hS : ∀ i, i + 1 < zs.length → SmOk sh (smF sh zs i) (fY (at0 zs (i + 1)))) :
    Calls Try.prog 17 #[.slice a zs.length c, .float .f32 sh] w (RetSB (Value.float .f32) 28 w (smR sh zs zs.length) true) := by
  have e1 : inR zs.length 1 128 = true := (inR_eq _ _ _).2 ⟨by omega, by omega⟩
  have e2 := fins_fyL hz
  have HLN := Lib.hid (fyL_len zs)
  have HFR := Lib.hid (smR_fins hN)
  have HSH := Lib.hid hsh
  obtain ⟨vz, hvz⟩ : ∃ vz, smR sh zs zs.length = vz := ⟨_, rfl⟩
  have HV := Lib.hid hvz
  rw [hvz] at HFR ⊢
  have HST : Hid (∀ i, i + 1 < zs.length → SmOk sh (smF sh zs i) (fY (at0 zs (i + 1))) ∧ smF sh zs (i + 1) = fo3 .add (smF sh zs i) (fo3 .mul sh (fo3 .sub (fY (at0 zs (i + 1))) (smF sh zs i)))) := Lib.hid (fun i hi => ⟨hS i hi, rfl⟩)
  have HS0 : Hid (smF sh zs 0 = fY (at0 zs 0)) := Lib.hid rfl
  have HSR : Hid (∀ k, smR sh zs (k + 1) = smR sh zs k ++ [smF sh zs k]) := Lib.hid (fun k => smR_succ sh zs k)
  have HGT : Hid (∀ k, k < zs.length → (fyL zs)[k]?.getD default = fY (at0 zs k)) := Lib.hid (fun k hk => fyL_get hk)
  have HR := Lib.hid hr
  clear hvz hz hr hsh hN hS
  generalize hF : smF sh zs = F at *
  clear hF
  go_enter Try.func17, Try.ntmps17
  go_wp2_with fail
  refine (isStream_any).mono ?_
  rintro e w1 ⟨rfl, rfl⟩
  rw [e1]
  have haf := areFinite_any HR.out
  rw [HLN.out] at haf
  go_wp2_with fail
  refine haf.mono ?_
  rintro e w1 ⟨rfl, hb1⟩
  rw [e2]
  clear haf
  go_wp2_with fail
  refine (HSH.out _).mono ?_
  rintro e w2 ⟨rfl, rfl⟩
  clear e1 e2
  have HE := Lib.hid (own_empty (f := Value.float .f32) (e := 28) (α := Nat) w1 (by_ := 0) w.heap.size hb1.size rfl)
  have HB1 := Lib.hid (hb1.alloc hb1.size (.cells #[] 28))
  have hr1 := HR.out.below HB1.out (Nat.le_refl _)
  have hix := rd_idxAt hr1 und_fs siz_fs 0 (by rw [HLN.out]; omega) 0 rfl
  rw [HLN.out] at hix
  have hcx := hr1.cell 0 (by rw [HLN.out]; omega)
  rw [HGT.out 0 (by omega), ← HS0.out] at hcx
  have h0z : (0 : Int) < (zs.length : Int) := by omega
  clear hb1 hr1
  go_wp2_with fail
  clear hix hcx h0z
  go_loopw [6, 7, 30] (fun o x i wr => ∃ (k : Nat) (b : Option Addr) (cc : Nat), k ≤ zs.length ∧ i = .int .i64 k ∧ x = .float .f32 (F (k - 1)) ∧ o = .slice b k cc ∧ Hid (Own (Value.float .f32) 28 wr w.heap.size b cc (smR sh zs k)) ∧ Hid (Below w.heap.size w wr)) (fun _ _ i _ => zs.length - (intOf i).toNat)
  case atStart => exact ⟨0, _, _, Nat.zero_le _, rfl, rfl, rfl, HE, HB1⟩
  case round =>
    clear HE HB1
    obtain ⟨k, b, cc, hk, rfl, rfl, rfl, HO, HB⟩ := hrel
    by_cases hlt : k < zs.length
    · obtain ⟨wi, rfl⟩ : ∃ wi : World, wi = wr := ⟨_, rfl⟩
      have hlz : (k : Int) < (zs.length : Int) := by omega
      have hr1 := HR.out.below HB.out (Nat.le_refl _)
      have hix := hr1.idx und_fs siz_fs wi k (by rw [HLN.out]; exact hlt)
      rw [HLN.out] at hix
      have hcx := hr1.cell k (by rw [HLN.out]; exact hlt)
      rw [HGT.out k hlt] at hcx
      have ewk : IntKind.i64.wrap ((k : Int) + 1) = (k : Int) + 1 := IntWalk.i64_in _ (by omega)
      have hz3 := HB.out.size
      have hlk : (smR sh zs k).length = k := smR_len sh zs k
      have HS := Lib.hid (HSR.out k)
      obtain ⟨vs, hvs⟩ : ∃ vs, smR sh zs k = vs := ⟨_, rfl⟩
      rw [hvs] at hlk HS HO
      clear hr1 hvs
      by_cases h0 : k = 0
      · subst h0
        have hpz : ¬ (0 : Int) < ((0 : Nat) : Int) := by omega
        have e0 : ((0 : Nat) : Int) = 0 := rfl
        rw [e0] at hix ewk hpz hlz
        obtain ⟨y, hy⟩ : ∃ y, F 0 = y := ⟨_, rfl⟩
        have HYS : Hid (smR sh zs (0 + 1) = vs ++ [y]) := Lib.hid (by rw [HS.out, hy])
        have hvl : vs = [] := List.eq_nil_of_length_eq_zero hlk
        subst hvl
        rw [show F (0 - 1) = y from hy]
        have HYY := Lib.hid hy
        clear hy
        go_wp2_with (at_builtin; refine wpl_append1 (f := Value.float .f32) (d := 0) (base := w.heap.size) und_fse info_f (fun _ => rfl) y HO.out rfl _ _ rfl rfl rfl (by simp) (by omega) hz3 ?_; intro a4 c4 w4 ho4 hg4)
        go_roundw
        case rel => exact ⟨0 + 1, a4, c4, by omega, by go_num, by rw [← HYY.out], by simp, Lib.hid (ho4.cast HYS.out.symm), Lib.hid (HB.out.trans (grown_belowOwn HO.out hg4 (Nat.le_refl _) hz3))⟩
        case measure => simp [intOf]; omega
      · obtain ⟨j, hj⟩ : ∃ j, k = j + 1 := ⟨k - 1, by omega⟩
        have hpz : (0 : Int) < (k : Int) := by omega
        have hO := HST.out j (by omega)
        rw [← hj] at hO
        obtain ⟨O, hY⟩ := hO
        have a1 := ar3 O.d 28
        have a2 := ar3 O.m 28
        have a3 := ar3 O.a 28
        rw [← hY] at a3
        rw [show F (k - 1) = F j by rw [hj]; rfl]
        generalize fo3 .mul sh (fo3 .sub (fY (at0 zs k)) (F j)) = p at a2 a3
        generalize fo3 .sub (fY (at0 zs k)) (F j) = d at a1 a2
        generalize fY (at0 zs k) = u at hcx a1
        obtain ⟨y, hy⟩ : ∃ y, F k = y := ⟨_, rfl⟩
        have HYS : Hid (smR sh zs (k + 1) = vs ++ [y]) := Lib.hid (by rw [HS.out, hy])
        rw [hy] at a3
        have HY := Lib.hid hy
        clear O hY hy HS hj
        generalize F j = x at a1 a3 ⊢
        subst hlk
        go_wp2_with (at_builtin; refine wpl_append1 (f := Value.float .f32) (d := 0) (base := w.heap.size) und_fse info_f (fun _ => rfl) y HO.out rfl _ _ rfl rfl rfl (by omega) (by omega) hz3 ?_; intro a4 c4 w4 ho4 hg4)
        go_roundw
        case rel => exact ⟨vs.length + 1, a4, c4, by omega, by go_num, by rw [← HY.out]; rfl, by simp, Lib.hid (ho4.cast HYS.out.symm), Lib.hid (HB.out.trans (grown_belowOwn HO.out hg4 (Nat.le_refl _) hz3))⟩
        case measure => simp [intOf]; omega
    · have hk' : k = zs.length := by omega
      subst hk'
      have hlz : ¬ (zs.length : Int) < (zs.length : Int) := by omega
      rw [HV.out] at HO
      have hzl : zs.length = vz.length := by rw [← HV.out, smR_len]
      have HAF := Lib.hid (areFinite_any HO.out.rd)
      rw [HFR.out, ← hzl] at HAF
      have HZL := Lib.hid hzl
      clear hzl
      go_wp2_with fail
      refine HAF.out.mono ?_
      rintro e w2 ⟨rfl, hb2⟩
      have HO2 := Lib.hid (HO.out.below hb2 (Nat.le_refl _))
      have HB2 := Lib.hid (HB.out.trans (hb2.mono HB.out.size))
      clear hb2 HO HB HAF
      go_wp2
      go_ret2
      exact ⟨b, cc, by rw [← HZL.out]; rfl, HO2.out, HB2.out⟩

end Go.Proofs.Ytfclkbppmkjkeaa
