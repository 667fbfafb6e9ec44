/- The walk of the law FnLasts. -/
import Derived.Test.YtfclkbppmkjkeaaQLa37
import Derived.Test.YtfclkbppmkjkeaaQLa41
import Derived.Test.YtfclkbppmkjkeaaQLa2
import Derived.Deep.Cut
import Derived.Deep.DeepCutAuto
import Derived.Deep.CutBlock
import Derived.Deep.RegionLaw
namespace Go.Proofs.Ytfclkbppmkjkeaa
open Go.RowKit
attribute [local go_sem ↓] Go.wp_at_zero Go.wp_at_succ

theorem retEach {g : List Int → Int} {L : Int} {zs : List Int} {T : TypeId} {w w' : World} {en : Ending} (hb : lstB L zs = true) (h : RetSB (Value.int .i64) T w (eachL g L zs) (lstB L zs) en w') :
    ∃ a c, en = .returned (.tuple #[.slice a zs.length c, .bool true]) ∧ Rd (Value.int .i64) w' a c (eachR g L zs zs.length) ∧ Below w.heap.size w w' := by
  unfold eachL at h
  rw [hb] at h
  simp only [if_true] at h
  obtain ⟨a, c, h1, h2, h3⟩ := h
  rw [eachR_len] at h1
  exact ⟨a, c, h1, h2.rd, h3⟩
theorem retFl {xs : List Nat} {n : Nat} {T : TypeId} {w w' : World} {en : Ending} (hn : xs.length = n) (h : RetSB (Value.float .f32) T w xs true en w') :
    ∃ a c, en = .returned (.tuple #[.slice a n c, .bool true]) ∧ Rd (Value.float .f32) w' a c xs ∧ Below w.heap.size w w' := by
  subst hn
  obtain ⟨a, c, h1, h2, h3⟩ := h
  exact ⟨a, c, h1, h2.rd, h3⟩
theorem lst_ok {zs : List Int} {L : Nat} (h6 : ∀ z ∈ zs, z.natAbs ≤ 6) (h1 : 1 ≤ zs.length) (h2 : zs.length ≤ 60) (hL : 1 ≤ L) (hL2 : L ≤ 60) : lstB (L : Int) zs = true := by
  unfold lstB
  rw [Bool.and_eq_true, Bool.and_eq_true]
  refine ⟨⟨(inR_eq _ _ _).2 ⟨by omega, by omega⟩, List.all_eq_true.2 fun z hz => (inR_eq _ _ _).2 ?_⟩, (inR_eq _ _ _).2 ⟨by omega, by omega⟩⟩
  have := h6 z hz
  omega

/-- An index with its last ones. -/
structure LastAt (zs : List Int) (L i f : Nat) (W : List Int) : Prop where
  fle : f ≤ i
  max : (if (i : Int) - (L : Int) + 1 > 0 then (i : Int) - (L : Int) + 1 else 0) = (f : Int)
  len : W.length = i + 1 - f
  get : ∀ k, f ≤ k → k ≤ i → W[k - f]? = some (at0 zs k)
  six : ∀ z ∈ W, z.natAbs ≤ 6
  own : at0 zs i ∈ W
theorem lastAt {zs : List Int} {L i : Nat} (h6 : ∀ z ∈ zs, z.natAbs ≤ 6) (hL : 1 ≤ L) (hi : i < zs.length) : LastAt zs L i (lastI (L : Int) i) (lastL zs (L : Int) i) := by
  have hg : ∀ k, lastI (L : Int) i ≤ k → k ≤ i → (lastL zs (L : Int) i)[k - lastI (L : Int) i]? = some (at0 zs k) := fun k h1 h2 => by
    rw [lastL_get hi h1 h2]
    unfold at0
    rw [List.getElem?_eq_getElem (by omega)]
    rfl
  have hf : lastI (L : Int) i ≤ i := lastI_le (by omega)
  refine ⟨hf, ?_, lastL_length hi, hg, fun z hz => h6 z (lastL_mem z hz), List.mem_of_getElem? (hg i hf (Nat.le_refl _))⟩
  unfold lastI
  split <;> omega
theorem sum_bd {W : List Int} (h : ∀ z ∈ W, z.natAbs ≤ 6) (j : Nat) : (W.take j).sum.natAbs ≤ 6 * W.length := by
  have h1 := sum_natAbs (W.take j) (fun z hz => h z (List.mem_of_mem_take hz))
  have h2 : (W.take j).length ≤ W.length := by rw [List.length_take]; omega
  omega
theorem cnt_bd {W : List Int} (p : Int → Bool) (j : Nat) : (W.take j).countP p ≤ W.length := by
  have h1 := List.countP_le_length (p := p) (l := W.take j)
  have h2 : (W.take j).length ≤ W.length := by rw [List.length_take]; omega
  omega
theorem each_at {g : List Int → Int} {L : Int} {zs : List Int} {n i : Nat} (h : i < n) : at0 (eachR g L zs n) i = g (lastL zs L i) := by
  unfold eachR at0
  rw [List.getElem?_map, List.getElem?_range h]
  rfl

theorem quietS {P : Program} {f : FuncId} {args : Array Value} {w : World} {n : Nat} {v : Value} (h : Calls P f args (w.drewN n) fun e w' => e = .returned v ∧ w.drewN n = w') : Calls P f args (w.drewN n) fun e w'' => e = .returned v ∧ ∃ m, w'' = w.drewN m :=
  h.mono fun _ _ ⟨he, hm⟩ => ⟨he, n, hm.symm⟩
theorem mean_at {L : Int} {zs : List Int} {n i : Nat} (h : i < n) : (meanR L zs n)[i]?.getD default = meanF (lastL zs L i) := by
  unfold meanR
  rw [List.getElem?_map, List.getElem?_range h]
  rfl
theorem sm_at {sh : Nat} {zs : List Int} {n i : Nat} (h : i < n) : (smR sh zs n)[i]?.getD default = smF sh zs i := by
  unfold smR
  rw [List.getElem?_map, List.getElem?_range h]
  rfl
theorem midG_eq (W : List Int) : midG W = midM W := by unfold midG midR midM; rw [srt_len]
theorem oftM_cnt {W : List Int} (h : W ≠ []) (y : Int) : W.countP (fun z => z == y) ≤ W.countP (fun z => z == oftM W) ∧ (W.countP (fun z => z == y) = W.countP (fun z => z == oftM W) → oftM W ≤ y) := oftM_best h y

set_option maxRecDepth 20000 in
set_option maxHeartbeats 8000000 in
theorem lawLasts_walk {a1 a2 : Option Addr} {c1 c2 : Nat} {xs ys : List Int} {w : World} (hr : Rd (Value.int .u8) w a1 c1 xs) (hb : ∀ x ∈ xs, 0 ≤ x ∧ x < 256) (hr2 : Rd (Value.int .u8) w a2 c2 ys) (hb2 : ∀ x ∈ ys, 0 ≤ x ∧ x < 256) :
    Calls Try.prog 3 #[.slice a1 xs.length c1, .slice a2 ys.length c2] w fun e w' => e = .returned (.bool true) ∧ Below w.heap.size w w' := by
  have hl1 := hr.len
  have hl2 := hr2.len
  have HR1 := Lib.hid (And.intro hr hb)
  have HR2 := Lib.hid (And.intro hr2 hb2)
  clear hr hb hr2 hb2
  cases hlong : (decide (48 < xs.length) || decide (48 < ys.length)) with
  | true =>
    go_enter Try.func3, Try.ntmps3
    go_wp2_with fail
    refine (r8Long_any hl1 hl2).mono ?_
    rintro e w1 ⟨rfl, rfl⟩
    rw [hlong]
    go_wp2
    go_ret
    exact ⟨rfl, Below.refl _ _⟩
  | false =>
  go_enter Try.func3, Try.ntmps3
  go_wp2_with fail
  refine (r8Long_any hl1 hl2).mono ?_
  rintro e w1 ⟨rfl, rfl⟩
  rw [hlong]
  clear hlong
  go_wp2_with fail
  refine (r8At_any (i := 40) (n := 20) HR2.out.1 HR2.out.2 (by omega) (by omega) (by omega)).mono ?_
  rintro e w1 ⟨⟨v1, rfl, hv1⟩, rfl⟩
  obtain ⟨n, hn⟩ : ∃ n, 1 + v1 = n := ⟨_, rfl⟩
  have en : (1 : Int) + (v1 : Int) = (n : Int) := by omega
  have enw : IntKind.i64.wrap (n : Int) = (n : Int) := IntWalk.i64_in _ (by omega)
  go_upto_region 4 with (fail)
  clear en enw
  go_wp2_with fail
  refine (r8List_any HR1.out.1 HR1.out.2 (by omega)).mono ?_
  rintro e w1 ⟨az, cz, zs, rfl, hzl, hz6, hoz, hbz⟩
  subst hzl
  have hn1 : 1 ≤ zs.length := by omega
  have hn2 : zs.length ≤ 20 := by omega
  have HBW1 := Lib.hid hbz
  have HRZ1 := Lib.hid hoz.rd
  have HZ6 := Lib.hid hz6
  have HR3 := Lib.hid (And.intro (HR2.out.1.below hbz (Nat.le_refl _)) HR2.out.2)
  clear hbz hoz hz6 HR1 HR2 hn hv1
  go_wp2_with fail
  refine (r8At_any (i := 41) (n := 8) HR3.out.1 HR3.out.2 (by omega) (by omega) (by omega)).mono ?_
  rintro e w2 ⟨⟨v2, rfl, hv2⟩, rfl⟩
  obtain ⟨L, hL⟩ : ∃ L, 1 + v2 = L := ⟨_, rfl⟩
  have en : (1 : Int) + (v2 : Int) = (L : Int) := by omega
  have enw : IntKind.i64.wrap (L : Int) = (L : Int) := IntWalk.i64_in _ (by omega)
  have hL1 : 1 ≤ L := by omega
  have hL2 : L ≤ 8 := by omega
  go_upto_region 6 with (fail)
  clear en enw hL hv2 HR3
  have HE := Lib.hid (own_empty (f := Value.float .f32) (e := 28) (α := Nat) w1 (by_ := 0) w1.heap.size (Nat.le_refl _) rfl)
  have HB1 := Lib.hid ((Below.refl w1.heap.size w1).alloc (Nat.le_refl _) (.cells #[] 28))
  go_wp2_with fail
  go_loopw [8, 9] (fun o i wr => ∃ (k : Nat) (b : Option Addr) (cc : Nat), k ≤ zs.length ∧ i = .int .i64 k ∧ o = .slice b k cc ∧ Hid (Own (Value.float .f32) 28 wr w1.heap.size b cc (fyL (zs.take k))) ∧ Hid (Below w1.heap.size w1 wr)) (fun _ i _ => zs.length - (intOf i).toNat)
  case atStart => exact ⟨0, _, _, Nat.zero_le _, rfl, rfl, HE, HB1⟩
  case round =>
    clear HE HB1
    obtain ⟨k, b, cc, hk, rfl, rfl, HO, HB⟩ := hrel
    by_cases hlt : k < zs.length
    · as_aux_lemma =>
        have hlz : (k : Int) < (zs.length : Int) := by omega
        have hr1 := HRZ1.out.below HB.out (Nat.le_refl _)
        have hix := hr1.idx und_is siz_is wr k hlt
        have hcx := at0_cell hr1 hlt rfl
        have ewk : IntKind.i64.wrap ((k : Int) + 1) = (k : Int) + 1 := IntWalk.i64_in _ (by omega)
        have hz3 := HB.out.size
        obtain ⟨x, hx⟩ : ∃ x, at0 zs k = x := ⟨_, rfl⟩
        rw [hx] at hcx
        have hlk : (fyL (zs.take k)).length = k := by rw [fyL_len, List.length_take]; omega
        have HS : Hid (fyL (zs.take (k + 1)) = fyL (zs.take k) ++ [floatOfInt .f32 x]) := Lib.hid (by
          rw [take_snoc hlt, hx]; unfold fyL; rw [List.map_append]; rfl)
        have hcv : ∀ w' : World, (convert 2 28 (.int .i64 x)).run Try.prog w' = .ok (.float .f32 (floatOfInt .f32 x)) w' := fun w' => run_convert_int_float w' _ _ _ _ _ (by kernel_rfl) und_f32k
        obtain ⟨vs, hvs⟩ : ∃ vs, fyL (zs.take k) = vs := ⟨_, rfl⟩
        rw [hvs] at hlk HS HO
        clear hr1 hvs hx
        subst hlk
        go_wp2_with (at_builtin; refine wpl_append1 (f := Value.float .f32) (d := 0) (base := w1.heap.size) und_fse info_f (fun _ => rfl) (floatOfInt .f32 x) HO.out rfl _ _ rfl rfl rfl (by omega) (by omega) hz3 ?_; intro a4 c4 w4 ho4 hg4)
        go_roundw
        case rel => exact ⟨vs.length + 1, a4, c4, by omega, by go_num, by simp, Lib.hid (ho4.cast HS.out.symm), Lib.hid (HB.out.trans (grown_belowOwn HO.out hg4 (Nat.le_refl _) hz3))⟩
        case measure => simp [intOf]; omega
    · as_aux_lemma =>
        obtain rfl : k = zs.length := by omega
        have hlz : ¬ (zs.length : Int) < (zs.length : Int) := by omega
        rw [List.take_length] at HO
        have HF := Lib.hid HO.out.rd
        have HRZ2 := Lib.hid (HRZ1.out.below HB.out (Nat.le_refl _))
        have HBW2 := Lib.hid (HBW1.out.trans (HB.out.mono HBW1.out.size))
        have hlst := lst_ok HZ6.out hn1 (by omega) hL1 (by omega : L ≤ 60)
        clear HO HB HRZ1 HBW1
        obtain ⟨w2, rfl⟩ : ∃ z : World, z = wr := ⟨_, rfl⟩
        have HC := Lib.hid (implLeast_any (L := (L : Int)) HRZ2.out)
        go_wp2_with fail
        refine HC.out.mono ?_
        intro e w3 h3
        obtain ⟨a3, c3, rfl, r3, b3⟩ := retEach hlst h3
        have R3 := Lib.hid r3
        have B3 := Lib.hid b3
        have HZ3 := Lib.hid (HRZ2.out.below b3 (Nat.le_refl _))
        clear h3 r3 b3 HC
        have HC := Lib.hid (implGreatest_any (L := (L : Int)) HZ3.out)
        go_wp2_with fail
        refine HC.out.mono ?_
        intro e w4 h4
        obtain ⟨a4, c4, rfl, r4, b4⟩ := retEach hlst h4
        have R4 := Lib.hid r4
        have B4 := Lib.hid b4
        have HZ4 := Lib.hid (HZ3.out.below b4 (Nat.le_refl _))
        clear h4 r4 b4 HC
        have HC := Lib.hid (implMiddle_any (L := (L : Int)) HZ4.out)
        go_wp2_with fail
        refine HC.out.mono ?_
        intro e w5 h5
        obtain ⟨a5, c5, rfl, r5, b5⟩ := retEach hlst h5
        have R5 := Lib.hid r5
        have B5 := Lib.hid b5
        have HZ5 := Lib.hid (HZ4.out.below b5 (Nat.le_refl _))
        clear h5 r5 b5 HC
        have HC := Lib.hid (implOften_any (L := (L : Int)) HZ5.out)
        go_wp2_with fail
        refine HC.out.mono ?_
        intro e w6 h6
        obtain ⟨a6, c6, rfl, r6, b6⟩ := retEach hlst h6
        have R6 := Lib.hid r6
        have B6 := Lib.hid b6
        have B26 := Lib.hid (((B3.out.trans (B4.out.mono B3.out.size)).trans (B5.out.mono (Nat.le_trans B3.out.size B4.out.size))).trans (b6.mono (Nat.le_trans B3.out.size (Nat.le_trans B4.out.size B5.out.size))))
        have HF6 := Lib.hid (HF.out.below B26.out (Nat.le_refl _))
        clear h6 r6 b6 HC hlst
        have HC := Lib.hid (implMeans_any (L := (L : Int)) HF6.out HZ6.out hn1 (by omega) ⟨by omega, by omega⟩)
        go_wp2_with fail
        refine HC.out.mono ?_
        intro e w7 h7
        obtain ⟨a7, c7, rfl, r7, b7⟩ := retFl (meanR_len _ _ _) h7
        have R7 := Lib.hid r7
        have B7 := Lib.hid b7
        have HF7 := Lib.hid (HF6.out.below b7 (Nat.le_refl _))
        clear h7 r7 b7 HC
        have HC := Lib.hid (implSmooth_any (sh := cHalf) (fun w => isShare_half) HF7.out HZ6.out hn1 (by omega) (fun i hi => (sm_half HZ6.out i hi).1) (fun i hi => let q := sm_half HZ6.out i (by omega); (half_step q.1 q.2.1 q.2.2 (at0_mem6 HZ6.out hi)).1))
        go_wp2_with fail
        refine HC.out.mono ?_
        intro e w8 h8
        obtain ⟨a8, c8, rfl, r8, b8⟩ := retFl (smR_len _ _ _) h8
        have R8 := Lib.hid r8
        have B8 := Lib.hid b8
        have HF8 := Lib.hid (HF7.out.below b8 (Nat.le_refl _))
        clear h8 r8 b8 HC
        have HC := Lib.hid (implSmooth_any (sh := cOne) (fun w => isShare_one) HF8.out HZ6.out hn1 (by omega) (fun i hi => (sm_one HZ6.out i hi).1) (fun i hi => let q := sm_one HZ6.out i (by omega); (one_step q.1 q.2 (at0_mem6 HZ6.out (by omega)) (at0_mem6 HZ6.out hi)).1))
        go_wp2_with fail
        refine HC.out.mono ?_
        intro e w9 h9
        obtain ⟨a9, c9, rfl, r9, b9⟩ := retFl (smR_len _ _ _) h9
        have R9 := Lib.hid r9
        have B9 := Lib.hid b9
        clear h9 r9 b9 HC
        have B89 := Lib.hid (B8.out.trans (B9.out.mono B8.out.size))
        have B79 := Lib.hid (B7.out.trans (B89.out.mono B7.out.size))
        have B59 := Lib.hid (B6.out.trans (B79.out.mono B6.out.size))
        have B49 := Lib.hid (B5.out.trans (B59.out.mono B5.out.size))
        have B39 := Lib.hid (B4.out.trans (B49.out.mono B4.out.size))
        have B29 := Lib.hid (B3.out.trans (B39.out.mono B3.out.size))
        have Q3 := Lib.hid (R3.out.below B39.out (Nat.le_refl _))
        have Q4 := Lib.hid (R4.out.below B49.out (Nat.le_refl _))
        have Q5 := Lib.hid (R5.out.below B59.out (Nat.le_refl _))
        have Q6 := Lib.hid (R6.out.below B79.out (Nat.le_refl _))
        have Q7 := Lib.hid (R7.out.below B89.out (Nat.le_refl _))
        have Q8 := Lib.hid (R8.out.below B9.out (Nat.le_refl _))
        have Q9 := R9
        have QZ := Lib.hid (HRZ2.out.below B29.out (Nat.le_refl _))
        have QF := Lib.hid (HF.out.below B29.out (Nat.le_refl _))
        have QB := Lib.hid (HBW2.out.trans (B29.out.mono HBW2.out.size))
        clear R3 R4 R5 R6 R7 R8 R9 HRZ2 HF HBW2 B3 B4 B5 B6 B7 B8 B9 B26 B29 B39 B49 B59 B79 B89 HZ3 HZ4 HZ5 HF6 HF7 HF8
        generalize w9 = w10 at *
        have hne : ((zs.length : Int) != (zs.length : Int)) = false := by simp
        go_wp2_with fail
        clear hne
        go_loopw [24] (fun i wr => ∃ k : Nat, k ≤ zs.length ∧ i = .int .i64 (k : Int) ∧ Hid (Below w10.heap.size w10 wr)) (fun i _ => zs.length - (intOf i).toNat)
        case atStart => exact ⟨0, Nat.zero_le _, rfl, Lib.hid (Below.refl _ _)⟩
        case round =>
          obtain ⟨i, hi, rfl, HB⟩ := hrel
          by_cases hlt : i < zs.length
          · as_aux_lemma =>
              obtain ⟨wi, rfl⟩ : ∃ z : World, z = wr := ⟨_, rfl⟩
              have hlz : (i : Int) < (zs.length : Int) := by omega
              have HW := Lib.hid (lastAt HZ6.out hL1 hlt)
              obtain ⟨f, hf⟩ : ∃ f, lastI (L : Int) i = f := ⟨_, rfl⟩
              obtain ⟨W, hW⟩ : ∃ W, lastL zs (L : Int) i = W := ⟨_, rfl⟩
              rw [hf, hW] at HW
              have HWW := Lib.hid hW
              have hfi := HW.out.fle
              have hWl : W.length ≤ 20 := by rw [HW.out.len]; omega
              clear hf hW
              have hmax : ∀ w', (Builtin.max_ #[2, 2] 2 #[.int .i64 0, .int .i64 ((i : Int) - (L : Int) + 1)]).run Try.prog w' = .ok (.int .i64 (f : Int)) w' := fun w' => by
                rw [run_max_int2, HW.out.max]
              have e1 : IntKind.i64.wrap ((i : Int) - (L : Int)) = (i : Int) - (L : Int) := IntWalk.i64_in _ (by omega)
              have e2 : IntKind.i64.wrap ((i : Int) - (L : Int) + 1) = (i : Int) - (L : Int) + 1 := IntWalk.i64_in _ (by omega)
              have hz := QZ.out.below HB.out (Nat.le_refl _)
              have ixz := hz.idx und_is siz_is wi i hlt
              obtain ⟨x0, hx0⟩ : ∃ x, at0 zs i = x := ⟨_, rfl⟩
              have cxz := at0_cell hz hlt hx0
              have HX0 := Lib.hid hx0
              obtain ⟨mi, hmi⟩ : ∃ m, midG W = m := ⟨_, rfl⟩
              have HMI := Lib.hid hmi
              have HM5 : Hid (at0 (eachR midG (L : Int) zs zs.length) i = mi) := Lib.hid (by rw [each_at hlt, HWW.out, hmi])
              clear hz hx0 hmi
              go_wp2_with fail
              clear hmax e1 e2 ixz cxz
              go_loopw [26, 27, 28, 29, 30, 31] (fun lov hgv suv bev upv kv wr => ∃ (k : Nat) (lo hg su : Int) (be up : Nat), f ≤ k ∧ k ≤ i + 1 ∧ kv = .int .i64 (k : Int) ∧ lov = .int .i64 lo ∧ hgv = .int .i64 hg ∧ suv = .int .i64 su ∧ bev = .int .i64 (be : Int) ∧ upv = .int .i64 (up : Int) ∧ Hid (lo = (W.take (k - f)).foldl min x0) ∧ Hid (hg = (W.take (k - f)).foldl max x0) ∧ Hid (su = (W.take (k - f)).sum) ∧ Hid (be = (W.take (k - f)).countP (fun z => decide (z < mi))) ∧ Hid (up = (W.take (k - f)).countP (fun z => decide (z ≤ mi))) ∧ Hid (Below w10.heap.size w10 wr)) (fun _ _ _ _ _ kv _ => i + 1 - (intOf kv).toNat)
              case atStart => exact ⟨f, x0, x0, 0, 0, 0, Nat.le_refl _, by omega, rfl, rfl, rfl, rfl, rfl, rfl, Lib.hid (by rw [Nat.sub_self]; rfl), Lib.hid (by rw [Nat.sub_self]; rfl), Lib.hid (by rw [Nat.sub_self]; rfl), Lib.hid (by rw [Nat.sub_self]; rfl), Lib.hid (by rw [Nat.sub_self]; rfl), HB⟩
              case round =>
                clear HB
                obtain ⟨k, lo, hg, su, be, up, hk1, hk2, rfl, rfl, rfl, rfl, rfl, rfl, HLO, HHG, HSU, HBE, HUP, HB⟩ := hrel
                by_cases hki : k ≤ i
                · as_aux_lemma =>
                    have hkz : (k : Int) ≤ (i : Int) := by omega
                    obtain ⟨wk, rfl⟩ : ∃ z : World, z = wr := ⟨_, rfl⟩
                    have hz := QZ.out.below HB.out (Nat.le_refl _)
                    have ixk := fun w' : World => hz.idx und_is siz_is w' k (by omega)
                    have h5 := Q5.out.below HB.out (Nat.le_refl _)
                    have ixm := fun w' : World => h5.idx und_is siz_is w' i (by rw [eachR_len]; exact hlt)
                    simp only [eachR_len] at ixm
                    have cxm := at0_cell h5 (by rw [eachR_len]; exact hlt) HM5.out
                    obtain ⟨y, hy⟩ : ∃ y, at0 zs k = y := ⟨_, rfl⟩
                    have cxk := at0_cell hz (by omega) hy
                    have hget := HW.out.get k hk1 hki
                    rw [hy] at hget
                    have hsub : k + 1 - f = k - f + 1 := by omega
                    obtain ⟨lo2, hlo2⟩ : ∃ v, (if y < lo then y else lo) = v := ⟨_, rfl⟩
                    obtain ⟨hg2, hhg2⟩ : ∃ v, (if y > hg then y else hg) = v := ⟨_, rfl⟩
                    have HLO2 : Hid (lo2 = (W.take (k + 1 - f)).foldl min x0) := Lib.hid (by rw [hsub, low_next hget, ← HLO.out, hlo2])
                    have HHG2 : Hid (hg2 = (W.take (k + 1 - f)).foldl max x0) := Lib.hid (by rw [hsub, high_next hget, ← HHG.out, hhg2])
                    have hbd : su.natAbs ≤ 120 := by rw [HSU.out]; have := sum_bd HW.out.six (k - f); omega
                    have hy6 : y.natAbs ≤ 6 := by rw [← hy]; exact at0_mem6 HZ6.out (by omega)
                    have hbe : be ≤ 20 := by rw [HBE.out]; have := cnt_bd (W := W) (fun z => decide (z < mi)) (k - f); omega
                    have hup : up ≤ 20 := by rw [HUP.out]; have := cnt_bd (W := W) (fun z => decide (z ≤ mi)) (k - f); omega
                    have HSU2 : Hid (su + y = (W.take (k + 1 - f)).sum) := Lib.hid (by rw [hsub, sum_next hget, ← HSU.out])
                    have HBE2 : Hid (be + (if y < mi then 1 else 0) = (W.take (k + 1 - f)).countP (fun z => decide (z < mi))) := Lib.hid (by rw [hsub, cnt_next hget, ← HBE.out]; simp)
                    have HUP2 : Hid (up + (if y ≤ mi then 1 else 0) = (W.take (k + 1 - f)).countP (fun z => decide (z ≤ mi))) := Lib.hid (by rw [hsub, cnt_next hget, ← HUP.out]; simp)
                    have hmin : ∀ w', (Builtin.min_ #[2, 2] 2 #[.int .i64 lo, .int .i64 y]).run Try.prog w' = .ok (.int .i64 lo2) w' := fun w' => by rw [run_min_int2, hlo2]
                    have hmx : ∀ w', (Builtin.max_ #[2, 2] 2 #[.int .i64 hg, .int .i64 y]).run Try.prog w' = .ok (.int .i64 hg2) w' := fun w' => by rw [run_max_int2, hhg2]
                    have es : IntKind.i64.wrap (su + y) = su + y := IntWalk.i64_in _ (by omega)
                    have eb : IntKind.i64.wrap ((be : Int) + 1) = (be : Int) + 1 := IntWalk.i64_in _ (by omega)
                    have eu : IntKind.i64.wrap ((up : Int) + 1) = (up : Int) + 1 := IntWalk.i64_in _ (by omega)
                    have ek : IntKind.i64.wrap ((k : Int) + 1) = (k : Int) + 1 := IntWalk.i64_in _ (by omega)
                    clear hz h5 hy hget hlo2 hhg2 HLO HHG HSU HBE HUP hsub
                    have HKK := Lib.hid (And.intro hk1 hki)
                    by_cases hm1 : y < mi
                    · as_aux_lemma =>
                        have hm2 : y ≤ mi := by omega
                        rw [if_pos hm1] at HBE2
                        rw [if_pos hm2] at HUP2
                        go_wp2_with fail
                        go_quiet (fail)
                        go_wp2_with fail
                        go_quiet (fail)
                        go_wp2
                        go_roundw
                        case rel => exact ⟨k + 1, lo2, hg2, su + y, be + 1, up + 1, by omega, by omega, by go_num, rfl, rfl, rfl, by go_num, by go_num, HLO2, HHG2, HSU2, HBE2, HUP2, Lib.hid (HB.out.trans (below_of_drewN _ _ _))⟩
                        case measure => simp [intOf]; omega
                    · as_aux_lemma =>
                        rw [if_neg hm1] at HBE2
                        by_cases hm2 : y ≤ mi
                        · as_aux_lemma =>
                            rw [if_pos hm2] at HUP2
                            go_wp2_with fail
                            go_quiet (fail)
                            go_wp2_with fail
                            go_quiet (fail)
                            go_wp2
                            go_roundw
                            case rel => exact ⟨k + 1, lo2, hg2, su + y, be, up + 1, by omega, by omega, by go_num, rfl, rfl, rfl, rfl, by go_num, HLO2, HHG2, HSU2, HBE2, HUP2, Lib.hid (HB.out.trans (below_of_drewN _ _ _))⟩
                            case measure => simp [intOf]; omega
                        · as_aux_lemma =>
                            rw [if_neg hm2] at HUP2
                            go_wp2_with fail
                            go_quiet (fail)
                            go_wp2_with fail
                            go_quiet (fail)
                            go_wp2
                            go_roundw
                            case rel => exact ⟨k + 1, lo2, hg2, su + y, be, up, by omega, by omega, by go_num, rfl, rfl, rfl, rfl, rfl, HLO2, HHG2, HSU2, HBE2, HUP2, Lib.hid (HB.out.trans (below_of_drewN _ _ _))⟩
                            case measure => simp [intOf]; omega
                · as_aux_lemma =>
                    obtain rfl : k = i + 1 := by omega
                    have hkz : ¬ ((i + 1 : Nat) : Int) ≤ (i : Int) := by omega
                    obtain ⟨wk, rfl⟩ : ∃ z : World, z = wr := ⟨_, rfl⟩
                    have hall : W.take (i + 1 - f) = W := by rw [← HW.out.len]; exact List.take_length
                    have hne : W ≠ [] := fun e => by have := HW.out.own; rw [e] at this; cases this
                    rw [hall] at HLO HHG HSU HBE HUP
                    have hx0 : x0 ∈ W := by rw [← HX0.out]; exact HW.out.own
                    have hlo : minG W = lo := by rw [HLO.out]; exact (minG_fold hx0).symm
                    have hhg : maxG W = hg := by rw [HHG.out]; exact (maxG_fold hx0).symm
                    have q3 := Q3.out.below HB.out (Nat.le_refl _)
                    have ix3 := fun w' : World => q3.idx und_is siz_is w' i (by rw [eachR_len]; exact hlt)
                    have cl3 := at0_cell q3 (by rw [eachR_len]; exact hlt) (show at0 (eachR minG (L : Int) zs zs.length) i = lo by rw [each_at hlt, HWW.out, hlo])
                    have q4 := Q4.out.below HB.out (Nat.le_refl _)
                    have ix4 := fun w' : World => q4.idx und_is siz_is w' i (by rw [eachR_len]; exact hlt)
                    have cl4 := at0_cell q4 (by rw [eachR_len]; exact hlt) (show at0 (eachR maxG (L : Int) zs zs.length) i = hg by rw [each_at hlt, HWW.out, hhg])
                    simp only [eachR_len] at ix3 ix4
                    have M := meanOk_of HW.out.six (by omega) hne
                    have q7 := Q7.out.below HB.out (Nat.le_refl _)
                    have ix7 := fun w' : World => q7.idx und_fs siz_fs w' i (by rw [meanR_len]; exact hlt)
                    have cl7 := q7.cell i (by rw [meanR_len]; exact hlt)
                    rw [mean_at hlt, HWW.out] at cl7
                    simp only [meanR_len] at ix7
                    have q9 := Q9.out.below HB.out (Nat.le_refl _)
                    have ix9 := fun w' : World => q9.idx und_fs siz_fs w' i (by rw [smR_len]; exact hlt)
                    have cl9 := q9.cell i (by rw [smR_len]; exact hlt)
                    rw [sm_at hlt] at cl9
                    simp only [smR_len] at ix9
                    have qf := QF.out.below HB.out (Nat.le_refl _)
                    have ixf := fun w' : World => qf.idx und_fs siz_fs w' i (by rw [fyL_len]; exact hlt)
                    have clf := qf.cell i (by rw [fyL_len]; exact hlt)
                    rw [fyL_get hlt, HX0.out] at clf
                    simp only [fyL_len] at ixf
                    have hst := still_ok HZ6.out hlt
                    rw [HX0.out] at hst
                    obtain ⟨c, hc⟩ : ∃ c, W.length = c := ⟨_, rfl⟩
                    have hcl := HW.out.len
                    rw [hc] at hcl hWl
                    have hcf : (i : Int) - (f : Int) + 1 = (c : Int) := by omega
                    have e1 : IntKind.i64.wrap ((i : Int) - (f : Int)) = (i : Int) - (f : Int) := IntWalk.i64_in _ (by omega)
                    have e2 : IntKind.i64.wrap ((i : Int) - (f : Int) + 1) = (c : Int) := by rw [hcf]; exact IntWalk.i64_in _ (by omega)
                    have e3 : IntKind.i64.wrap ((c : Int) - 1) = ((c - 1 : Nat) : Int) := by rw [IntWalk.i64_in _ (by omega)]; omega
                    have m1 := mid_below hne
                    have m2 := mid_upTo hne
                    rw [← midG_eq, HMI.out, hc, ← HBE.out] at m1
                    rw [← midG_eq, HMI.out, hc, ← HUP.out] at m2
                    have hbe : decide ((be : Int) > ((c - 1 : Nat) : Int) / 2) = false := decide_eq_false (by omega)
                    have hup : decide ((up : Int) ≤ ((c - 1 : Nat) : Int) / 2) = false := decide_eq_false (by omega)
                    have cv1 := fun w' : World => run_convert_float_float (P := Try.prog) w' 28 34 .f32 .f64 (meanF W) _ und_f32 und_f64 (wid_val M.N).2.2
                    have cv2 : ∀ w' : World, (convert 2 34 (.int .i64 su)).run Try.prog w' = .ok (.float .f64 (floatOfInt .f64 su)) w' := fun w' => run_convert_int_float w' _ _ _ _ _ (by kernel_rfl) und_f64
                    have cv3 : ∀ w' : World, (convert 2 34 (.int .i64 (c : Int))).run Try.prog w' = .ok (.float .f64 (floatOfInt .f64 (c : Int))) w' := fun w' => run_convert_int_float w' _ _ _ _ _ (by kernel_rfl) und_f64
                    have mq := M.q
                    rw [← HSU.out, hc] at mq
                    have aq := ar mq 34
                    have HGAP : Hid (∀ w : World, Calls Try.prog 18 #[.float .f64 (wid (meanF W)), .float .f64 (meanQ W)] w fun e w' => e = .returned (.float .f64 (gapF (wid (meanF W)) (meanQ W))) ∧ w = w') := Lib.hid (fun w => r8Gap_any M.gap)
                    have hsm : (FloatKind.f64.format.order (gapF (wid (meanF W)) (meanQ W)) 4562254508917369340 == some .gt) = false := M.small
                    clear q3 q4 q7 q9 qf M mq m1 m2 hx0 hlo hhg HLO HHG HSU HBE HUP hcf
                    generalize gapF (wid (meanF W)) (meanQ W) = gq at *
                    generalize wid (meanF W) = wm at *
                    generalize meanQ W = mq at *
                    generalize meanF W = mf at *
                    generalize floatOfInt .f64 su = fs at *
                    generalize floatOfInt .f64 (c : Int) = fc at *
                    generalize smF cOne zs i = ss at *
                    generalize fY x0 = yy at *
                    have HCC := Lib.hid (And.intro hc hcl)
                    have HNE := Lib.hid hne
                    clear hc hcl hne hall
                    go_wp2_with fail
                    go_quiet ((go_at_call 18; exact quietS (HGAP.out _)))
                    clear ix3 cl3 ix4 cl4 ix7 cl7 ix9 cl9 ixf clf hst e1 e2 e3 hbe hup cv1 cv2 cv3 aq HGAP hsm
                    have HB2 := Lib.hid (HB.out.trans (below_of_drewN wk nq _))
                    clear HB
                    obtain ⟨oi, hoi⟩ : ∃ z, oftM W = z := ⟨_, rfl⟩
                    have HO6 : Hid (at0 (eachR oftM (L : Int) zs zs.length) i = oi) := Lib.hid (by rw [each_at hlt, HWW.out, hoi])
                    have HOB : Hid (∀ y, W.countP (fun z => z == y) ≤ W.countP (fun z => z == oi) ∧ (W.countP (fun z => z == y) = W.countP (fun z => z == oi) → oi ≤ y)) := Lib.hid (by rw [← hoi]; exact oftM_cnt HNE.out)
                    clear hoi
                    go_wp2_with fail
                    clear hkz
                    generalize wk.drewN nq = wv at *
                    go_loopw [33, 34] (fun ov kv wr => ∃ (k ow : Nat), f ≤ k ∧ k ≤ i + 1 ∧ kv = .int .i64 (k : Int) ∧ ov = .int .i64 (ow : Int) ∧ Hid (ow = (W.take (k - f)).countP (fun z => z == oi)) ∧ Hid (Below w10.heap.size w10 wr)) (fun _ kv _ => i + 1 - (intOf kv).toNat)
                    case atStart => exact ⟨f, 0, Nat.le_refl _, by omega, rfl, rfl, Lib.hid (by rw [Nat.sub_self]; rfl), HB2⟩
                    case round =>
                      clear HB2
                      obtain ⟨k, ow, hk1, hk2, rfl, rfl, HOW, HB⟩ := hrel
                      by_cases hki : k ≤ i
                      · as_aux_lemma =>
                          have hkz : (k : Int) ≤ (i : Int) := by omega
                          obtain ⟨wk, rfl⟩ : ∃ z : World, z = wr := ⟨_, rfl⟩
                          have hz := QZ.out.below HB.out (Nat.le_refl _)
                          have ixk := fun w' : World => hz.idx und_is siz_is w' k (by omega)
                          have h6 := Q6.out.below HB.out (Nat.le_refl _)
                          have ixm := fun w' : World => h6.idx und_is siz_is w' i (by rw [eachR_len]; exact hlt)
                          simp only [eachR_len] at ixm
                          have cxm := at0_cell h6 (by rw [eachR_len]; exact hlt) HO6.out
                          obtain ⟨y, hy⟩ : ∃ y, at0 zs k = y := ⟨_, rfl⟩
                          have cxk := at0_cell hz (by omega) hy
                          have hget := HW.out.get k hk1 hki
                          rw [hy] at hget
                          have hsub : k + 1 - f = k - f + 1 := by omega
                          have how : ow ≤ 20 := by rw [HOW.out]; have := cnt_bd (W := W) (fun z => z == oi) (k - f); have := HCC.out.1; omega
                          have HOW2 : Hid (ow + (if y == oi then 1 else 0) = (W.take (k + 1 - f)).countP (fun z => z == oi)) := Lib.hid (by rw [hsub, cnt_next hget, ← HOW.out])
                          have eo : IntKind.i64.wrap ((ow : Int) + 1) = (ow : Int) + 1 := IntWalk.i64_in _ (by omega)
                          have ek : IntKind.i64.wrap ((k : Int) + 1) = (k : Int) + 1 := IntWalk.i64_in _ (by omega)
                          clear hz h6 hy hget HOW hsub
                          cases hm : (y == oi) with
                          | true =>
                            rw [hm, if_pos rfl] at HOW2
                            go_wp2_with fail
                            go_quiet (fail)
                            go_wp2
                            go_roundw
                            case rel => exact ⟨k + 1, ow + 1, by omega, by omega, by go_num, by go_num, HOW2, Lib.hid (HB.out.trans (below_of_drewN _ _ _))⟩
                            case measure => simp [intOf]; omega
                          | false =>
                            rw [hm, if_neg Bool.false_ne_true] at HOW2
                            go_wp2_with fail
                            go_quiet (fail)
                            go_wp2
                            go_roundw
                            case rel => exact ⟨k + 1, ow, by omega, by omega, by go_num, rfl, HOW2, Lib.hid (HB.out.trans (below_of_drewN _ _ _))⟩
                            case measure => simp [intOf]; omega
                      · as_aux_lemma =>
                          obtain rfl : k = i + 1 := by omega
                          have hkz : ¬ ((i + 1 : Nat) : Int) ≤ (i : Int) := by omega
                          obtain ⟨wk, rfl⟩ : ∃ z : World, z = wr := ⟨_, rfl⟩
                          have HOW2 : Hid (ow = W.countP (fun z => z == oi)) := Lib.hid (by rw [HOW.out]; congr 1; rw [← HW.out.len]; exact List.take_length)
                          have how : ow ≤ 20 := by rw [HOW2.out]; have := List.countP_le_length (p := fun z => z == oi) (l := W); have := HCC.out.1; omega
                          clear HOW
                          go_wp2_with fail
                          clear hkz
                          go_loopw [35] (fun kv wr => ∃ k : Nat, f ≤ k ∧ k ≤ i + 1 ∧ kv = .int .i64 (k : Int) ∧ Hid (Below w10.heap.size w10 wr)) (fun kv _ => i + 1 - (intOf kv).toNat)
                          case atStart => exact ⟨f, Nat.le_refl _, by omega, rfl, HB⟩
                          case round =>
                            clear HB
                            obtain ⟨k, hk1, hk2, rfl, HB⟩ := hrel
                            by_cases hki : k ≤ i
                            · as_aux_lemma =>
                                have hkz : (k : Int) ≤ (i : Int) := by omega
                                obtain ⟨wm, rfl⟩ : ∃ z : World, z = wr := ⟨_, rfl⟩
                                obtain ⟨y, hy⟩ : ∃ y, at0 zs k = y := ⟨_, rfl⟩
                                have HY := Lib.hid hy
                                clear hy
                                go_wp2_with fail
                                clear hkz
                                go_loopw [36, 37] (fun ov jv wr => ∃ (j ot : Nat), f ≤ j ∧ j ≤ i + 1 ∧ jv = .int .i64 (j : Int) ∧ ov = .int .i64 (ot : Int) ∧ Hid (ot = (W.take (j - f)).countP (fun z => z == y)) ∧ Hid (Below w10.heap.size w10 wr)) (fun _ jv _ => i + 1 - (intOf jv).toNat)
                                case atStart => exact ⟨f, 0, Nat.le_refl _, by omega, rfl, rfl, Lib.hid (by rw [Nat.sub_self]; rfl), HB⟩
                                case round =>
                                  clear HB
                                  obtain ⟨j, ot, hj1, hj2, rfl, rfl, HOT, HB⟩ := hrel
                                  by_cases hji : j ≤ i
                                  · as_aux_lemma =>
                                      have hkz : (j : Int) ≤ (i : Int) := by omega
                                      obtain ⟨wk, rfl⟩ : ∃ z : World, z = wr := ⟨_, rfl⟩
                                      have hz := QZ.out.below HB.out (Nat.le_refl _)
                                      have ixj := fun w' : World => hz.idx und_is siz_is w' j (by omega)
                                      have ixk := fun w' : World => hz.idx und_is siz_is w' k (by omega)
                                      obtain ⟨x, hx⟩ : ∃ x, at0 zs j = x := ⟨_, rfl⟩
                                      have cxj := at0_cell hz (by omega) hx
                                      have cxk := at0_cell hz (by omega) HY.out
                                      have hget := HW.out.get j hj1 hji
                                      rw [hx] at hget
                                      have hsub : j + 1 - f = j - f + 1 := by omega
                                      have hot : ot ≤ 20 := by rw [HOT.out]; have := cnt_bd (W := W) (fun z => z == y) (j - f); have := HCC.out.1; omega
                                      have HOT2 : Hid (ot + (if x == y then 1 else 0) = (W.take (j + 1 - f)).countP (fun z => z == y)) := Lib.hid (by rw [hsub, cnt_next hget, ← HOT.out])
                                      have eo : IntKind.i64.wrap ((ot : Int) + 1) = (ot : Int) + 1 := IntWalk.i64_in _ (by omega)
                                      have ek : IntKind.i64.wrap ((j : Int) + 1) = (j : Int) + 1 := IntWalk.i64_in _ (by omega)
                                      clear hz hx hget HOT hsub
                                      cases hm : (x == y) with
                                      | true =>
                                        rw [hm, if_pos rfl] at HOT2
                                        go_wp2_with fail
                                        go_quiet (fail)
                                        go_wp2
                                        go_roundw
                                        case rel => exact ⟨j + 1, ot + 1, by omega, by omega, by go_num, by go_num, HOT2, Lib.hid (HB.out.trans (below_of_drewN _ _ _))⟩
                                        case measure => simp [intOf]; omega
                                      | false =>
                                        rw [hm, if_neg Bool.false_ne_true] at HOT2
                                        go_wp2_with fail
                                        go_quiet (fail)
                                        go_wp2
                                        go_roundw
                                        case rel => exact ⟨j + 1, ot, by omega, by omega, by go_num, rfl, HOT2, Lib.hid (HB.out.trans (below_of_drewN _ _ _))⟩
                                        case measure => simp [intOf]; omega
                                  · as_aux_lemma =>
                                      obtain rfl : j = i + 1 := by omega
                                      have hkz : ¬ ((i + 1 : Nat) : Int) ≤ (i : Int) := by omega
                                      obtain ⟨wk, rfl⟩ : ∃ z : World, z = wr := ⟨_, rfl⟩
                                      have hot2 : ot = W.countP (fun z => z == y) := by rw [HOT.out]; congr 1; rw [← HW.out.len]; exact List.take_length
                                      obtain ⟨b1, b2⟩ := HOB.out y
                                      rw [← hot2, ← HOW2.out] at b1 b2
                                      have ek : IntKind.i64.wrap ((k : Int) + 1) = (k : Int) + 1 := IntWalk.i64_in _ (by omega)
                                      have hgt : decide ((ot : Int) > (ow : Int)) = false := decide_eq_false (by omega)
                                      clear HOT hot2
                                      by_cases heq : ot = ow
                                      · as_aux_lemma =>
                                          have hbe : ((ot : Int) == (ow : Int)) = true := by rw [heq]; simp
                                          have hlt2 : decide (y < oi) = false := decide_eq_false (by have := b2 heq; omega)
                                          have hz := QZ.out.below HB.out (Nat.le_refl _)
                                          have ixk := fun w' : World => hz.idx und_is siz_is w' k (by omega)
                                          have cxk := at0_cell hz (by omega) HY.out
                                          have h6 := Q6.out.below HB.out (Nat.le_refl _)
                                          have ixm := fun w' : World => h6.idx und_is siz_is w' i (by rw [eachR_len]; exact hlt)
                                          simp only [eachR_len] at ixm
                                          have cxm := at0_cell h6 (by rw [eachR_len]; exact hlt) HO6.out
                                          have hgn : decide (ow < ot) = false := decide_eq_false (by omega)
                                          have hbn : (ot == ow) = true := beq_iff_eq.2 heq
                                          have HEQ := Lib.hid heq
                                          clear hz h6 b1 b2 heq
                                          go_wp2_with fail
                                          go_quiet (fail)
                                          go_wp2
                                          go_roundw
                                          case rel => exact ⟨k + 1, by omega, by omega, by go_num, Lib.hid (HB.out.trans (below_of_drewN _ _ _))⟩
                                          case measure => simp [intOf]; omega
                                      · as_aux_lemma =>
                                          have hbe : ((ot : Int) == (ow : Int)) = false := beq_eq_false_iff_ne.2 (by omega)
                                          have hgn : decide (ow < ot) = false := decide_eq_false (by omega)
                                          have hbn : (ot == ow) = false := beq_eq_false_iff_ne.2 heq
                                          have HEQ := Lib.hid heq
                                          clear b1 b2 heq
                                          go_wp2_with fail
                                          go_quiet (fail)
                                          go_wp2
                                          go_roundw
                                          case rel => exact ⟨k + 1, by omega, by omega, by go_num, Lib.hid (HB.out.trans (below_of_drewN _ _ _))⟩
                                          case measure => simp [intOf]; omega
                            · as_aux_lemma =>
                                obtain rfl : k = i + 1 := by omega
                                have hkz : ¬ ((i + 1 : Nat) : Int) ≤ (i : Int) := by omega
                                obtain ⟨wk, rfl⟩ : ∃ z : World, z = wr := ⟨_, rfl⟩
                                have ei : IntKind.i64.wrap ((i : Int) + 1) = (i : Int) + 1 := IntWalk.i64_in _ (by omega)
                                clear HOB HO6 HOW2 HCC HNE how
                                by_cases h0 : i = 0
                                · as_aux_lemma =>
                                    have hg0 : decide ((i : Int) > 0) = false := decide_eq_false (by omega)
                                    have hgN : decide (0 < i) = false := decide_eq_false (by omega)
                                    have HI0 := Lib.hid h0
                                    clear h0
                                    go_wp2_with fail
                                    go_quiet (fail)
                                    go_wp2
                                    go_roundw
                                    case rel => exact ⟨i + 1, by omega, by go_num, Lib.hid (HB.out.trans (below_of_drewN _ _ _))⟩
                                    case measure => simp [intOf]; omega
                                · as_aux_lemma =>
                                    obtain ⟨p, hp⟩ : ∃ p, p + 1 = i := ⟨i - 1, by omega⟩
                                    have hg0 : decide ((i : Int) > 0) = true := decide_eq_true (by omega)
                                    have ep : IntKind.i64.wrap ((i : Int) - 1) = (p : Int) := by rw [IntWalk.i64_in _ (by omega)]; omega
                                    have S := stepOk_of HZ6.out (i := p) (by omega)
                                    obtain ⟨sN0, sN1, sNy, sd, sm, sa, sg, ss⟩ := S
                                    rw [hp] at sN1 sNy sd sg ss
                                    have q8 := Q8.out.below HB.out (Nat.le_refl _)
                                    have ix8 := fun w' : World => q8.idx und_fs siz_fs w' i (by rw [smR_len]; exact hlt)
                                    have cl8 := q8.cell i (by rw [smR_len]; exact hlt)
                                    rw [sm_at hlt] at cl8
                                    have ix7 := fun w' : World => q8.idx und_fs siz_fs w' p (by rw [smR_len]; omega)
                                    have cl7 := q8.cell p (by rw [smR_len]; omega)
                                    rw [sm_at (i := p) (n := zs.length) (by omega)] at cl7
                                    simp only [smR_len] at ix8 ix7
                                    have qf := QF.out.below HB.out (Nat.le_refl _)
                                    have ixf := fun w' : World => qf.idx und_fs siz_fs w' i (by rw [fyL_len]; exact hlt)
                                    have clf := qf.cell i (by rw [fyL_len]; exact hlt)
                                    rw [fyL_get hlt] at clf
                                    simp only [fyL_len] at ixf
                                    have hgN : decide (0 < i) = true := decide_eq_true (by omega)
                                    have cv1 := fun w' : World => run_convert_float_float (P := Try.prog) w' 28 34 .f32 .f64 (smF cHalf zs i) _ und_f32 und_f64 (wid_val sN1).2.2
                                    have cv2 := fun w' : World => run_convert_float_float (P := Try.prog) w' 28 34 .f32 .f64 (smF cHalf zs p) _ und_f32 und_f64 (wid_val sN0).2.2
                                    have cv3 := fun w' : World => run_convert_float_float (P := Try.prog) w' 28 34 .f32 .f64 (fY (at0 zs i)) _ und_f32 und_f64 (wid_val sNy).2.2
                                    have ad := ar sd 34
                                    have am := ar sm 34
                                    have aa := ar sa 34
                                    have HGAP : Hid (∀ w : World, Calls Try.prog 18 #[.float .f64 (wid (smF cHalf zs i)), .float .f64 (smA zs p)] w fun e w' => e = .returned (.float .f64 (gapF (wid (smF cHalf zs i)) (smA zs p))) ∧ w = w') := Lib.hid (fun w => r8Gap_any sg)
                                    have hsm : (FloatKind.f64.format.order (gapF (wid (smF cHalf zs i)) (smA zs p)) 4562254508917369340 == some .gt) = false := ss
                                    clear q8 qf sN0 sN1 sNy sd sm sa sg ss
                                    have ech : cHalf64 = 4602678819172646912 := rfl
                                    rw [ech] at am
                                    clear ech
                                    generalize gapF (wid (smF cHalf zs i)) (smA zs p) = gq at *
                                    generalize smA zs p = sa at *
                                    generalize smM zs p = sm at *
                                    generalize smD zs p = sd at *
                                    generalize wid (smF cHalf zs i) = wi1 at *
                                    generalize wid (smF cHalf zs p) = wi0 at *
                                    generalize wid (fY (at0 zs i)) = wy at *
                                    generalize smF cHalf zs i = s1 at *
                                    generalize smF cHalf zs p = s0 at *
                                    generalize fY (at0 zs i) = yy at *
                                    have HPI := Lib.hid (And.intro hp h0)
                                    clear hp h0
                                    go_wp2_with fail
                                    go_quiet ((go_at_call 18; exact quietS (HGAP.out _)))
                                    clear ix8 cl8 ix7 cl7 ixf clf cv1 cv2 cv3 ad am aa HGAP hsm
                                    go_wp2
                                    go_roundw
                                    case rel => exact ⟨i + 1, by omega, by go_num, Lib.hid (HB.out.trans (below_of_drewN _ _ _))⟩
                                    case measure => simp [intOf]; omega
          · as_aux_lemma =>
              obtain rfl : i = zs.length := by omega
              have hlz : ¬ (zs.length : Int) < (zs.length : Int) := by omega
              obtain ⟨wk, rfl⟩ : ∃ z : World, z = wr := ⟨_, rfl⟩
              have q8 := Q8.out.below HB.out (Nat.le_refl _)
              have ix8 := fun w' : World => rd_idxAt (P := Try.prog) q8 und_fs siz_fs 0 (by rw [smR_len]; omega) 0 rfl w'
              have cl8 := q8.cell 0 (by rw [smR_len]; omega)
              rw [sm_at (i := 0) (n := zs.length) (by omega)] at cl8
              simp only [smR_len] at ix8
              have qf := QF.out.below HB.out (Nat.le_refl _)
              have ixf := fun w' : World => rd_idxAt (P := Try.prog) qf und_fs siz_fs 0 (by rw [fyL_len]; omega) 0 rfl w'
              have clf := qf.cell 0 (by rw [fyL_len]; omega)
              rw [fyL_get (k := 0) (by omega)] at clf
              simp only [fyL_len] at ixf
              have hst := first_ok HZ6.out (by omega)
              have HEND := Lib.hid (QB.out.trans (HB.out.mono QB.out.size))
              clear q8 qf
              generalize smF cHalf zs 0 = s1 at *
              generalize fY (at0 zs 0) = yy at *
              have hsb : (FloatKind.f32.format.order s1 yy == some .eq) = true := by rw [hst]; rfl
              go_wp2_with fail
              go_quiet (fail)
              go_wp2
              go_ret
              exact ⟨by simp, HEND.out.trans (below_of_drewN _ _ _)⟩

end Go.Proofs.Ytfclkbppmkjkeaa
