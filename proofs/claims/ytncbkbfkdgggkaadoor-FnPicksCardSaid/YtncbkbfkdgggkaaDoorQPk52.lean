/- The walk of the law FnPicks. -/
import Derived.Test.YtncbkbfkdgggkaaDoorQPk51
import Derived.Test.YtncbkbfkdgggkaaDoorQPk2
import Derived.Test.YtncbkbfkdgggkaaDoorQPk49
import Derived.Deep.Cut
import Derived.Deep.DeepCutAuto
import Derived.Deep.CutBlock
set_option linter.unusedVariables false
set_option linter.unusedSimpArgs false
namespace Go.Proofs.YtncbkbfkdgggkaaDoor
open Go.RowKit

/-- What the first sample is. -/
structure SmpOk (n m : Nat) (R : Nat) (b1 : Nat) (sel : List Int) : Prop where
  len : sel.length = m
  m : m = min n R
  up : Up sel
  rng : ∀ x ∈ sel, 0 ≤ x ∧ x < (n : Int)
  mem : (b1 : Int) ∈ sel
theorem smp_ok {n R : Nat} {s : Int} (h1 : 1 ≤ n) (hn : n ≤ 128) (hR : 1 ≤ R) : SmpOk n (min n R) R (bst (fun i => hashZ i s) (n - 1)) (pickL (fun i => hashZ i s) n (R : Int)) := by
  have P := pick_ok (h := fun i => hashZ i s) (n := n) (room := (R : Int)) (by omega)
  refine ⟨?_, rfl, pick_up _ (by omega) _, P.rng, bst_pick (h := fun i => hashZ i s) (by omega) (by omega) (by omega)⟩
  rw [P.len]
  rfl
theorem up_at {sel : List Int} (h : Up sel) {k : Nat} (h0 : 0 < k) (hk : k < sel.length) : at0 sel (k - 1) < at0 sel k := by
  rw [show at0 sel (k - 1) = sel[k - 1] by unfold at0; rw [List.getElem?_eq_getElem (show k - 1 < sel.length by omega)]; rfl, show at0 sel k = sel[k] by unfold at0; rw [List.getElem?_eq_getElem hk]; rfl]
  exact (List.pairwise_iff_getElem.1 h) (k - 1) k (by omega) hk (by omega)
theorem at_mem {sel : List Int} {k : Nat} (hk : k < sel.length) : at0 sel k ∈ sel := by unfold at0; rw [List.getElem?_eq_getElem hk]; exact List.getElem_mem _
theorem mem_take_succ {sel : List Int} {k : Nat} (hk : k < sel.length) (b : Int) : decide (b ∈ sel.take (k + 1)) = (decide (b ∈ sel.take k) || (at0 sel k == b)) := by
  have e : sel.take (k + 1) = sel.take k ++ [at0 sel k] := by rw [List.take_add_one, List.getElem?_eq_getElem hk]; unfold at0; rw [List.getElem?_eq_getElem hk]; rfl
  rw [e]
  by_cases h1 : b ∈ sel.take k
  · simp [h1]
  · by_cases h2 : at0 sel k = b
    · simp [h1, h2]
    · have h3 : ¬ b = at0 sel k := fun g => h2 g.symm
      simp [h1, h2, h3]
/-- The times that a source draws. -/
structure TmOk (tm : List Int) (n : Nat) : Prop where
  l : tm.length = n
  ok : (List.range n).all (timeOk tm) = true
  bd : ∀ j, j < n → 0 ≤ at0 tm j ∧ at0 tm j ≤ at0 tm (n - 1) ∧ at0 tm (n - 1) ≤ 154
theorem tm_ok {tm : List Int} {n : Nat} (hl : tm.length = n) (h1 : 1 ≤ n) (hn : n ≤ 16) (h : tm.Pairwise (fun x y => x ≤ y)) (hb : ∀ z ∈ tm, 0 ≤ z ∧ z + 5 ≤ 9 + 5 * (n : Int)) : TmOk tm n := by
  subst hl
  have e : ∀ i (hi : i < tm.length), at0 tm i = tm[i] := fun i hi => by unfold at0; rw [List.getElem?_eq_getElem hi]; rfl
  have mono : ∀ i j, i ≤ j → j < tm.length → at0 tm i ≤ at0 tm j := fun i j hij hj => by
    by_cases h2 : i = j
    · rw [h2]; exact Int.le_refl _
    · rw [e i (by omega), e j hj]
      exact (List.pairwise_iff_getElem.1 h) i j (by omega) hj (by omega)
  have bd : ∀ j, j < tm.length → 0 ≤ at0 tm j ∧ at0 tm j ≤ 154 := fun j hj => by
    have := hb _ (List.getElem_mem hj)
    rw [e j hj]
    omega
  refine ⟨rfl, ?_, fun j hj => ⟨(bd j hj).1, mono j _ (by omega) (by omega), (bd _ (by omega)).2⟩⟩
  rw [List.all_eq_true]
  intro j hj
  have hj := List.mem_range.1 hj
  have b := bd j hj
  unfold timeOk
  rw [Bool.and_eq_true, Bool.or_eq_true]
  refine ⟨(inR_eq _ _ _).2 ⟨b.1, by omega⟩, ?_⟩
  by_cases h0 : j = 0
  · left; simp [h0]
  · right
    exact decide_eq_true (mono _ _ (by omega) hj)
/-- The least hash is that of the best key. -/
theorem least_bst {ks : List Int} {s : Int} (h : 1 ≤ ks.length) : minG (hashL ks s) = hashZ (at0 ks (bst (fun i => hashZ (at0 ks i) s) (ks.length - 1))) s := by
  obtain ⟨b1, b2⟩ := bst_ok (fun i => hashZ (at0 ks i) s) (ks.length - 1)
  have hne : hashL ks s ≠ [] := by
    intro h1
    have := congrArg List.length h1
    unfold hashL at this
    rw [List.length_map] at this
    simp at this
    subst this
    simp at h
  obtain ⟨m1, m2⟩ := minG_best hne
  generalize bst (fun i => hashZ (at0 ks i) s) (ks.length - 1) = p at b1 b2 ⊢
  have hmem : hashZ (at0 ks p) s ∈ hashL ks s := List.mem_map.2 ⟨_, at_mem (by omega), rfl⟩
  have h1 := m2 _ hmem
  obtain ⟨x, hx, hxe⟩ := List.mem_map.1 m1
  obtain ⟨i, hi, rfl⟩ := List.getElem_of_mem hx
  have h2 := b2 i (by omega)
  have e : at0 ks i = ks[i] := by unfold at0; rw [List.getElem?_eq_getElem hi]; rfl
  rw [e] at h2
  generalize hashZ (at0 ks p) s = y at *
  generalize hashZ ks[i] s = z at *
  omega
theorem pos_gt {x : Nat} (N : isN .f32 x) (h : 1 / 2 ≤ val .f32 x) : FloatKind.f32.format.order x 0 = some .gt := by
  have h1 : FloatKind.f32.format.order x 0 = some (if val .f32 x < val .f32 0 then .lt else if val .f32 x = val .f32 0 then .eq else .gt) := order_val N v32_0.1
  rw [v32_0.2, if_neg (by grind), if_neg (by grind)] at h1
  exact h1
theorem least_0 : LeastOk 0 := ⟨v32_0.1, by rw [v32_0.2]; decide +kernel, by rw [v32_0.2]; decide +kernel⟩
theorem least_mk {x : Nat} (h : MkOk x) : LeastOk x := ⟨h.N, by have := h.lo; grind, h.hi⟩
theorem gap_same {a b : Nat} (ha : isN .f64 a) (hb : isN .f64 b) (h : val .f64 a = val .f64 b) : GapOk a b := gap_ok ha hb (by grind) (by grind)
theorem quietP {P : Program} {f : FuncId} {args : Array Value} {w : World} {n : Nat} {v : Value} (h : Calls P f args (w.drewN n) fun e w' => e = .returned v ∧ w.drewN n = w') : Calls P f args (w.drewN n) fun e w'' => e = .returned v ∧ ∃ m, w'' = w.drewN m :=
  h.mono fun _ _ ⟨he, hm⟩ => ⟨he, n, hm.symm⟩

set_option maxRecDepth 20000 in
set_option maxHeartbeats 8000000 in
theorem lawPicks_walk {a1 a2 : Option Addr} {c1 c2 : Nat} {xs ys : List Int} {w : World} (hTab : Tab w) (hr : Rd (Value.int .u8) w a1 c1 xs) (hb : ∀ x ∈ xs, 0 ≤ x ∧ x < 256) (hr2 : Rd (Value.int .u8) w a2 c2 ys) (hb2 : ∀ x ∈ ys, 0 ≤ x ∧ x < 256) :
    Calls Tryd.prog 3 #[.slice a1 xs.length c1, .slice a2 ys.length c2] w fun e w' => e = .returned (.bool true) ∧ Below w.heap.size w w' := by
  have hl1 := hr.len
  have hl2 := hr2.len
  have HTAB := Lib.hid hTab
  have HR1 := Lib.hid (And.intro hr hb)
  have HR2 := Lib.hid (And.intro hr2 hb2)
  clear hr hb hr2 hb2 hTab
  cases hlong : (decide (48 < xs.length) || decide (48 < ys.length)) with
  | true =>
    go_enter Tryd.func3, Tryd.ntmps3
    go_wp2_with fail
    refine (r8Long_any hl1 hl2).mono ?_
    rintro e w1 ⟨rfl, rfl⟩
    rw [hlong]
    go_wp2
    go_ret
    exact ⟨rfl, Below.refl _ _⟩
  | false =>
  go_enter Tryd.func3, Tryd.ntmps3
  go_wp2_with fail
  refine (r8Long_any hl1 hl2).mono ?_
  rintro e w1 ⟨rfl, rfl⟩
  rw [hlong]
  clear hlong
  go_wp2_with fail
  refine (r8At_any (i := 40) (n := 16) HR2.out.1 HR2.out.2 (by omega) (by omega) (by omega)).mono ?_
  rintro e w1 ⟨⟨v1, rfl, hv1⟩, rfl⟩
  obtain ⟨n, hn⟩ : ∃ n, 1 + v1 = n := ⟨_, rfl⟩
  have en : (1 : Int) + (v1 : Int) = (n : Int) := by omega
  have enw : IntKind.i64.wrap (n : Int) = (n : Int) := IntWalk.i64_in _ (by omega)
  go_upto_region 4 with (fail)
  clear en enw
  go_wp2_with fail
  refine (r8Keys_any HR1.out.1 HR1.out.2 (by omega)).mono ?_
  rintro e w1 ⟨ak, ck, ks, rfl, hl, hsm, ho, hb1⟩
  subst hl
  have hn1 : 1 ≤ ks.length := by omega
  have hn2 : ks.length ≤ 16 := by omega
  have HSM : Hid (Sml ks) := Lib.hid hsm
  have HK1 := Lib.hid ho.rd
  have HBW1 := Lib.hid hb1
  have HC1 := Lib.hid (And.intro (HR1.out.1.below hb1 (Nat.le_refl _)) HR1.out.2)
  have HM1 := Lib.hid (And.intro (HR2.out.1.below hb1 (Nat.le_refl _)) HR2.out.2)
  have HTAB1 := Lib.hid (HTAB.out.below hb1)
  clear hsm ho hb1 HR1 HR2 hn hv1 HTAB
  go_wp2_with fail
  refine (r8At_any (i := 41) (n := 8) HM1.out.1 HM1.out.2 (by omega) (by omega) (by omega)).mono ?_
  rintro e w2 ⟨⟨v2, rfl, hv2⟩, rfl⟩
  obtain ⟨R, hR⟩ : ∃ R : Nat, 1 + v2 = R := ⟨_, rfl⟩
  have en : (1 : Int) + (v2 : Int) = (R : Int) := by omega
  have enw : IntKind.i64.wrap (R : Int) = (R : Int) := IntWalk.i64_in _ (by omega)
  have hR1 : 1 ≤ R ∧ R ≤ 8 := by omega
  go_upto_region 6 with (fail)
  clear enw hR hv2 en
  go_wp2_with fail
  refine (r8At_any (i := 42) (n := 256) HM1.out.1 HM1.out.2 (by omega) (by omega) (by omega)).mono ?_
  rintro e w2 ⟨⟨sn, rfl, hsn⟩, rfl⟩
  obtain ⟨s, hs⟩ : ∃ s : Int, (sn : Int) = s := ⟨_, rfl⟩
  have hsb : 0 ≤ s ∧ s < 256 := by omega
  rw [hs]
  clear hs hsn
  have hsk : isKey s = true := (inR_eq _ _ _).2 ⟨hsb.1, by omega⟩
  have hkb := sml_keys HSM.out
  have HKB := Lib.hid hkb
  clear hkb
  go_wp2_with fail
  refine (sampleS_any (room := (R : Int)) HK1.out hn1 (by omega) HSM.out hsb ⟨by omega, by omega⟩).mono ?_
  rintro e w3 ⟨as_, cs, rfl, ho3, hb3⟩
  have hSMP := smp_ok (n := ks.length) (R := R) (s := s) hn1 (by omega) hR1.1
  obtain ⟨b1, hb1⟩ : ∃ b, bst (fun i => hashZ i s) (ks.length - 1) = b := ⟨_, rfl⟩
  obtain ⟨m, hm⟩ : ∃ m, min ks.length R = m := ⟨_, rfl⟩
  have hb1n : b1 < ks.length := by rw [← hb1]; have := (bst_ok (fun i => hashZ i s) (ks.length - 1)).1; omega
  rw [hb1, hm] at hSMP
  have HB1 := Lib.hid hb1
  generalize pickL (fun i => hashZ i s) ks.length (R : Int) = sel at ho3 hSMP ⊢
  have HSMP := Lib.hid hSMP
  have HSL := Lib.hid hSMP.len
  rw [HSL.out]
  have HS3 := Lib.hid ho3.rd
  have HK3 := Lib.hid (HK1.out.below hb3 (Nat.le_refl _))
  have HB3 := Lib.hid (HBW1.out.trans (hb3.mono HBW1.out.size))
  have HC3 := Lib.hid (And.intro (HC1.out.1.below hb3 (Nat.le_refl _)) HC1.out.2)
  have HM3 := Lib.hid (And.intro (HM1.out.1.below hb3 (Nat.le_refl _)) HM1.out.2)
  have HTAB3 := Lib.hid (HTAB1.out.below hb3)
  clear hSMP ho3 hb3 HK1 HBW1 HC1 HM1 HTAB1 hb1
  go_wp2_with fail
  refine (sampleSeen_any HK3.out hn1 (by omega) HKB.out hsk).mono ?_
  rintro e w4 ⟨an, cn_, rfl, ho4, hb4⟩
  have HN4 := Lib.hid ho4.rd
  have HS4 := Lib.hid (HS3.out.below hb4 (Nat.le_refl _))
  have HK4 := Lib.hid (HK3.out.below hb4 (Nat.le_refl _))
  have HB4 := Lib.hid (HB3.out.trans (hb4.mono HB3.out.size))
  have HC4 := Lib.hid (And.intro (HC3.out.1.below hb4 (Nat.le_refl _)) HC3.out.2)
  have HM4 := Lib.hid (And.intro (HM3.out.1.below hb4 (Nat.le_refl _)) HM3.out.2)
  have HTAB4 := Lib.hid (HTAB3.out.below hb4)
  clear ho4 hb4 HK3 HB3 HC3 HM3 HTAB3 HS3
  go_wp2_with fail
  refine (sampleS_any (room := 1) HK4.out hn1 (by omega) HSM.out hsb ⟨by omega, by omega⟩).mono ?_
  rintro e w5 ⟨a1_, c1_, rfl, ho5, hb5⟩
  rw [pick_one (h := fun i => hashZ i s) (by omega) (by omega), HB1.out] at ho5 ⊢
  have HO5 := Lib.hid ho5.rd
  have HN5 := Lib.hid (HN4.out.below hb5 (Nat.le_refl _))
  have HS5 := Lib.hid (HS4.out.below hb5 (Nat.le_refl _))
  have HK5 := Lib.hid (HK4.out.below hb5 (Nat.le_refl _))
  have HB5 := Lib.hid (HB4.out.trans (hb5.mono HB4.out.size))
  have HC5 := Lib.hid (And.intro (HC4.out.1.below hb5 (Nat.le_refl _)) HC4.out.2)
  have HM5 := Lib.hid (And.intro (HM4.out.1.below hb5 (Nat.le_refl _)) HM4.out.2)
  have HTAB5 := Lib.hid (HTAB4.out.below hb5)
  clear ho5 hb5 HK4 HB4 HC4 HM4 HTAB4 HS4 HN4
  -- region 10
  obtain ⟨x1, hx1⟩ : ∃ x, at0 ks b1 = x := ⟨_, rfl⟩
  obtain ⟨x0, hx0⟩ : ∃ x, at0 ks 0 = x := ⟨_, rfl⟩
  obtain ⟨sq, hsq⟩ : ∃ l, ((List.range ks.length).map fun i => at0 ks (bst (fun i => hashZ i s) i)) = l := ⟨_, rfl⟩
  rw [hsq] at HN5
  have hsl : sq.length = ks.length := by rw [← hsq, List.length_map, List.length_range]
  have hs1 : at0 sq (ks.length - 1) = x1 := by
    rw [← hsq, ← hx1, ← HB1.out]
    unfold at0
    rw [List.getElem?_map, List.getElem?_range (by omega)]
    rfl
  have hs0 : at0 sq 0 = x0 := by
    rw [← hsq, ← hx0]
    unfold at0
    rw [List.getElem?_map, List.getElem?_range (by omega)]
    rfl
  have cx1 := at0_cell HK5.out hb1n hx1
  have cx0 := at0_cell HK5.out (show 0 < ks.length by omega) hx0
  have cs1 := at0_cell HN5.out (show ks.length - 1 < sq.length by omega) hs1
  have cs0 := at0_cell HN5.out (show 0 < sq.length by omega) hs0
  have co0 := at0_cell HO5.out (k := 0) (x := (b1 : Int)) (by simp) rfl
  have ix1 := fun w' : World => HK5.out.idx und_is siz_is w' b1 hb1n
  have ix0 : ∀ w' : World, (Instr.indexAt 25 (.slice ak ks.length ck) (.int .i64 0)).run Tryd.prog w' = .ok (.pointer (some (elt ak 0))) w' := fun w' => HK5.out.idx und_is siz_is w' 0 (by omega)
  have is1 := fun w' : World => HN5.out.idx und_is siz_is w' (ks.length - 1) (by omega)
  have is0 : ∀ w' : World, (Instr.indexAt 25 (.slice an sq.length cn_) (.int .i64 0)).run Tryd.prog w' = .ok (.pointer (some (elt an 0))) w' := fun w' => HN5.out.idx und_is siz_is w' 0 (by omega)
  rw [hsl] at is1 is0
  have io0 : ∀ w' : World, (Instr.indexAt 25 (.slice a1_ 1 c1_) (.int .i64 0)).run Tryd.prog w' = .ok (.pointer (some (elt a1_ 0))) w' := fun w' => HO5.out.idx und_is siz_is w' 0 (by simp)
  have ewn : IntKind.i64.wrap ((ks.length : Int) - 1) = ((ks.length - 1 : Nat) : Int) := by rw [IntWalk.i64_in _ (by omega)]; omega
  have hmn : min (R : Int) (ks.length : Int) = (m : Int) := by omega
  have t1 : ((m : Int) != (m : Int)) = false := by simp
  have t2 : ((ks.length : Int) != (ks.length : Int)) = false := by simp
  have t3 : ¬ ((b1 : Int) < 0) := by omega
  have t4 : ¬ ((ks.length : Int) ≤ (b1 : Int)) := by omega
  have t3' : decide ((b1 : Int) < 0) = false := decide_eq_false t3
  have t4' : decide ((ks.length : Int) ≤ (b1 : Int)) = false := decide_eq_false t4
  have t4'' : decide (ks.length ≤ b1) = false := decide_eq_false (by omega)
  have t5 : (x1 != x1) = false := by simp
  have t6 : (x0 != x0) = false := by simp
  have HX1 := Lib.hid hx1
  clear hx1 hx0 hsq hs1 hs0 hsl
  go_upto_region 10 with (fail)
  simp only [List.append_eq, List.cons_append, List.nil_append]
  refine wp_region_quiet_lit (by kernel_rfl) (lexB_of (by kernel_rfl)) ?_
  repeat (go_big_quiet_step (fail))
  refine wpQuiet_nil ?_
  intro w6 hw6
  have hb6 : Below w5.heap.size w5 w6 := by obtain ⟨q, rfl⟩ := hw6; exact below_of_drewN _ _ _
  clear hw6 cx1 cx0 cs1 cs0 ix1 ix0 is1 is0 ewn hmn t1 t2 t3 t4 t5 t6 t3' t4' t4''
  have HO6 := Lib.hid (HO5.out.below hb6 (Nat.le_refl _))
  have HS6 := Lib.hid (HS5.out.below hb6 (Nat.le_refl _))
  have HK6 := Lib.hid (HK5.out.below hb6 (Nat.le_refl _))
  have HB6 := Lib.hid (HB5.out.trans (hb6.mono HB5.out.size))
  have HC6 := Lib.hid (And.intro (HC5.out.1.below hb6 (Nat.le_refl _)) HC5.out.2)
  have HM6 := Lib.hid (And.intro (HM5.out.1.below hb6 (Nat.le_refl _)) HM5.out.2)
  have HTAB6 := Lib.hid (HTAB5.out.below hb6)
  have cb0 := k_at hb6 co0
  clear hb6 co0 HO5 HS5 HK5 HB5 HC5 HM5 HTAB5 HN5
  go_upto_region 13 with (fail)
  go_wp2_with fail
  go_loopw [15, 16] (fun bv kv wr => ∃ (k : Nat) (bb : Bool), k ≤ m ∧ kv = .int .i64 k ∧ bv = .bool bb ∧ Hid (bb = decide ((b1 : Int) ∈ sel.take k)) ∧ Hid (∃ q, wr = w6.drewN q)) (fun _ kv _ => m - (intOf kv).toNat)
  case atStart => exact ⟨0, false, Nat.zero_le _, rfl, rfl, Lib.hid (by simp), Lib.hid ⟨0, rfl⟩⟩
  case round =>
    obtain ⟨k, bb, hkm, rfl, rfl, HBB, HQ⟩ := hrel
    have hbq : Below w6.heap.size w6 wr := by obtain ⟨q, rfl⟩ := HQ.out; exact below_of_drewN _ _ _
    by_cases hlt : k < m
    ·
      as_aux_lemma =>
        have hlz : (k : Int) < (m : Int) := by omega
        have hks : k < sel.length := by rw [HSL.out]; exact hlt
        have hrS := HS6.out.below hbq (Nat.le_refl _)
        obtain ⟨x, hx⟩ : ∃ x, at0 sel k = x := ⟨_, rfl⟩
        have hxr := HSMP.out.rng _ (at_mem hks)
        rw [hx] at hxr
        have cx := at0_cell hrS hks hx
        have ix := fun w' : World => hrS.idx und_is siz_is w' k hks
        rw [HSL.out] at ix
        have cb := k_at hbq cb0
        have ewk : IntKind.i64.wrap ((k : Int) + 1) = (k : Int) + 1 := IntWalk.i64_in _ (by omega)
        have u1 : ¬ (x < 0) := by omega
        have u1' : decide (x < 0) = false := decide_eq_false u1
        have u2 : ¬ ((ks.length : Int) ≤ x) := by omega
        have u2' : decide ((ks.length : Int) ≤ x) = false := decide_eq_false u2
        have HN : Hid ((bb || (x == (b1 : Int))) = decide ((b1 : Int) ∈ sel.take (k + 1))) := Lib.hid (by rw [mem_take_succ hks, hx, HBB.out])
        by_cases hk0 : 0 < k
        · have hk0z : (0 : Int) < (k : Int) := by omega
          have hpr := up_at HSMP.out.up hk0 hks
          obtain ⟨y, hy⟩ : ∃ y, at0 sel (k - 1) = y := ⟨_, rfl⟩
          rw [hx, hy] at hpr
          have cy := at0_cell hrS (show k - 1 < sel.length by omega) hy
          have iy := fun w' : World => hrS.idx und_is siz_is w' (k - 1) (by omega)
          rw [HSL.out] at iy
          have ewj : IntKind.i64.wrap ((k : Int) - 1) = ((k - 1 : Nat) : Int) := by rw [IntWalk.i64_in _ (by omega)]; omega
          have u3 : ¬ (x ≤ y) := by omega
          have u3' : decide (x ≤ y) = false := decide_eq_false u3
          clear hrS hx hy hxr hpr
          cases bb with
          | true =>
            have HN2 : Hid (true = decide ((b1 : Int) ∈ sel.take (k + 1))) := Lib.hid (by rw [← HN.out]; rfl)
            go_wp2_with fail
            go_quiet (fail)
            go_upto_region 18 with (fail)
            go_quiet (fail)
            go_wp2
            go_roundw
            case rel => exact ⟨k + 1, true, by omega, by go_num, rfl, HN2, Lib.hid (by obtain ⟨q, rfl⟩ := HQ.out; exact ⟨_, by rw [World.drewN_drewN]⟩)⟩
            case measure => simp [intOf]; omega
          | false =>
            cases hxb : (x == (b1 : Int)) with
            | true =>
              have HN2 : Hid (true = decide ((b1 : Int) ∈ sel.take (k + 1))) := Lib.hid (by rw [← HN.out, hxb]; rfl)
              go_wp2_with fail
              go_quiet (fail)
              go_upto_region 18 with (fail)
              go_quiet (fail)
              go_wp2
              go_roundw
              case rel => exact ⟨k + 1, true, by omega, by go_num, rfl, HN2, Lib.hid (by obtain ⟨q, rfl⟩ := HQ.out; exact ⟨_, by rw [World.drewN_drewN]⟩)⟩
              case measure => simp [intOf]; omega
            | false =>
              have HN2 : Hid (false = decide ((b1 : Int) ∈ sel.take (k + 1))) := Lib.hid (by rw [← HN.out, hxb]; rfl)
              go_wp2_with fail
              go_quiet (fail)
              go_upto_region 18 with (fail)
              go_quiet (fail)
              go_wp2
              go_roundw
              case rel => exact ⟨k + 1, false, by omega, by go_num, rfl, HN2, Lib.hid (by obtain ⟨q, rfl⟩ := HQ.out; exact ⟨_, by rw [World.drewN_drewN]⟩)⟩
              case measure => simp [intOf]; omega
        · have hk0z : ¬ (0 : Int) < (k : Int) := by omega
          have hk0' : decide (0 < k) = false := decide_eq_false hk0
          have hk0'' : decide ((0 : Int) < (k : Int)) = false := decide_eq_false hk0z
          clear hrS hx hxr
          have hbb : bb = false := by
            have := HBB.out
            rw [show k = 0 by omega] at this
            simpa using this
          subst hbb
          cases hxb : (x == (b1 : Int)) with
          | true =>
            have HN2 : Hid (true = decide ((b1 : Int) ∈ sel.take (k + 1))) := Lib.hid (by rw [← HN.out, hxb]; rfl)
            go_wp2_with fail
            go_quiet (fail)
            go_upto_region 18 with (fail)
            go_quiet (fail)
            go_wp2
            go_roundw
            case rel => exact ⟨k + 1, true, by omega, by go_num, rfl, HN2, Lib.hid (by obtain ⟨q, rfl⟩ := HQ.out; exact ⟨_, by rw [World.drewN_drewN]⟩)⟩
            case measure => simp [intOf]; omega
          | false =>
            have HN2 : Hid (false = decide ((b1 : Int) ∈ sel.take (k + 1))) := Lib.hid (by rw [← HN.out, hxb]; rfl)
            go_wp2_with fail
            go_quiet (fail)
            go_upto_region 18 with (fail)
            go_quiet (fail)
            go_wp2
            go_roundw
            case rel => exact ⟨k + 1, false, by omega, by go_num, rfl, HN2, Lib.hid (by obtain ⟨q, rfl⟩ := HQ.out; exact ⟨_, by rw [World.drewN_drewN]⟩)⟩
            case measure => simp [intOf]; omega
    ·
      as_aux_lemma =>
        obtain rfl : k = m := by omega
        have hlz : ¬ (k : Int) < (k : Int) := by omega
        have hbt : bb = true := by
          have h1 := HBB.out
          rw [← HSL.out, List.take_length, decide_eq_true HSMP.out.mem] at h1
          exact h1
        subst hbt
        have HO7 := Lib.hid (HS6.out.below hbq (Nat.le_refl _))
        have HK7 := Lib.hid (HK6.out.below hbq (Nat.le_refl _))
        have HB7 := Lib.hid (HB6.out.trans (hbq.mono HB6.out.size))
        have HC7 := Lib.hid (And.intro (HC6.out.1.below hbq (Nat.le_refl _)) HC6.out.2)
        have HM7 := Lib.hid (And.intro (HM6.out.1.below hbq (Nat.le_refl _)) HM6.out.2)
        have HTAB7 := Lib.hid (HTAB6.out.below hbq)
        clear hbq HQ HBB HS6 HK6 HB6 HC6 HM6 HTAB6 HO6 cb0
        obtain ⟨w7, rfl⟩ : ∃ z : World, z = wr := ⟨_, rfl⟩
        have HE := Lib.hid (own_empty (f := Value.float .f32) (e := 32) (α := Nat) w7 (by_ := 0) w7.heap.size (Nat.le_refl _) rfl)
        have HBE := Lib.hid ((Below.refl w7.heap.size w7).alloc (Nat.le_refl _) (.cells #[] 32))
        go_upto_region 23 with (fail)
        go_wp2_with fail
        go_loopw [17, 18, 19] (fun ov tv iv wr => ∃ (k : Nat) (b : Option Addr) (cc : Nat) (vs : List Nat) (t : Nat), k ≤ ks.length ∧ iv = .int .i64 k ∧ ov = .slice b k cc ∧ tv = .float .f64 t ∧ Hid (vs.length = k ∧ ∀ x ∈ vs, x < 16) ∧ Hid (TotOk vs t) ∧ Hid (Own (Value.float .f32) 32 wr w7.heap.size b cc (vs.map wtF)) ∧ Hid (Below w7.heap.size w7 wr)) (fun _ _ iv _ => ks.length - (intOf iv).toNat)
        case atStart => exact ⟨0, _, _, [], 0, Nat.zero_le _, rfl, rfl, rfl, Lib.hid (by simp), Lib.hid tot_0, HE, HBE⟩
        case round =>
          clear HE HBE
          obtain ⟨j, b, cc, vs, t, hj, rfl, rfl, rfl, HVS, HT, HO, HB⟩ := hrel
          by_cases hlt : j < ks.length
          ·
            as_aux_lemma =>
              have hlz2 : (j : Int) < (ks.length : Int) := by omega
              have HC := Lib.hid (And.intro (HC7.out.1.below HB.out (Nat.le_refl _)) HC7.out.2)
              go_wp2_with fail
              refine (r8At_any (i := j) (n := 16) HC.out.1 HC.out.2 (by omega) (by omega) (by omega)).mono ?_
              rintro e w8 ⟨⟨v, rfl, hv⟩, rfl⟩
              have ew : IntKind.i64.wrap (1 + (v : Int)) = (v : Int) + 1 := by rw [IntWalk.i64_in _ (by omega)]; omega
              have hcv : ∀ w' : World, (convert 2 32 (.int .i64 ((v : Int) + 1))).run Tryd.prog w' = .ok (.float .f32 (floatOfInt .f32 ((v : Int) + 1))) w' := fun w' => run_convert_int_float w' _ _ _ _ _ (by kernel_rfl) (by kernel_rfl)
              have ha := ar3p (wt_quo hv) 32
              have hst := tot_step wts_ok HT.out hv HVS.out.2 (by have := HVS.out.1; omega)
              have hcw := fun w' : World => run_convert_float_float (P := Tryd.prog) w' 32 31 .f32 .f64 (wtF v) _ und_f32 und_f64 (wid_val (wts_ok v hv).1).2.2
              have hat := ar hst.1 31
              have HT2 := Lib.hid hst.2
              have HMP : Hid ((vs ++ [v]).map wtF = vs.map wtF ++ [wtF v]) := Lib.hid (by rw [List.map_append]; rfl)
              have HV2 : Hid ((vs ++ [v]).length = j + 1 ∧ ∀ x ∈ vs ++ [v], x < 16) := Lib.hid ⟨by rw [List.length_append, HVS.out.1]; rfl, fun x hx => by
                rcases List.mem_append.1 hx with h | h
                · exact HVS.out.2 x h
                · rw [List.mem_singleton.1 h]; exact hv⟩
              have hlm : (vs.map wtF).length = j := by rw [List.length_map, HVS.out.1]
              generalize fo .add t (wid (wtF v)) = t2 at hat HT2
              generalize wid (wtF v) = x6 at hcw hat
              generalize wtF v = x at ha hcw HMP
              generalize floatOfInt .f32 ((v : Int) + 1) = fq at hcv ha
              obtain ⟨ms, hms⟩ : ∃ ms, vs.map wtF = ms := ⟨_, rfl⟩
              rw [hms] at hlm HMP HO
              have ewk : IntKind.i64.wrap ((j : Int) + 1) = (j : Int) + 1 := IntWalk.i64_in _ (by omega)
              have hz3 := HB.out.size
              clear hst hms HC hv
              subst hlm
              go_wp2_with (at_builtin; refine wpl_append1 (f := Value.float .f32) (d := 0) (base := w7.heap.size) und_fse info_f (fun _ => rfl) x HO.out rfl _ _ rfl rfl rfl (by omega) (by omega) hz3 ?_; intro a4 c4 w4 ho4 hg4)
              go_roundw
              case rel => exact ⟨ms.length + 1, a4, c4, vs ++ [v], t2, by omega, by go_num, by simp, rfl, HV2, HT2, Lib.hid (ho4.cast HMP.out.symm), Lib.hid (HB.out.trans (grown_belowOwn HO.out hg4 (Nat.le_refl _) hz3))⟩
              case measure => simp [intOf]; omega
          ·
            as_aux_lemma =>
              obtain rfl : j = ks.length := by omega
              have hlz2 : ¬ (ks.length : Int) < (ks.length : Int) := by omega
              obtain ⟨w8, rfl⟩ : ∃ z : World, z = wr := ⟨_, rfl⟩
              have HK8 := Lib.hid (HK7.out.below HB.out (Nat.le_refl _))
              have HB8 := Lib.hid (HB7.out.trans (HB.out.mono HB7.out.size))
              have HM8 := Lib.hid (And.intro (HM7.out.1.below HB.out (Nat.le_refl _)) HM7.out.2)
              have HTAB8 := Lib.hid (HTAB7.out.below HB.out)
              have HW8 := Lib.hid HO.out.rd
              have HL8 : Hid ((vs.map wtF).length = ks.length) := Lib.hid (by rw [List.length_map, HVS.out.1])
              have HWT : Hid (∀ x ∈ vs.map wtF, WtOk x) := Lib.hid (fun x hx => by
                obtain ⟨v, hv, rfl⟩ := List.mem_map.1 hx
                exact wt_ok wts_ok (HVS.out.2 v hv))
              have hex := prt_exact wts_ok HVS.out.2 (by have := HVS.out.1; omega) vs.length (Nat.le_refl _)
              rw [List.take_length, HVS.out.1] at hex
              have HEX := Lib.hid hex
              have HTO := Lib.hid HT.out
              clear hex HO HB HK7 HB7 HC7 HM7 HTAB7 HO7 HT HVS
              generalize vs.map wtF = ws at *
              go_wp2_with fail
              refine (weighed_any (room := (R : Int)) HW8.out HL8.out hn1 (by omega) HWT.out ⟨by omega, by omega⟩ hsk).mono ?_
              rintro e w9 ⟨a9, c9, mk, rfl, hmk, ho9, hb9⟩
              have hS1 : (pickL (wtK ws s) ks.length (R : Int)).length = k := by rw [(pick_ok (h := wtK ws s) (room := (R : Int)) (by omega)).len]; exact hm
              have hU1 := pick_up (wtK ws s) (n := ks.length) (by omega) (R : Int)
              have hR1' := (pick_ok (h := wtK ws s) (n := ks.length) (room := (R : Int)) (by omega)).rng
              generalize pickL (wtK ws s) ks.length (R : Int) = sel1 at ho9 hS1 hU1 hR1' ⊢
              rw [hS1]
              have HSE := Lib.hid (And.intro hS1 (And.intro hU1 hR1'))
              have HO9 := Lib.hid ho9.rd
              have HW9 := Lib.hid (HW8.out.below hb9 (Nat.le_refl _))
              have HK9 := Lib.hid (HK8.out.below hb9 (Nat.le_refl _))
              have HB9 := Lib.hid (HB8.out.trans (hb9.mono HB8.out.size))
              have HM9 := Lib.hid (And.intro (HM8.out.1.below hb9 (Nat.le_refl _)) HM8.out.2)
              have HTAB9 := Lib.hid (HTAB8.out.below hb9)
              have HMKK := Lib.hid hmk
              clear ho9 hb9 hmk hS1 hU1 hR1' HW8 HK8 HB8 HM8 HTAB8
              go_wp2_with fail
              refine (weighed_any (room := 128) HW9.out HL8.out hn1 (by omega) HWT.out ⟨by omega, by omega⟩ hsk).mono ?_
              rintro e w10 ⟨a10, c10, z0, rfl, hz0, ho10, hb10⟩
              have hz00 : z0 = 0 := by
                rcases hz0 with ⟨_, h⟩ | ⟨h, _⟩
                · exact h
                · omega
              subst hz00
              rw [pick_all (wtK ws s) (n := ks.length) (by omega) (show (ks.length : Int) ≤ 128 by omega)] at ho10 ⊢
              rw [idxN_len]
              have HO10 := Lib.hid ho10.rd
              have HO9' := Lib.hid (HO9.out.below hb10 (Nat.le_refl _))
              have HW10 := Lib.hid (HW9.out.below hb10 (Nat.le_refl _))
              have HK10 := Lib.hid (HK9.out.below hb10 (Nat.le_refl _))
              have HB10 := Lib.hid (HB9.out.trans (hb10.mono HB9.out.size))
              have HM10 := Lib.hid (And.intro (HM9.out.1.below hb10 (Nat.le_refl _)) HM9.out.2)
              have HTAB10 := Lib.hid (HTAB9.out.below hb10)
              clear ho10 hb10 hz0 HW9 HK9 HB9 HM9 HTAB9 HO9
              have hsum := sumOf_any (l := 0) HW10.out HO10.out HL8.out (idxN_len ks.length) hn1 (by omega) (by omega) HWT.out least_0 (fun i hi => by
                obtain ⟨j, hj, rfl⟩ := List.mem_map.1 hi
                have := List.mem_range.1 hj
                rw [HL8.out]
                exact ⟨Int.natCast_nonneg _, Int.ofNat_lt.2 this⟩) (inc_up (idxN_up _))
              obtain ⟨sm, hsm⟩ : ∃ x, prt ws 0 (idxN ks.length) ks.length = x := ⟨_, rfl⟩
              rw [hsm] at hsum
              have hexs := HEX.out
              rw [hsm] at hexs
              have HSUM := Lib.hid hsum
              have HES := Lib.hid hexs
              clear hsum hsm hexs HEX
              go_wp2_with fail
              refine HSUM.out.mono ?_
              rintro e w11 ⟨rfl, hb11⟩
              have HO11 := Lib.hid (HO9'.out.below hb11 (Nat.le_refl _))
              have HW11 := Lib.hid (HW10.out.below hb11 (Nat.le_refl _))
              have HK11 := Lib.hid (HK10.out.below hb11 (Nat.le_refl _))
              have HB11 := Lib.hid (HB10.out.trans (hb11.mono HB10.out.size))
              have HM11 := Lib.hid (And.intro (HM10.out.1.below hb11 (Nat.le_refl _)) HM10.out.2)
              have HTAB11 := Lib.hid (HTAB10.out.below hb11)
              clear hb11 HSUM HW10 HK10 HB10 HM10 HTAB10 HO9' HO10
              have hlst : LeastOk mk := by
                rcases HMKK.out with ⟨_, h⟩ | ⟨_, h⟩
                · rw [h]; exact least_0
                · exact least_mk h
              have hrg : ∀ i ∈ sel1, 0 ≤ i ∧ i < (ws.length : Int) := fun i hi => by rw [HL8.out]; exact HSE.out.2.2 i hi
              have hk1 : 1 ≤ k := by omega
              have hsum := sumOf_any (l := mk) HW11.out HO11.out HL8.out HSE.out.1 hn1 (by omega) (by omega) HWT.out hlst hrg (inc_up HSE.out.2.1)
              have hpos := prt_ok HWT.out hlst hrg (by rw [HSE.out.1]; omega) k (by rw [HSE.out.1]; exact Nat.le_refl _)
              obtain ⟨td, htd⟩ : ∃ x, prt ws mk sel1 k = x := ⟨_, rfl⟩
              have hp1 := hpos.pos (by omega)
              have hp2 := hpos.N
              rw [htd] at hsum hp1 hp2
              have HSUM := Lib.hid hsum
              have oT := pos_gt hp2 hp1
              clear hsum htd hpos hp1 hp2 hrg hlst
              go_wp2_with fail
              refine HSUM.out.mono ?_
              rintro e w12 ⟨rfl, hb12⟩
              have HK12 := Lib.hid (HK11.out.below hb12 (Nat.le_refl _))
              have HB12 := Lib.hid (HB11.out.trans (hb12.mono HB11.out.size))
              have HM12 := Lib.hid (And.intro (HM11.out.1.below hb12 (Nat.le_refl _)) HM11.out.2)
              have HTAB12 := Lib.hid (HTAB11.out.below hb12)
              clear hb12 HSUM HW11 HK11 HB11 HM11 HTAB11 HO11 HWT
              -- region 33
              obtain ⟨wN, wv, wc⟩ := wid_val HES.out.1
              have hval : val .f64 (wid sm) = val .f64 t := by rw [wv, HES.out.2, HTO.out.v]
              have cv1 := fun w' : World => run_convert_float_float (P := Tryd.prog) w' 32 31 .f32 .f64 sm _ und_f32 und_f64 wc
              have gk := gap_same wN HTO.out.N hval
              have HGP : Hid (∀ w' : World, Calls Tryd.prog 11 #[.float .f64 (wid sm), .float .f64 t] w' fun e w'' => e = .returned (.float .f64 (gapF (wid sm) t)) ∧ w' = w'') := Lib.hid (fun w' => r8Gap_any gk)
              have tL := gap_none wN HTO.out.N hval
              rw [show cHun2 = 4576918229304087675 from rfl] at tL
              generalize gapF (wid sm) t = vg at HGP tL
              generalize wid sm = s6 at cv1 HGP
              have o0 : FloatKind.f32.format.order 0 0 = some .eq := by decide +kernel
              obtain ⟨gb, hgb⟩ : ∃ b, decide (R < ks.length) = b := ⟨_, rfl⟩
              have hgz : decide ((R : Int) < (ks.length : Int)) = gb := by rw [← hgb]; congr 1; simp
              have hom : (FloatKind.f32.format.order mk 0 == some .gt) = gb := by
                rcases HMKK.out with ⟨h1, h⟩ | ⟨h1, h⟩
                · rw [h, o0, ← hgb, decide_eq_false (by omega)]; rfl
                · have h2 := pos_gt h.N h.lo
                  rw [h2, ← hgb, decide_eq_true (by omega)]; rfl
              have hgg : (gb != gb) = false := by simp
              have hgx : (gb ^^ gb) = false := by simp
              have t2 : ((ks.length : Int) != (ks.length : Int)) = false := by simp
              have t1 : ((k : Int) != (k : Int)) = false := by simp
              have hmn : min (R : Int) (ks.length : Int) = (k : Int) := by omega
              clear gk hval wN wv wc
              go_upto_region 33 with (fail)
              go_wp2_with fail
              refine (HGP.out _).mono ?_
              rintro e w13 ⟨rfl, rfl⟩
              go_upto_region 35 with (fail)
              as_aux_lemma =>
                clear HGP tL cv1 o0 hgz hom hgg hgx t2 t1 hmn oT
                go_wp2_with fail
                refine (r8Times_any HM12.out.1 HM12.out.2 (by omega)).mono ?_
                rintro e w14 ⟨at_, ct, tm, rfl, htl, htp, ho14, hb14⟩
                have hTM := tm_ok htl hn1 hn2 htp.1 htp.2
                have HTM := Lib.hid hTM
                have HT14 := Lib.hid ho14.rd
                have HK14 := Lib.hid (HK12.out.below hb14 (Nat.le_refl _))
                have HB14 := Lib.hid (HB12.out.trans (hb14.mono HB12.out.size))
                have HTAB14 := Lib.hid (HTAB12.out.below hb14)
                clear htl htp ho14 hb14 hTM HK12 HB12 HM12 HTAB12
                obtain ⟨la, hla⟩ : ∃ x, at0 tm (ks.length - 1) = x := ⟨_, rfl⟩
                have cla := at0_cell HT14.out (show ks.length - 1 < tm.length by rw [HTM.out.l]; omega) hla
                have ila := fun w' : World => HT14.out.idx und_is siz_is w' (ks.length - 1) (by rw [HTM.out.l]; omega)
                rw [HTM.out.l] at ila
                have ewn : IntKind.i64.wrap ((ks.length : Int) - 1) = ((ks.length - 1 : Nat) : Int) := by rw [IntWalk.i64_in _ (by omega)]; omega
                have hlb : 0 ≤ la ∧ la ≤ 154 := by
                  have h := HTM.out.bd (ks.length - 1) (by omega)
                  rw [hla] at h
                  exact ⟨h.1, h.2.2⟩
                have HLA := Lib.hid hla
                clear hla
                go_upto_region 37 with (fail)
                clear cla ila ewn
                go_wp2_with fail
                refine (timeSample_yes (t := la) (L := 1000) HT14.out HK14.out HTM.out.l rfl hn1 (by omega) HKB.out hsk HTM.out.ok ⟨hlb.1, by omega⟩ ⟨by omega, by omega⟩ (fun j hj => by
                  have h := HTM.out.bd j hj
                  rw [HLA.out] at h
                  omega)).mono ?_
                rintro e w15 ⟨rfl, hb15⟩
                have hlst := least_bst (ks := ks) (s := s) hn1
                have hkb := keys_at HKB.out (k := bst (fun i => hashZ (at0 ks i) s) (ks.length - 1)) (by have := (bst_ok (fun i => hashZ (at0 ks i) s) (ks.length - 1)).1; omega)
                generalize at0 ks (bst (fun i => hashZ (at0 ks i) s) (ks.length - 1)) = ky at hlst hkb ⊢
                have hkk : isKey ky = true := (inR_eq _ _ _).2 ⟨hkb.1, by omega⟩
                have HT15 := Lib.hid (HT14.out.below hb15 (Nat.le_refl _))
                have HK15 := Lib.hid (HK14.out.below hb15 (Nat.le_refl _))
                have HB15 := Lib.hid (HB14.out.trans (hb15.mono HB14.out.size))
                have HTAB15 := Lib.hid (HTAB14.out.below hb15)
                have HLST := Lib.hid hlst
                have ew5 : IntKind.i64.wrap (la + 500) = la + 500 := IntWalk.i64_in _ (by omega)
                clear hb15 hlst hkb HT14 HK14 HB14 HTAB14
                go_wp2_with fail
                refine (timeSample_no (t := la + 500) (L := 1) HT15.out HK15.out HTM.out.l rfl hn1 (by omega) HKB.out hsk HTM.out.ok ⟨by omega, by omega⟩ ⟨by omega, by omega⟩ (fun j hj => by
                  have h := HTM.out.bd j hj
                  rw [HLA.out] at h
                  omega)).mono ?_
                rintro e w16 ⟨rfl, hb16⟩
                have HK16 := Lib.hid (HK15.out.below hb16 (Nat.le_refl _))
                have HB16 := Lib.hid (HB15.out.trans (hb16.mono HB15.out.size))
                have HTAB16 := Lib.hid (HTAB15.out.below hb16)
                clear hb16 HT15 HK15 HB15 HTAB15 ew5
                have HHO := Lib.hid (fun w' : World => hashOf_any (w := w') hkk hsk)
                obtain ⟨hz, hhz⟩ : ∃ z, hashZ ky s = z := ⟨_, rfl⟩
                rw [hhz] at HHO HLST
                clear hhz
                go_wp2_with fail
                refine (HHO.out _).mono ?_
                rintro e w17 ⟨rfl, rfl⟩
                have HLH := Lib.hid (leastHash_any HK16.out hn1 (by omega) HKB.out hsk)
                rw [HLST.out] at HLH
                go_wp2_with fail
                refine HLH.out.mono ?_
                rintro e w18 ⟨li, rfl, hb18⟩
                have HK18 := Lib.hid (HK16.out.below hb18 (Nat.le_refl _))
                have HB18 := Lib.hid (HB16.out.trans (hb18.mono HB16.out.size))
                have HTAB18 := Lib.hid (HTAB16.out.below hb18)
                clear hb18 HK16 HB16 HTAB16 HLH HHO HLST hkk
                have hzz : (hz != hz) = false := by simp
                go_upto_region 43 with (fail)
                clear hzz
                obtain ⟨hf, hhf⟩ : ∃ h, ks.length / 2 = h := ⟨_, rfl⟩
                have hfl : hf ≤ ks.length := by omega
                have hq2 : ((ks.length : Nat) : Int).tdiv 2 = (hf : Int) := by rw [Int.tdiv_eq_ediv_of_nonneg (by omega)]; omega
                have ewh : IntKind.i64.wrap (hf : Int) = (hf : Int) := IntWalk.i64_in _ (by omega)
                obtain ⟨A, hA⟩ : ∃ A, ks.take hf = A := ⟨_, rfl⟩
                obtain ⟨B, hB⟩ : ∃ B, ks.drop hf = B := ⟨_, rfl⟩
                have hAB : A ++ B = ks := by rw [← hA, ← hB]; exact List.take_append_drop _ _
                have hAl : A.length = hf := by rw [← hA, List.length_take]; omega
                have hBl : B.length = ks.length - hf := by rw [← hB, List.length_drop]
                have hsA : Sml A := fun z hz => HSM.out z (by rw [← hAB]; exact List.mem_append_left _ hz)
                have hsB : Sml B := fun z hz => HSM.out z (by rw [← hAB]; exact List.mem_append_right _ hz)
                obtain ⟨lA, dA⟩ := ds_ok hsA (room := (R : Int)) hsb (by omega)
                obtain ⟨lB, dB⟩ := ds_ok hsB (room := (R : Int)) hsb (by omega)
                obtain ⟨l, dL⟩ := ds_ok HSM.out (room := (R : Int)) hsb (by omega)
                have hJ := jn_ok hsA hsB hsb (room := (R : Int)) ⟨by omega, by omega⟩ dA dB (by rw [hAB]; exact dL)
                obtain ⟨aA, cA, slA, rdA⟩ := HK18.out.headRun2 und_is siz_is (hi := hf) hfl
                obtain ⟨aB, cB, slB, rdB⟩ := HK18.out.cutRun (P := Tryd.prog) und_is siz_is (k := hf) hfl
                have HA : Hid (Rd (Value.int .i64) w18 aA cA A ∧ A.length = hf ∧ Sml A ∧ DsOk A (R : Int) s lA) := Lib.hid ⟨by rw [← hA]; exact rdA _ HK18.out, hAl, hsA, dA⟩
                have HBB2 : Hid (Rd (Value.int .i64) w18 aB cB B ∧ B.length = ks.length - hf ∧ Sml B ∧ DsOk B (R : Int) s lB) := Lib.hid ⟨by rw [← hB]; exact rdB _ HK18.out, hBl, hsB, dB⟩
                have HJ := Lib.hid (And.intro hAB (And.intro hJ dL))
                clear rdA rdB hJ dL dA dB hsA hsB hAl hBl hAB hA hB hhf
                have n1 : (0 : Int) ≤ (hf : Int) := by omega
                have n2 : (hf : Int) ≤ (ks.length : Int) := by omega
                have hdA := dstS_any (room := (R : Int)) HA.out.1 HTAB18.out (by rw [HA.out.2.1]; omega) HA.out.2.2.1 hsb ⟨by omega, by omega⟩ HA.out.2.2.2
                rw [HA.out.2.1] at hdA
                have HDA := Lib.hid hdA
                clear hdA
                go_wp2_with fail
                refine HDA.out.mono ?_
                rintro e w19 ⟨a19, c19, rfl, ho19, hb19⟩
                as_aux_lemma =>
                  have HLA19 := Lib.hid ho19.rd
                  have HB2 := Lib.hid (HBB2.out.1.below hb19 (Nat.le_refl _))
                  have HK19 := Lib.hid (HK18.out.below hb19 (Nat.le_refl _))
                  have HB19 := Lib.hid (HB18.out.trans (hb19.mono HB18.out.size))
                  have HTAB19 := Lib.hid (HTAB18.out.below hb19)
                  clear ho19 hb19 HDA HK18 HB18 HTAB18 slA
                  have hdB := dstS_any (room := (R : Int)) HB2.out HTAB19.out (by rw [HBB2.out.2.1]; omega) HBB2.out.2.2.1 hsb ⟨by omega, by omega⟩ HBB2.out.2.2.2
                  rw [HBB2.out.2.1] at hdB
                  have HDB := Lib.hid hdB
                  clear hdB
                  go_wp2_with fail
                  refine HDB.out.mono ?_
                  rintro e w20 ⟨a20, c20, rfl, ho20, hb20⟩
                  have HLB20 := Lib.hid ho20.rd
                  have HLA20 := Lib.hid (HLA19.out.below hb20 (Nat.le_refl _))
                  have HK20 := Lib.hid (HK19.out.below hb20 (Nat.le_refl _))
                  have HB20 := Lib.hid (HB19.out.trans (hb20.mono HB19.out.size))
                  have HTAB20 := Lib.hid (HTAB19.out.below hb20)
                  clear ho20 hb20 HDB HK19 HB19 HTAB19 slB HLA19 HB2
                  have HDK := Lib.hid (dstS_any (room := (R : Int)) HK20.out HTAB20.out (by omega) HSM.out hsb ⟨by omega, by omega⟩ HJ.out.2.2)
                  go_wp2_with fail
                  refine HDK.out.mono ?_
                  rintro e w21 ⟨a21, c21, rfl, ho21, hb21⟩
                  have HLK21 := Lib.hid ho21.rd
                  have HLB21 := Lib.hid (HLB20.out.below hb21 (Nat.le_refl _))
                  have HLA21 := Lib.hid (HLA20.out.below hb21 (Nat.le_refl _))
                  have HK21 := Lib.hid (HK20.out.below hb21 (Nat.le_refl _))
                  have HB21 := Lib.hid (HB20.out.trans (hb21.mono HB20.out.size))
                  have HTAB21 := Lib.hid (HTAB20.out.below hb21)
                  clear ho21 hb21 HDK HK20 HB20 HTAB20 HLA20 HLB20
                  have HJN := Lib.hid (jnS_any HLA21.out HLB21.out HTAB21.out HJ.out.2.1)
                  rw [HJ.out.1] at HJN
                  go_wp2_with fail
                  refine HJN.out.mono ?_
                  rintro e w22 ⟨a22, c22, rfl, ho22, hb22⟩
                  as_aux_lemma =>
                    have HLJ22 := Lib.hid ho22.rd
                    have HLK22 := Lib.hid (HLK21.out.below hb22 (Nat.le_refl _))
                    have HK22 := Lib.hid (HK21.out.below hb22 (Nat.le_refl _))
                    have HB22 := Lib.hid (HB21.out.trans (hb22.mono HB21.out.size))
                    have HTAB22 := Lib.hid (HTAB21.out.below hb22)
                    clear ho22 hb22 HJN HK21 HB21 HTAB21 HLA21 HLB21 HLK21 HA HBB2 n1 n2 hq2 ewh
                    have hl32 : l ≤ 32 := HJ.out.2.2.le
                    have hLl := few_len HJ.out.2.2.few
                    have hLm : ∀ z ∈ lev ks s l, 0 ≤ z ∧ z < 65536 ∧ (l : Int) ≤ lowZ (hashZ z s) := fun z hz => by
                      obtain ⟨h1, h2⟩ := lev_mem.1 hz
                      exact ⟨(HSM.out z h1).1, (HSM.out z h1).2, h2⟩
                    have hLu := lev_up ks s l
                    have hl0 : l = 0 → (lev ks s l).length = (uniq ks).length := fun h => by rw [h, lev_0 HSM.out hsb]
                    generalize lev ks s l = L at HLJ22 HLK22 hLl hLm hLu hl0 ⊢
                    have HLF := Lib.hid (And.intro hLm hLu)
                    have hLn : L.length ≤ 8 := by omega
                    have u1 : ¬ ((l : Int) < 0) := by omega
                    have u1' : decide ((l : Int) < 0) = false := decide_eq_false u1
                    have u2 : ¬ ((32 : Int) < (l : Int)) := by omega
                    have u2' : decide ((32 : Int) < (l : Int)) = false := decide_eq_false u2
                    have u2'' : decide (32 < l) = false := decide_eq_false (by omega)
                    have u3 : ((l : Int) != (l : Int)) = false := by simp
                    have u4 : ¬ ((R : Int) < (L.length : Int)) := by omega
                    have u4' : decide (R < L.length) = false := decide_eq_false (by omega)
                    have HSame := Lib.hid (r8Same_any HLJ22.out HLK22.out)
                    clear hLm hLu
                    go_upto_region 48 with (fail)
                    go_wp2_with fail
                    refine HSame.out.mono ?_
                    rintro e w23 ⟨rfl, hq23⟩
                    have hbq : Below w22.heap.size w22 w23 := by obtain ⟨q, rfl⟩ := hq23; exact below_of_drewN _ _ _
                    have HLK23 := Lib.hid (HLK22.out.below hbq (Nat.le_refl _))
                    have HK23 := Lib.hid (HK22.out.below hbq (Nat.le_refl _))
                    have HB23 := Lib.hid (HB22.out.trans (hbq.mono HB22.out.size))
                    have HTAB23 := Lib.hid (HTAB22.out.below hbq)
                    clear hq23 hbq HSame HK22 HB22 HTAB22 HLJ22 HLK22
                    have HDI := Lib.hid (r8Distinct_any HK23.out)
                    have hlz0' : ((l : Int) == 0) = decide (l = 0) := by
                      by_cases h : l = 0
                      · rw [h]; rfl
                      · rw [decide_eq_false h]; exact beq_eq_false_iff_ne.2 (by omega)
                    have HL0 := Lib.hid hl0
                    clear hl0
                    by_cases hlz0 : l = 0
                    all_goals
                      first
                      | (
                          have v1 : ((l : Int) == 0) = true := by rw [hlz0', decide_eq_true hlz0]
                          have v2 : ((L.length : Int) != (L.length : Int)) = false := by simp
                          rw [← HL0.out hlz0] at HDI
                          clear hlz0 hlz0'
                          go_wp2_with fail
                          refine HDI.out.mono ?_
                          rintro e w24 ⟨rfl, hq24⟩
                          have hbq : Below w23.heap.size w23 w24 := by obtain ⟨q, rfl⟩ := hq24; exact below_of_drewN _ _ _
                          have HLK24 := Lib.hid (HLK23.out.below hbq (Nat.le_refl _))
                          have HB24 := Lib.hid (HB23.out.trans (hbq.mono HB23.out.size))
                          have HTAB24 := Lib.hid (HTAB23.out.below hbq)
                          clear hq24 hbq HDI HK23 HB23 HTAB23 HLK23
                          go_upto_region 50 with (fail)
                          clear v1 v2)
                      | (
                          have v1 : ((l : Int) == 0) = false := by rw [hlz0', decide_eq_false hlz0]
                          clear hlz0 hlz0'
                          obtain ⟨w24, rfl⟩ : ∃ z : World, z = w23 := ⟨_, rfl⟩
                          have HLK24 := HLK23
                          have HB24 := HB23
                          have HTAB24 := HTAB23
                          clear HDI HK23 HB23 HTAB23 HLK23
                          go_upto_region 50 with (fail)
                          clear v1)
                      clear HL0 u1 u1' u2 u2' u2'' u3 u4 u4'
                      go_wp2_with fail
                      go_loopw [55] (fun iv wr => ∃ i : Nat, i ≤ L.length ∧ iv = .int .i64 i ∧ Hid (∃ q, wr = w24.drewN q)) (fun iv _ => L.length - (intOf iv).toNat)
                      case atStart => exact ⟨0, Nat.zero_le _, rfl, Lib.hid ⟨0, rfl⟩⟩
                      case round =>
                        obtain ⟨i, hi, rfl, HQ⟩ := hrel
                        have hbq : Below w24.heap.size w24 wr := by obtain ⟨q, rfl⟩ := HQ.out; exact below_of_drewN _ _ _
                        by_cases hlt3 : i < L.length
                        · have hlz3 : (i : Int) < (L.length : Int) := by omega
                          have hrL := HLK24.out.below hbq (Nat.le_refl _)
                          have hTB := HTAB24.out.below hbq
                          obtain ⟨x, hx⟩ : ∃ x, at0 L i = x := ⟨_, rfl⟩
                          have hxf := HLF.out.1 _ (at_mem hlt3)
                          rw [hx] at hxf
                          have cx := at0_cell hrL hlt3 hx
                          have ix := fun w' : World => hrL.idx und_is siz_is w' i hlt3
                          have hxk : isKey x = true := (inR_eq _ _ _).2 ⟨hxf.1, by omega⟩
                          have HH := Lib.hid (fun w' : World => hashOf_any (w := w') hxk hsk)
                          have hhb := hashZ_bd x s
                          obtain ⟨hz3, hhz⟩ : ∃ z, hashZ x s = z := ⟨_, rfl⟩
                          rw [hhz] at HH hhb hxf
                          obtain ⟨lz, hlzz⟩ : ∃ z, lowZ hz3 = z := ⟨_, rfl⟩
                          have HLZ : Hid (∀ w' : World, Tab w' → Calls Tryd.prog 20 #[.int .i64 hz3] w' fun e w'' => e = .returned (.tuple #[.int .i64 lz, .bool true]) ∧ w' = w'') := Lib.hid (fun w' ht => by rw [← hlzz]; exact implLow_any hhb.1 hhb.2 ht)
                          rw [hlzz] at hxf
                          have HTB := Lib.hid hTB
                          have ewk : IntKind.i64.wrap ((i : Int) + 1) = (i : Int) + 1 := IntWalk.i64_in _ (by omega)
                          have p1 : ¬ (lz < (l : Int)) := by omega
                          have p1' : decide (lz < (l : Int)) = false := decide_eq_false p1
                          have HXL := Lib.hid hx
                          clear hhz hlzz hhb hxk hTB hxf hx
                          go_wp2_with fail
                          refine (HH.out _).mono ?_
                          rintro e w25 ⟨rfl, rfl⟩
                          go_wp2_with fail
                          refine (HLZ.out _ HTB.out).mono ?_
                          rintro e w25 ⟨rfl, rfl⟩
                          by_cases hi0 : 0 < i
                          · have hi0z : (0 : Int) < (i : Int) := by omega
                            have hpr := up_at HLF.out.2 hi0 hlt3
                            obtain ⟨y, hy⟩ : ∃ y, at0 L (i - 1) = y := ⟨_, rfl⟩
                            rw [HXL.out, hy] at hpr
                            have cy := at0_cell hrL (show i - 1 < L.length by omega) hy
                            have iy := fun w' : World => hrL.idx und_is siz_is w' (i - 1) (by omega)
                            have ewj : IntKind.i64.wrap ((i : Int) - 1) = ((i - 1 : Nat) : Int) := by rw [IntWalk.i64_in _ (by omega)]; omega
                            have p3 : ¬ (x ≤ y) := by omega
                            have p3' : decide (x ≤ y) = false := decide_eq_false p3
                            clear hrL hy hpr
                            go_upto_region 55 with (fail)
                            go_quiet (fail)
                            go_wp2
                            go_roundw
                            case rel => exact ⟨i + 1, by omega, by go_num, Lib.hid (by obtain ⟨q, rfl⟩ := HQ.out; exact ⟨_, by rw [World.drewN_drewN]⟩)⟩
                            case measure => simp [intOf]; omega
                          · have hi0z : ¬ (0 : Int) < (i : Int) := by omega
                            have hi0' : decide (0 < i) = false := decide_eq_false hi0
                            have hi0'' : decide ((0 : Int) < (i : Int)) = false := decide_eq_false hi0z
                            clear hrL
                            go_upto_region 55 with (fail)
                            go_quiet (fail)
                            go_wp2
                            go_roundw
                            case rel => exact ⟨i + 1, by omega, by go_num, Lib.hid (by obtain ⟨q, rfl⟩ := HQ.out; exact ⟨_, by rw [World.drewN_drewN]⟩)⟩
                            case measure => simp [intOf]; omega
                        · obtain rfl : i = L.length := by omega
                          have hlz3 : ¬ (L.length : Int) < (L.length : Int) := by omega
                          have HF := Lib.hid (HB24.out.trans (hbq.mono HB24.out.size))
                          go_wp2
                          go_ret
                          exact ⟨rfl, HF.out⟩

end Go.Proofs.YtncbkbfkdgggkaaDoor
