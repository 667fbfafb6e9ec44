/- FnPicks: SumOfSample of weights from 1/2 to 8: plain, walked. FnPicks: samples ascend; sums of all weights are exact (plain). -/
import Derived.Test.YtncbkbfkdgggkaaDoorQPk46
import Derived.Test.YtncbkbfkdgggkaaDoorQPk39
import Derived.Test.YtncbkbfkdgggkaaDoorQPk43
import Derived.Test.YtncbkbfkdgggkaaDoorQPk3
set_option linter.unusedVariables false
set_option linter.unusedSimpArgs false
namespace Go.Proofs.YtncbkbfkdgggkaaDoor
open Go.RowKit

/-- What one index adds. -/
def pkX (ws : List Nat) (l : Nat) (i : Int) : Nat := if val .f32 (ws[i.toNat]?.getD 0) < val .f32 l then l else ws[i.toNat]?.getD 0
def prt (ws : List Nat) (l : Nat) (sel : List Int) (k : Nat) : Nat := (sel.take k).foldl (fun s i => fo3 .add s (pkX ws l i)) 0
theorem prt_succ {ws : List Nat} {l : Nat} {sel : List Int} {k : Nat} (hk : k < sel.length) : prt ws l sel (k + 1) = fo3 .add (prt ws l sel k) (pkX ws l (at0 sel k)) := by
  unfold prt at0
  rw [List.take_add_one, List.getElem?_eq_getElem hk, List.foldl_append]
  rfl
/-- A bound: 0 or a number from 1/2 to 2^27. -/
structure LeastOk (l : Nat) : Prop where
  N : isN .f32 l
  lo : 0 ≤ val .f32 l
  hi : val .f32 l ≤ 134217728
theorem pkX_ok {ws : List Nat} {l : Nat} {i : Int} (hW : ∀ x ∈ ws, WtOk x) (hL : LeastOk l) (hi : 0 ≤ i ∧ i < (ws.length : Int)) : MkOk (pkX ws l i) := by
  have hw : WtOk (ws[i.toNat]?.getD 0) := by rw [List.getElem?_eq_getElem (show i.toNat < ws.length by omega)]; exact hW _ (List.getElem_mem _)
  have h1 := hw.lo
  have h2 := hw.hi
  have h3 := hL.hi
  unfold pkX
  by_cases h : val .f32 (ws[i.toNat]?.getD 0) < val .f32 l
  · rw [if_pos h]; exact ⟨hL.N, by grind, h3⟩
  · rw [if_neg h]; exact ⟨hw.N, h1, by grind⟩
theorem inT_p40 {x : Rat} (h1 : -1099511627776 ≤ x) (h2 : x ≤ 1099511627776) : inT .f32 x := by
  have h3 : (1099511627776 : Rat) < tp 127 := by
    have : (1099511627776 : Rat) = tp 40 := by decide +kernel
    rw [this]; exact tp_lt (by decide)
  have h4 : tB .f32 = 127 := rfl
  constructor <;> (rw [h4]; grind)
theorem rep_m27 {k : Nat} (hk : k ≤ 1000) : Rep .f32 ((k : Rat) * 134217728) := ⟨(k : Int), 27, by show (k : Int).natAbs ≤ 2 ^ 24; omega, by decide, by rw [Rat.intCast_natCast]; congr 1⟩
structure PrtOk (ws : List Nat) (l : Nat) (sel : List Int) (k : Nat) : Prop where
  N : isN .f32 (prt ws l sel k)
  lo : 0 ≤ val .f32 (prt ws l sel k)
  hi : val .f32 (prt ws l sel k) ≤ (k : Rat) * 134217728
  pos : 0 < k → 1 / 2 ≤ val .f32 (prt ws l sel k)
theorem prt_0 (ws : List Nat) (l : Nat) (sel : List Int) : PrtOk ws l sel 0 := by
  have e : prt ws l sel 0 = 0 := rfl
  refine ⟨by rw [e]; exact v32_0.1, by rw [e, v32_0.2]; decide +kernel, by rw [e, v32_0.2]; decide +kernel, fun h => by omega⟩
theorem prt_step {ws : List Nat} {l : Nat} {sel : List Int} {k : Nat} (h : PrtOk ws l sel k) (hk : k < sel.length) (hn : sel.length ≤ 1000) (hx : MkOk (pkX ws l (at0 sel k))) :
    fbin .add .f32 (some (prt ws l sel k)) (some (pkX ws l (at0 sel k))) = some (prt ws l sel (k + 1)) ∧ PrtOk ws l sel (k + 1) := by
  have h1 := h.lo
  have h2 := h.hi
  have x1 := hx.lo
  have x2 := hx.hi
  have hk1 : (k : Rat) ≤ ((1000 : Nat) : Rat) := Rat.natCast_le_natCast.2 (by omega)
  have e0 : ((1000 : Nat) : Rat) = 1000 := rfl
  rw [e0] at hk1
  have hs : ((k + 1 : Nat) : Rat) = (k : Rat) + 1 := by rw [Rat.natCast_add]; rfl
  obtain ⟨r, e, rN, hr⟩ := add_RN h.N hx.N (inT_p40 (by grind) (by grind))
  have er : prt ws l sel (k + 1) = r := by rw [prt_succ hk]; unfold fo3; rw [e]; rfl
  rw [er]
  refine ⟨e, ⟨by rw [er]; exact rN, ?_, ?_, fun _ => ?_⟩⟩
  · rw [er]
    have := hr.dn _ rep_half (by grind)
    grind
  · rw [er]
    exact hr.up _ (rep_m27 (by omega)) (by rw [hs]; grind)
  · rw [er]
    exact hr.dn _ rep_half (by grind)
theorem prt_ok {ws : List Nat} {l : Nat} {sel : List Int} (hW : ∀ x ∈ ws, WtOk x) (hL : LeastOk l) (hs : ∀ i ∈ sel, 0 ≤ i ∧ i < (ws.length : Int)) (hn : sel.length ≤ 1000) : ∀ k, k ≤ sel.length → PrtOk ws l sel k
  | 0, _ => prt_0 _ _ _
  | k + 1, hk => by
    have ih := prt_ok hW hL hs hn k (by omega)
    have e : at0 sel k ∈ sel := by unfold at0; rw [List.getElem?_eq_getElem (show k < sel.length by omega)]; exact List.getElem_mem _
    exact (prt_step ih (by omega) hn (pkX_ok hW hL (hs _ e))).2

set_option maxRecDepth 20000 in
set_option maxHeartbeats 4000000 in
theorem sumOf_any {a b : Option Addr} {c d n m : Nat} {l : Nat} {ws : List Nat} {sel : List Int} {w : World} (hr : Rd (Value.float .f32) w a c ws) (hr2 : Rd (Value.int .i64) w b d sel) (hl : ws.length = n) (hl2 : sel.length = m) (hn1 : 1 ≤ n) (hn2 : n ≤ 128) (hm : m ≤ 128)
    (hW : ∀ x ∈ ws, WtOk x) (hL : LeastOk l) (hs : ∀ i ∈ sel, 0 ≤ i ∧ i < (ws.length : Int)) (hi : incB sel = true) :
    Calls Tryd.prog 10 #[.slice a n c, .slice b m d, .float .f32 l] w fun e w' => e = .returned (.tuple #[.float .f32 (prt ws l sel m), .bool true]) ∧ Below w.heap.size w w' := by
  have hP := prt_ok hW hL hs (by omega)
  have hfin : fins ws = true := by
    unfold fins
    rw [List.all_eq_true]
    intro x hx
    rw [cnN (hW x hx).N, finN (hW x hx).N]
  have hA : ∀ w1 : World, Below w.heap.size w w1 → Calls Tryd.prog 38 #[.slice a n c] w1 fun e w' => e = .returned (.bool true) ∧ Below w1.heap.size w1 w' := fun w1 hb => by
    have h := areFinite_any (hr.below hb (Nat.le_refl _))
    rw [hfin, hl] at h
    exact h
  have hB : ∀ w1 : World, Below w.heap.size w w1 → Calls Tryd.prog 39 #[.slice b m d] w1 fun e w' => e = .returned (.bool true) ∧ Below w1.heap.size w1 w' := fun w1 hb => by
    have h := isInc_any (hr2.below hb (Nat.le_refl _))
    rw [hi, hl2] at h
    exact h
  have hC : ∀ w1 : World, Below w.heap.size w w1 → Calls Tryd.prog 40 #[.slice b m d, .int .i64 0, .int .i64 ((n : Int) - 1)] w1 fun e w' => e = .returned (.bool true) ∧ Below w1.heap.size w1 w' := fun w1 hb => by
    have h := areWithin_any b d sel 0 ((n : Int) - 1) w1 (hr2.below hb (Nat.le_refl _))
    rw [show (sel.all fun x => inR x 0 ((n : Int) - 1)) = true from List.all_eq_true.2 fun x hx => (inR_eq _ _ _).2 ⟨(hs x hx).1, by have := (hs x hx).2; omega⟩, hl2] at h
    exact h
  have HF := Lib.hid (fun w : World => isFinite_any (x := l) (w := w))
  rw [cnN hL.N, finN hL.N] at HF
  have hge : FloatKind.f32.format.order l 0 = some .gt ∨ FloatKind.f32.format.order l 0 = some .eq := by
    have h1 : FloatKind.f32.format.order l 0 = some (if val .f32 l < val .f32 0 then .lt else if val .f32 l = val .f32 0 then .eq else .gt) := order_val hL.N v32_0.1
    have h2 := hL.lo
    rw [v32_0.2, if_neg (by grind)] at h1
    by_cases h3 : val .f32 l = 0
    · rw [if_pos h3] at h1; exact .inr h1
    · rw [if_neg h3] at h1; exact .inl h1
  have HFI := Lib.hid (fun w : World => ifFinite_any (x := prt ws l sel m) (w := w))
  rw [cnN (hP m (by omega)).N, finN (hP m (by omega)).N] at HFI
  have HA := Lib.hid hA
  have HBI := Lib.hid hB
  have HCI := Lib.hid hC
  have HR := Lib.hid (And.intro hr hl)
  have HR2 := Lib.hid (And.intro hr2 hl2)
  have HW := Lib.hid hW
  have HL := Lib.hid hL
  have HS := Lib.hid hs
  have HP := Lib.hid hP
  have i1 : inR (n : Int) 1 128 = true := (inR_eq _ _ _).2 ⟨by omega, by omega⟩
  have ewn : IntKind.i64.wrap ((n : Int) - 1) = (n : Int) - 1 := IntWalk.i64_in _ (by omega)
  obtain ⟨res, hres⟩ : ∃ r, prt ws l sel m = r := ⟨_, rfl⟩
  rw [hres] at HFI ⊢
  have HRES := Lib.hid hres
  clear hr hr2 hl hl2 hW hL hs hi hP hfin hA hB hC hres
  go_enter Tryd.func10, Tryd.ntmps10
  go_wp2_with fail
  refine isStream_any.mono ?_
  rintro e w1 ⟨rfl, rfl⟩
  rw [i1]
  go_wp2_with fail
  refine (HA.out _ (Below.refl _ _)).mono ?_
  rintro e w2 ⟨rfl, hb2⟩
  have B2 := Lib.hid hb2
  clear hb2 HA
  go_wp2_with fail
  refine (HBI.out _ B2.out).mono ?_
  rintro e w3 ⟨rfl, hb3⟩
  have B3 := Lib.hid (B2.out.trans (hb3.mono B2.out.size))
  clear hb3 HBI B2
  go_wp2_with fail
  refine (HCI.out _ B3.out).mono ?_
  rintro e w4 ⟨rfl, hb4⟩
  have B4 := Lib.hid (B3.out.trans (hb4.mono B3.out.size))
  clear hb4 HCI B3
  go_wp2_with fail
  refine (HF.out _).mono ?_
  rintro e w5 ⟨rfl, hb5⟩
  have B5 := Lib.hid (B4.out.trans (hb5.mono B4.out.size))
  clear hb5 B4
  have HGE : Hid (∀ o, FloatKind.f32.format.order l 0 = some o → (o = .gt ∨ o = .eq)) := Lib.hid (fun o ho => by rcases hge with h | h <;> (rw [h] at ho; simp at ho; simp [← ho]))
  rcases hge with hge | hge
  all_goals
    go_upto_region 3 with (fail)
    clear hge
    go_wp2_with fail
    go_loopw [8, 46] (fun sv iv wr => ∃ k : Nat, k ≤ m ∧ iv = .int .i64 k ∧ sv = .float .f32 (prt ws l sel k) ∧ Hid (Below w.heap.size w wr)) (fun _ iv _ => m - (intOf iv).toNat)
    case atStart => exact ⟨0, Nat.zero_le _, rfl, rfl, B5⟩
    case round =>
      clear B5
      obtain ⟨k, hk, rfl, rfl, HB⟩ := hrel
      by_cases hlt : k < m
      · have hlz : (k : Int) < (m : Int) := by omega
        have hr1 := HR.out.1.below HB.out (Nat.le_refl _)
        have hr3 := HR2.out.1.below HB.out (Nat.le_refl _)
        have hks : k < sel.length := by rw [HR2.out.2]; exact hlt
        have hix := hr3.idx und_is siz_is wr k hks
        rw [HR2.out.2] at hix
        have hmem : at0 sel k ∈ sel := by unfold at0; rw [List.getElem?_eq_getElem hks]; exact List.getElem_mem _
        have hst := prt_step (HP.out k (by omega)) hks (by have := HR2.out.2; omega) (pkX_ok HW.out HL.out (HS.out _ hmem))
        have hin := HS.out _ hmem
        obtain ⟨i, hi⟩ : ∃ i : Nat, at0 sel k = (i : Int) := ⟨(at0 sel k).toNat, by omega⟩
        have hcx := at0_cell hr3 hks hi
        rw [hi] at hst hin
        have hiw : i < ws.length := by omega
        have hiy := hr1.idx und_fs siz_fs wr i hiw
        rw [HR.out.2] at hiy
        have hcy : wr.cell? (elt a i) = some (.float .f32 (ws[i]?.getD 0)) := hr1.cell i hiw
        have hxw : WtOk (ws[i]?.getD 0) := by rw [List.getElem?_eq_getElem hiw]; exact HW.out _ (List.getElem_mem _)
        have hpx : pkX ws l (i : Int) = if val .f32 (ws[i]?.getD 0) < val .f32 l then l else ws[i]?.getD 0 := rfl
        have ha := ar3p hst.1 32
        obtain ⟨s2, hs2⟩ : ∃ s2, prt ws l sel (k + 1) = s2 := ⟨_, rfl⟩
        rw [hs2] at ha
        have HSUM := Lib.hid hs2
        have ewk : IntKind.i64.wrap ((k : Int) + 1) = (k : Int) + 1 := IntWalk.i64_in _ (by omega)
        generalize prt ws l sel k = s1 at ha
        have ho : FloatKind.f32.format.order l (ws[i]?.getD 0) = some (if val .f32 l < val .f32 (ws[i]?.getD 0) then .lt else if val .f32 l = val .f32 (ws[i]?.getD 0) then .eq else .gt) := order_val HL.out.N hxw.N
        by_cases hlx : val .f32 (ws[i]?.getD 0) < val .f32 l
        · rw [if_pos hlx] at hpx
          rw [hpx] at ha
          rw [if_neg (by grind), if_neg (by grind)] at ho
          generalize ws[i]?.getD 0 = x at hcy ho
          clear hst hs2 hxw hpx hlx hmem hin hi hr1 hr3 hks hiw
          go_wp2_with fail
          go_roundw
          case rel => exact ⟨k + 1, by omega, by go_num, by rw [HSUM.out], HB⟩
          case measure => simp [intOf]; omega
        · rw [if_neg hlx] at hpx
          rw [hpx] at ha
          have ho2 : (FloatKind.f32.format.order l (ws[i]?.getD 0) == some .gt) = false := by
            rw [ho]
            by_cases h3 : val .f32 l < val .f32 (ws[i]?.getD 0)
            · rw [if_pos h3]; rfl
            · rw [if_neg h3, if_pos (by grind)]; rfl
          generalize ws[i]?.getD 0 = x at hcy ho2 ha
          clear hst hs2 hxw hpx hlx hmem hin hi hr1 hr3 hks hiw ho
          go_wp2_with fail
          go_roundw
          case rel => exact ⟨k + 1, by omega, by go_num, by rw [HSUM.out], HB⟩
          case measure => simp [intOf]; omega
      · obtain rfl : k = m := by omega
        have hlz : ¬ (k : Int) < (k : Int) := by omega
        rw [HRES.out]
        go_wp2_with fail
        refine (HFI.out _).mono ?_
        rintro e w7 ⟨r, rfl, hr7, hb7⟩
        have HB7 := Lib.hid (HB.out.trans (hb7.mono HB.out.size))
        have hrr : res = r := by
          unfold ifFin at hr7
          rw [if_pos (by rw [← HRES.out]; exact finN (HP.out k (by rw [HR2.out.2]; exact Nat.le_refl _)).N)] at hr7
          exact ((cn_some hr7).1).symm
        subst hrr
        clear hr7 hb7
        go_wp2
        go_ret2
        exact ⟨rfl, HB7.out⟩

end Go.Proofs.YtncbkbfkdgggkaaDoor

namespace Go.Proofs.YtncbkbfkdgggkaaDoor
open Go.RowKit

theorem ordL_perm (h : Int → Int) {n : Nat} (hn : n ≤ 1048576) : (ordL h n).Perm (idxN n) := by
  have h1 : (ordL h n).Perm ((ordT h n).map (· % tagM)) := (srt_perm _).map _
  have h2 : (ordT h n).map (· % tagM) = idxN n := by
    unfold ordT tags idxN
    rw [List.map_map, List.length_map, List.length_range]
    refine List.map_congr_left fun i hi => ?_
    have hi := List.mem_range.1 hi
    show tag (h (at0 (idxN n) i)) i % tagM = _
    rw [tag_mod _ (by omega)]
    rfl
  rw [h2] at h1
  exact h1
theorem idxN_up (n : Nat) : Up (idxN n) := by
  unfold idxN Up
  rw [List.pairwise_map]
  exact List.pairwise_lt_range.imp fun h => Int.ofNat_lt.2 h
theorem pick_up (h : Int → Int) {n : Nat} (hn : n ≤ 1048576) (room : Int) : Up (pickL h n room) := by
  have h1 : ((ordL h n).take (min n room.toNat)).Nodup := ((ordL_perm h hn).nodup_iff.2 (up_nodup (idxN_up n))).sublist (List.take_sublist _ _)
  have h2 : (pickL h n room).Nodup := (srt_perm _).nodup_iff.2 h1
  have h3 : (pickL h n room).Pairwise (· ≤ ·) := srt_pw _
  exact (h3.and h2).imp fun ⟨h4, h5⟩ => by omega
theorem pick_all (h : Int → Int) {n : Nat} (hn : n ≤ 1048576) {room : Int} (hr : (n : Int) ≤ room) : pickL h n room = idxN n := by
  refine up_ext _ _ (pick_up h hn room) (idxN_up n) fun z => ?_
  have P := pick_ok (h := h) (room := room) hn
  constructor
  · intro hz
    have := P.rng z hz
    unfold idxN
    exact List.mem_map.2 ⟨z.toNat, List.mem_range.2 (by omega), by show ((z.toNat : Nat) : Int) = z; omega⟩
  · intro hz
    unfold idxN at hz
    obtain ⟨i, hi, rfl⟩ := List.mem_map.1 hz
    exact P.all (by omega) i (List.mem_range.1 hi)

/-- The law's weights. -/
def wtF (v : Nat) : Nat := fo3 .quo (floatOfInt .f32 ((v : Int) + 1)) 1073741824
def isNB2 (b : Nat) : Bool := match FloatKind.f32.decode b with
  | .number _ _ _ => true
  | _ => false
theorem n_of2 {x : Nat} (a : isNB2 x = true) : isN .f32 x := isN_of a
theorem v_of2 {x : Nat} {y : Rat} (h : decide (val .f32 x = y) = true) : val .f32 x = y := of_decide_eq_true h
theorem o_of2 {o : Option Nat} {x : Nat} (h : (o == some x) = true) : o = some x := by simpa using h
theorem wtN_all : (List.range 16).all (fun v => isNB2 (wtF v)) = true := by decide +kernel
theorem wtV_all : (List.range 16).all (fun v => decide (val .f32 (wtF v) = ((v + 1 : Nat) : Rat) / 2)) = true := by decide +kernel
theorem wtO_all : (List.range 16).all (fun v => fbin .quo .f32 (some (floatOfInt .f32 ((v : Int) + 1))) (some 1073741824) == some (wtF v)) = true := by decide +kernel
theorem wtN_at {v : Nat} (hm : v ∈ List.range 16) : isNB2 (wtF v) = true := List.all_eq_true.1 wtN_all v hm
theorem wtV_at {v : Nat} (hm : v ∈ List.range 16) : decide (val .f32 (wtF v) = ((v + 1 : Nat) : Rat) / 2) = true := List.all_eq_true.1 wtV_all v hm
theorem wtO_at {v : Nat} (hm : v ∈ List.range 16) : (fbin .quo .f32 (some (floatOfInt .f32 ((v : Int) + 1))) (some 1073741824) == some (wtF v)) = true := List.all_eq_true.1 wtO_all v hm
/-- What a function of weights gives. -/
def WtsOk (f : Nat → Nat) : Prop := ∀ v, v < 16 → isN .f32 (f v) ∧ val .f32 (f v) = ((v + 1 : Nat) : Rat) / 2
theorem wts_ok : WtsOk wtF := fun _ hv => ⟨n_of2 (wtN_at (List.mem_range.2 hv)), v_of2 (wtV_at (List.mem_range.2 hv))⟩
theorem wt_quo {v : Nat} (hv : v < 16) : fbin .quo .f32 (some (floatOfInt .f32 ((v : Int) + 1))) (some 1073741824) = some (wtF v) := o_of2 (wtO_at (List.mem_range.2 hv))
theorem wt_ok {f : Nat → Nat} (hf : WtsOk f) {v : Nat} (hv : v < 16) : WtOk (f v) := by
  obtain ⟨h1, h2⟩ := hf v hv
  have a1 : ((1 : Nat) : Rat) ≤ ((v + 1 : Nat) : Rat) := Rat.natCast_le_natCast.2 (by omega)
  have a2 : ((v + 1 : Nat) : Rat) ≤ ((16 : Nat) : Rat) := Rat.natCast_le_natCast.2 (by omega)
  have e1 : ((1 : Nat) : Rat) = 1 := rfl
  have e2 : ((16 : Nat) : Rat) = 16 := rfl
  rw [e1] at a1
  rw [e2] at a2
  exact ⟨h1, by rw [h2]; grind, by rw [h2]; grind⟩
def hfS (vs : List Nat) : Nat := (vs.map (· + 1)).sum
theorem hfS_snoc (vs : List Nat) (v : Nat) : hfS (vs ++ [v]) = hfS vs + (v + 1) := by unfold hfS; simp
theorem hfS_bd : ∀ (vs : List Nat), (∀ v ∈ vs, v < 16) → hfS vs ≤ 16 * vs.length
  | [], _ => by simp [hfS]
  | v :: vs, h => by
    have h1 := hfS_bd vs (fun x hx => h x (List.mem_cons_of_mem _ hx))
    have h2 := h v List.mem_cons_self
    unfold hfS at h1 ⊢
    simp only [List.map_cons, List.sum_cons, List.length_cons]
    omega
theorem rep_half32 {m : Nat} (hm : m ≤ 16777216) : Rep .f32 ((m : Rat) / 2) := ⟨(m : Int), -1, by show (m : Int).natAbs ≤ 2 ^ 24; omega, by decide, by
  have : tp (-1) = 1 / 2 := by decide +kernel
  rw [Rat.intCast_natCast, this]; grind⟩
theorem rep_half64 {m : Nat} (hm : m ≤ 16777216) : Rep .f64 ((m : Rat) / 2) := ⟨(m : Int), -1, by show (m : Int).natAbs ≤ 2 ^ 53; omega, by decide, by
  have : tp (-1) = 1 / 2 := by decide +kernel
  rw [Rat.intCast_natCast, this]; grind⟩
theorem half_bd {m : Nat} (hm : m ≤ 1024) : 0 ≤ (m : Rat) / 2 ∧ (m : Rat) / 2 ≤ 512 := by
  have h0 : (0 : Rat) ≤ (m : Rat) := Rat.natCast_nonneg
  have h1 : (m : Rat) ≤ ((1024 : Nat) : Rat) := Rat.natCast_le_natCast.2 hm
  have e1 : ((1024 : Nat) : Rat) = 1024 := rfl
  rw [e1] at h1
  constructor <;> grind
theorem half_add (m v : Nat) : (m : Rat) / 2 + ((v + 1 : Nat) : Rat) / 2 = ((m + (v + 1) : Nat) : Rat) / 2 := by
  rw [Rat.natCast_add m (v + 1)]; grind
/-- The total in double precision, exact. -/
structure TotOk (vs : List Nat) (t : Nat) : Prop where
  N : isN .f64 t
  v : val .f64 t = (hfS vs : Rat) / 2
theorem tot_0 : TotOk [] 0 := ⟨n_0, by decide +kernel⟩
theorem tot_step {f : Nat → Nat} (hf : WtsOk f) {vs : List Nat} {t v : Nat} (h : TotOk vs t) (hv : v < 16) (hvs : ∀ x ∈ vs, x < 16) (hn : vs.length ≤ 32) :
    fbin .add .f64 (some t) (some (wid (f v))) = some (fo .add t (wid (f v))) ∧ TotOk (vs ++ [v]) (fo .add t (wid (f v))) := by
  obtain ⟨h1, h2⟩ := hf v hv
  obtain ⟨w1, w2, _⟩ := wid_val h1
  generalize wid (f v) = x at *
  have hb := hfS_bd vs hvs
  have e : val .f64 t + val .f64 x = ((hfS vs + (v + 1) : Nat) : Rat) / 2 := by rw [h.v, w2, h2, half_add]
  have b := half_bd (m := hfS vs + (v + 1)) (by omega)
  have a := fo_add h.N w1 (by rw [e]; grind) (by rw [e]; grind)
  refine ⟨a.1, a.2.1, ?_⟩
  have := a.2.2.exact (by rw [e]; exact rep_half64 (by omega))
  rw [this, e, hfS_snoc]
theorem map_get {f : Nat → Nat} {vs : List Nat} {k : Nat} (hk : k < vs.length) : (vs.map f)[((k : Int)).toNat]?.getD 0 = f vs[k] := by
  rw [Int.toNat_natCast, List.getElem?_map, List.getElem?_eq_getElem hk]; rfl
/-- The sum of all weights in single precision, exact. -/
theorem prt_exact {f : Nat → Nat} (hf : WtsOk f) {vs : List Nat} (hvs : ∀ x ∈ vs, x < 16) (hn : vs.length ≤ 32) : ∀ k, k ≤ vs.length → isN .f32 (prt (vs.map f) 0 (idxN vs.length) k) ∧ val .f32 (prt (vs.map f) 0 (idxN vs.length) k) = (hfS (vs.take k) : Rat) / 2
  | 0, _ => by
    have e : prt (vs.map f) 0 (idxN vs.length) 0 = 0 := rfl
    rw [e, List.take_zero]
    exact ⟨v32_0.1, v32_0.2.trans (by decide +kernel)⟩
  | k + 1, hk => by
    obtain ⟨i1, i2⟩ := prt_exact hf hvs hn k (by omega)
    have hk2 : k < (idxN vs.length).length := by rw [idxN_len]; omega
    have hvk := hvs vs[k] (List.getElem_mem (by omega))
    obtain ⟨h1, h2⟩ := hf _ hvk
    have hlo := (wt_ok hf hvk).lo
    have hpx : pkX (vs.map f) 0 (k : Int) = f vs[k] := by
      unfold pkX
      rw [map_get (show k < vs.length by omega), v32_0.2, if_neg (by grind)]
    have hb := hfS_bd (vs.take k) (fun x hx => hvs x (List.mem_of_mem_take hx))
    rw [List.length_take] at hb
    rw [prt_succ hk2, idxN_at (show k < vs.length by omega), hpx]
    generalize prt (vs.map f) 0 (idxN vs.length) k = p at i1 i2 ⊢
    rw [List.take_add_one, List.getElem?_eq_getElem (show k < vs.length by omega)]
    show _ ∧ _ = (hfS (vs.take k ++ [vs[k]]) : Rat) / 2
    rw [hfS_snoc]
    generalize f vs[k] = y at h1 h2 ⊢
    have e : val .f32 p + val .f32 y = ((hfS (vs.take k) + (vs[k] + 1) : Nat) : Rat) / 2 := by rw [i2, h2, half_add]
    have b := half_bd (m := hfS (vs.take k) + (vs[k] + 1)) (by omega)
    have a := fo3_add i1 h1 (by rw [e]; grind) (by rw [e]; grind)
    refine ⟨a.2.1, ?_⟩
    have := a.2.2.exact (by rw [e]; exact rep_half32 (by omega))
    rw [this, e]
/-- Their distance is nothing. -/
def cHun2 : Nat := 4576918229304087675
theorem gap_none {a b : Nat} (ha : isN .f64 a) (hb : isN .f64 b) (h : val .f64 a = val .f64 b) : FloatKind.f64.format.order (gapF a b) cHun2 = some .lt := by
  have d := fo_sub ha hb (by grind) (by grind)
  have e := fo_sub hb ha (by grind) (by grind)
  have nd := d.2.2.near64 (by grind) (by grind)
  have ne := e.2.2.near64 (by grind) (by grind)
  have hc : isN .f64 cHun2 := isN_of (by decide +kernel)
  have vc : 99 / 10000 < val .f64 cHun2 := by decide +kernel
  rcases gapF_cases a b with g | g
  · rw [g]; exact (ord_is e.2.1 hc).1 (by grind)
  · rw [g]; exact (ord_is d.2.1 hc).1 (by grind)

end Go.Proofs.YtncbkbfkdgggkaaDoor
