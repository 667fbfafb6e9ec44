/- FnPicks: WeighedSample of weights from 1/2 to 8: walked. -/
import Derived.Test.YtncbkbfkdgggkaaDoorQPk42
import Derived.Test.YtncbkbfkdgggkaaDoorQPk28
import Derived.Test.YtncbkbfkdgggkaaDoorQPk3
import Derived.Deep.Cut
import Derived.Deep.DeepCutAuto
import Derived.Deep.CutBlock
import Derived.Deep.RegionLaw
set_option linter.unusedVariables false
set_option linter.unusedSimpArgs false
namespace Go.Proofs.YtncbkbfkdgggkaaDoor
open Go.RowKit

theorem own_ne_blk {α : Type} {f : α → Value} {e T : TypeId} {w : World} {base : Nat} {a : Option Addr} {c : Nat} {xs : List α} (h : Own f e w base a c xs) {k : Nat} {cs : Array Value} (hb : Blk w k cs T) (hne : e ≠ T) : ∀ p, a = some p → p.block ≠ k := by
  intro p hp
  rcases h.shape with ⟨rfl, _, _⟩ | ⟨g, rfl, _, _, _, _, cur, hg, _, _⟩
  · cases hp
  · simp only [Option.some.injEq] at hp
    subst hp
    intro e1
    have e1 : g = k := e1
    subst e1
    have hb2 : w.heap[g]? = some (.cells cs T (0, 0)) := hb
    rw [hg] at hb2
    simp only [Option.some.injEq, Obj.cells.injEq] at hb2
    exact hne hb2.2.1
theorem wt_gt {x : Nat} (h : WtOk x) : FloatKind.f32.format.order x 0 = some .gt := by
  have h1 : FloatKind.f32.format.order x 0 = some (if val .f32 x < val .f32 0 then .lt else if val .f32 x = val .f32 0 then .eq else .gt) := order_val h.N v32_0.1
  have hl := h.lo
  rw [v32_0.2, if_neg (by grind), if_neg (by grind)] at h1
  exact h1
theorem call_wsm1 (vs : Array Value) (w : World) : (callFunc 33 vs).run Tryd.prog w = .ok (.enter 33 vs) w := by kernel_rfl
theorem call_wsm2 (vs : Array Value) (w : World) : (callFunc 36 vs).run Tryd.prog w = .ok (.enter 36 vs) w := by kernel_rfl
theorem wsm1_any {x : Nat} {w : World} (h : WtOk x) : Calls Tryd.prog 33 #[.float .f32 x] w fun e w' => e = .returned (.bool false) ∧ Below w.heap.size w w' := by
  have HF := Lib.hid (isFinite_any (x := x) (w := w))
  rw [cnN h.N, finN h.N] at HF
  have ho := wt_gt h
  clear h
  go_enter Tryd.func33, Tryd.ntmps33
  go_wp2_with fail
  refine HF.out.mono ?_
  rintro e w1 ⟨rfl, hb⟩
  go_wp2
  go_ret
  exact ⟨rfl, hb⟩
set_option maxHeartbeats 1000000 in
theorem wsm2_any {a : Option Addr} {c b n : Nat} {ms : List Nat} {w : World} (hr : Rd (Value.float .f32) w a c ms) (hs : w.cell? ⟨b, 0, none⟩ = some (.slice a n c)) (hl : ms.length = n) (hM : ∀ x ∈ ms, MkOk x) {i j : Nat} (hi : i < n) (hj : j < n) :
    Calls Tryd.prog 36 #[.int .i64 (i : Int), .int .i64 (j : Int), .pointer (some ⟨b, 0, none⟩)] w fun e w' => e = .returned (.int .i64 (cmp3 (-(keyF (ms[i]?.getD 0))) (-(keyF (ms[j]?.getD 0))))) ∧ ∃ q, w' = w.drewN q := by
  have ixi := fun w' : World => hr.idx und_fs siz_fs w' i (by omega)
  have ixj := fun w' : World => hr.idx und_fs siz_fs w' j (by omega)
  rw [hl] at ixi ixj
  have cli : w.cell? (elt a i) = some (.float .f32 (ms[i]?.getD 0)) := hr.cell i (by omega)
  have clj : w.cell? (elt a j) = some (.float .f32 (ms[j]?.getD 0)) := hr.cell j (by omega)
  have mi : isN .f32 (ms[i]?.getD 0) := by rw [List.getElem?_eq_getElem (show i < ms.length by omega)]; exact (hM _ (List.getElem_mem _)).N
  have mj : isN .f32 (ms[j]?.getD 0) := by rw [List.getElem?_eq_getElem (show j < ms.length by omega)]; exact (hM _ (List.getElem_mem _)).N
  generalize ms[i]?.getD 0 = x at *
  generalize ms[j]?.getD 0 = y at *
  have HC : Hid (∀ (w : World) (m : Nat), Calls Tryd.prog 37 #[.float .f32 y, .float .f32 x] (w.drewN m) fun e w'' => e = .returned (.int .i64 (cmp3 (-(keyF x)) (-(keyF y)))) ∧ ∃ q, w'' = w.drewN q) := Lib.hid (fun w m => (compareN_any mj mi).mono fun _ _ ⟨he, hw⟩ => ⟨he, m, hw.symm⟩)
  generalize cmp3 (-(keyF x)) (-(keyF y)) = z at HC ⊢
  clear hr hM mi mj
  go_enter Tryd.func36, Tryd.ntmps36
  go_wp2_with fail
  go_quiet ((go_at_call 37; exact HC.out _ _))
  go_wp2
  go_ret
  exact ⟨rfl, nq, rfl⟩

/-- The marks of weights with a salt. -/
def mkI (ws : List Nat) (s : Int) (i : Nat) : Nat := mkF (ws[i]?.getD 0) (hq (i : Int) s)
def mkL (ws : List Nat) (s : Int) (k : Nat) : List Nat := (List.range k).map (mkI ws s)
theorem mkL_len (ws : List Nat) (s : Int) (k : Nat) : (mkL ws s k).length = k := by unfold mkL; rw [List.length_map, List.length_range]
theorem mkL_succ (ws : List Nat) (s : Int) (k : Nat) : mkL ws s (k + 1) = mkL ws s k ++ [mkI ws s k] := by unfold mkL; rw [List.range_succ, List.map_append]; rfl
theorem mkL_get {ws : List Nat} {s : Int} {n i : Nat} (h : i < n) : (mkL ws s n)[i]?.getD 0 = mkI ws s i := by
  unfold mkL
  rw [List.getElem?_map, List.getElem?_range h]; rfl
theorem mkI_ok {ws : List Nat} (hW : ∀ x ∈ ws, WtOk x) (s : Int) {i : Nat} (hi : i < ws.length) : MkOk (mkI ws s i) := by
  unfold mkI
  rw [List.getElem?_eq_getElem hi]
  exact (mk_ok (hW _ (List.getElem_mem _)) (hq_ok _ _).1).2
def wtK (ws : List Nat) (s : Int) (i : Int) : Int := -(keyF (mkI ws s i.toNat))
theorem ordL_in {h : Int → Int} {n m : Nat} (hn : n ≤ 1048576) (hm : m < n) : 0 ≤ at0 (ordL h n) m ∧ at0 (ordL h n) m < (n : Int) := by
  have hl : m < (ordL h n).length := by rw [ordL_len]; exact hm
  have e : at0 (ordL h n) m = (ordL h n)[m] := by unfold at0; rw [List.getElem?_eq_getElem hl]; rfl
  have hmem : at0 (ordL h n) m ∈ ordL h n := by rw [e]; exact List.getElem_mem _
  unfold ordL at hmem
  obtain ⟨t, ht, hte⟩ := List.mem_map.1 hmem
  obtain ⟨i, hi, rfl⟩ := ordT_mem ((srt_perm _).mem_iff.1 ht)
  rw [tag_mod _ (by omega)] at hte
  unfold ordL
  omega

set_option maxRecDepth 20000 in
set_option maxHeartbeats 4000000 in
theorem weighed_any {a : Option Addr} {c n : Nat} {room s : Int} {ws : List Nat} {w : World} (hr : Rd (Value.float .f32) w a c ws) (hl : ws.length = n) (hn1 : 1 ≤ n) (hn2 : n ≤ 128) (hW : ∀ x ∈ ws, WtOk x) (hrm : 1 ≤ room ∧ room ≤ 128) (hs : isKey s = true) :
    Calls Tryd.prog 9 #[.slice a n c, .int .i64 room, .int .i64 s] w fun e w' => ∃ a' c' mk, e = .returned (.tuple #[.slice a' (pickL (wtK ws s) n room).length c', .float .f32 mk, .bool true]) ∧ (((n : Int) ≤ room ∧ mk = 0) ∨ (room < (n : Int) ∧ MkOk mk)) ∧ Own (Value.int .i64) 2 w' w.heap.size a' c' (pickL (wtK ws s) n room) ∧ Below w.heap.size w w' := by
  obtain ⟨sel, hsel⟩ : ∃ l, pickL (wtK ws s) n room = l := ⟨_, rfl⟩
  rw [hsel]
  have HSEL := Lib.hid hsel
  clear hsel
  have hsb := key_bd hs
  have hCF := containsFuncf_any a c ws w 33 #[] (fun _ => false) call_wsm1 hr (fun k hk wr hb => wsm1_any (hW _ (List.getElem_mem _)))
  have hany : (ws.any fun _ => false) = false := by simp
  rw [hany, hl] at hCF
  have HCF := Lib.hid hCF
  have HR := Lib.hid (And.intro hr hl)
  have HW := Lib.hid hW
  have i1 : inR (n : Int) 1 128 = true := (inR_eq _ _ _).2 ⟨by omega, by omega⟩
  have i2 : inR room 1 128 = true := (inR_eq _ _ _).2 hrm
  clear hCF hany hr hl hW
  go_enter Tryd.func9, Tryd.ntmps9
  go_wp2_with fail
  refine isStream_any.mono ?_
  rintro e w1 ⟨rfl, rfl⟩
  rw [i1]
  go_wp2_with fail
  refine HCF.out.mono ?_
  rintro e w2 ⟨rfl, hb2⟩
  have HB2 := Lib.hid hb2
  clear hb2 HCF
  go_wp2_with fail
  refine isStreamRoom_any.mono ?_
  rintro e w3 ⟨rfl, rfl⟩
  rw [i2]
  go_wp2_with fail
  refine implIsKey_any.mono ?_
  rintro e w3 ⟨rfl, rfl⟩
  rw [hs]
  have hz2 := HB2.out.size
  have hz3 : (w2.alloc (.cells #[] 32)).heap.size = w2.heap.size + 1 := Array.size_push _
  have he := own_empty (f := Value.float .f32) (e := 32) (α := Nat) w2 (by_ := 0) w2.heap.size (Nat.le_refl _) rfl
  have HE := Lib.hid (he.alloc (.cells #[.slice (some ⟨w2.heap.size, 0, none⟩) 0 0] 30))
  have HI : Hid (Blk ((w2.alloc (.cells #[] 32)).alloc (.cells #[.slice (some ⟨w2.heap.size, 0, none⟩) 0 0] 30)) (w2.heap.size + 1) #[.slice (some ⟨w2.heap.size, 0, none⟩) 0 0] 30) := Lib.hid (Blk.new' hz3.symm)
  have HB3 := Lib.hid ((HB2.out.alloc hz2 (.cells #[] 32)).alloc (by rw [hz3]; omega) (.cells #[.slice (some ⟨w2.heap.size, 0, none⟩) 0 0] 30))
  clear he
  go_upto_region 4 with (fail)
  generalize ((w2.alloc (.cells #[] 32)).alloc (.cells #[.slice (some ⟨w2.heap.size, 0, none⟩) 0 0] 30)) = w3 at HE HI HB3 ⊢
  clear hz3 HB2
  go_wp2_with fail
  go_loopw [35] (fun iv wr => ∃ (k : Nat) (b : Option Addr) (cc : Nat), k ≤ n ∧ iv = .int .i64 k ∧ Hid (Blk wr (w2.heap.size + 1) #[.slice b k cc] 30) ∧ Hid (Own (Value.float .f32) 32 wr w2.heap.size b cc (mkL ws s k)) ∧ Hid (Below w.heap.size w wr)) (fun iv _ => n - (intOf iv).toNat)
  case atStart => exact ⟨0, _, _, Nat.zero_le _, rfl, HI, HE, HB3⟩
  case round =>
    clear HE HI HB3
    obtain ⟨k, b, cc, hk, rfl, HI, HO, HB⟩ := hrel
    by_cases hlt : k < n
    · have hlz : (k : Int) < (n : Int) := by omega
      have hr1 := HR.out.1.below HB.out (Nat.le_refl _)
      have hix := hr1.idx und_fs siz_fs wr k (by rw [HR.out.2]; exact hlt)
      rw [HR.out.2] at hix
      have hcx : wr.cell? (elt a k) = some (.float .f32 (ws[k]?.getD 0)) := hr1.cell k (by rw [HR.out.2]; exact hlt)
      have hwk : WtOk (ws[k]?.getD 0) := by rw [List.getElem?_eq_getElem (show k < ws.length by rw [HR.out.2]; exact hlt)]; exact HW.out _ (List.getElem_mem _)
      obtain ⟨q1, q2⟩ := hq_ok (k : Int) s
      have hSH := fun w : World => share_any (k := (k : Int)) (w := w) (by omega) (by omega) hsb.1 hsb.2
      have S := sh_ok q1
      have ha1 := ar3p S.a 32
      rw [show cTiny = 864026624 from rfl] at ha1
      have ha2 := ar3p (mk_ok hwk q1).1 32
      have HS : Hid (mkL ws s (k + 1) = mkL ws s k ++ [mkF (ws[k]?.getD 0) (hq (k : Int) s)]) := Lib.hid (mkL_succ ws s k)
      generalize mkF (ws[k]?.getD 0) (hq (k : Int) s) = m at ha2 HS
      generalize dnF (hq (k : Int) s) = dn at ha1 ha2
      generalize shF (hq (k : Int) s) = sh at hSH ha1
      generalize ws[k]?.getD 0 = x at hcx ha2
      have HSH := Lib.hid hSH
      have hlk := mkL_len ws s k
      obtain ⟨vs, hvs⟩ : ∃ vs, mkL ws s k = vs := ⟨_, rfl⟩
      rw [hvs] at hlk HS HO
      have ewk : IntKind.i64.wrap ((k : Int) + 1) = (k : Int) + 1 := IntWalk.i64_in _ (by omega)
      clear hr1 hwk q1 q2 hSH S hvs
      subst hlk
      have hvn : vs.length < 1048576 := by omega
      go_upto_region 7 with (fail)
      clear hix hcx
      have hb0 := own_ne_blk HO.out HI.out (by decide)
      have z0 := HI.out.cell (i := 0) (v := .slice b vs.length cc) rfl
      have hgl := HI.out.lt
      have lz : w2.heap.size ≤ wr.heap.size := by omega
      go_region_law (first
        | (go_simp; go_at_call 35; refine (HSH.out _).mono ?_; rintro e wj ⟨rfl, rfl⟩)
        | (refine step_append1w (f := Value.float .f32) (d := 0) (base := w2.heap.size) und_fse info_f (fun _ => rfl) m ((HO.out.alloc _).drew) rfl _ _ rfl wr.heap.size rfl rfl (heap_alloc_new wr _) (by omega) (by omega) (by simp; omega) ?_; intro a3 c3 w3 ho3 hg3 hl3; have I3 := Lib.hid (((HI.out.alloc (.cells #[.float .f32 m] 32)).drew).grown hg3 (by intro e1; cases b with | none => simp at e1 | some p => (have h1 := hb0 p rfl; simp only [Option.map_some, Option.some.injEq] at e1; omega))); have o3c := I3.out.cell (i := 0) (v := .slice b vs.length cc) rfl; have o3f := I3.out.free 0; have HO3 := Lib.hid ho3; have HG3 := Lib.hid hg3; clear ho3 hg3 hl3))
      all_goals
        have hb3 := own_ne_blk HO3.out I3.out (by decide)
        have HI4 : Hid (Blk (w3.setCell ⟨w2.heap.size + 1, 0, none⟩ (.slice a3 (vs.length + 1) c3)) (w2.heap.size + 1) #[.slice a3 (vs.length + 1) c3] 30) := Lib.hid (I3.out.set 0 (.slice a3 (vs.length + 1) c3))
        have HO4 := Lib.hid (HO3.out.setOff ⟨w2.heap.size + 1, 0, none⟩ (.slice a3 (vs.length + 1) c3) hb3)
        have hbw : Below w.heap.size w w3 := (HB.out.trans (((Below.refl w.heap.size wr).alloc (by omega) (.cells #[.float .f32 m] 32)).trans (below_of_drewN _ 1 _))).trans (grown_belowOwn ((HO.out.alloc (.cells #[.float .f32 m] 32)).drew) HG3.out (by omega) (by simp; omega))
        have HB4 : Hid (Below w.heap.size w (w3.setCell ⟨w2.heap.size + 1, 0, none⟩ (.slice a3 (vs.length + 1) c3))) := Lib.hid (hbw.setCell (by simp; omega) _)
        clear hb3 hbw HO3 I3 o3c o3f z0 hb0 HG3 HO HI HB
        generalize w3.setCell ⟨w2.heap.size + 1, 0, none⟩ (.slice a3 (vs.length + 1) c3) = w4 at HI4 HO4 HB4 ⊢
        go_wp2_with fail
        go_roundw
        case rel => exact ⟨vs.length + 1, a3, c3, by omega, by go_num, HI4, Lib.hid (HO4.out.cast HS.out.symm), HB4⟩
        case measure => simp [intOf]; omega
    · obtain rfl : k = n := by omega
      have hlz : ¬ (k : Int) < (k : Int) := by omega
      obtain ⟨w4, rfl⟩ : ∃ z : World, z = wr := ⟨_, rfl⟩
      have HM := Lib.hid HO.out.rd
      have hML : (mkL ws s k).length = k := mkL_len ws s k
      have hMK : ∀ x ∈ mkL ws s k, MkOk x := by
        intro x hx
        obtain ⟨i, hi, rfl⟩ := List.mem_map.1 hx
        exact mkI_ok HW.out s (by have := List.mem_range.1 hi; have := HR.out.2; omega)
      have hFO := firstOf0_any (n := k) (room := room) (F := 36) (caps := #[.pointer (some ⟨w2.heap.size + 1, 0, none⟩)]) (h := wtK ws s) (w := w4) ⟨hn1, hn2⟩ ⟨by omega, by omega⟩ call_wsm2
        (fun w' hb i j hi hj => by
          have h := wsm2_any (HM.out.below hb (Nat.le_refl _)) (k_below hb (Nat.le_refl _) (HI.out.cell (i := 0) (v := .slice b k cc) rfl)) hML hMK hi hj
          rw [mkL_get hi, mkL_get hj] at h
          exact h)
      rw [HSEL.out] at hFO
      have HFO := Lib.hid hFO
      have HMK := Lib.hid (And.intro hML hMK)
      clear hFO hML hMK HO
      go_wp2_with fail
      refine HFO.out.mono ?_
      rintro e w5 ⟨a5, c5, bh, rfl, hbh, ho5, hb5⟩
      have HO5 := Lib.hid (ho5.mono (by have := HB.out.size; omega : w.heap.size ≤ w4.heap.size))
      have HB5 := Lib.hid (HB.out.trans (hb5.mono HB.out.size))
      have HI5 := Lib.hid (HI.out.below hb5 (Nat.le_refl _))
      have HM5 := Lib.hid (HM.out.below hb5 (Nat.le_refl _))
      clear ho5 hb5 HFO HB HI HM
      by_cases hroom : (k : Int) ≤ room
      · rw [if_neg (by omega)] at hbh
        subst hbh
        have hm1 : (-1 : Int) < 0 := by omega
        go_wp2
        go_ret3
        exact ⟨a5, c5, 0, rfl, .inl ⟨hroom, rfl⟩, HO5.out, HB5.out⟩
      · rw [if_pos (by omega)] at hbh
        have hin := ordL_in (h := wtK ws s) (n := k) (m := min k room.toNat) (by omega) (by omega)
        rw [← hbh] at hin
        clear hbh
        obtain ⟨j, rfl⟩ := Int.eq_ofNat_of_zero_le hin.1
        have hj : j < k := by omega
        have hj0 : ¬ ((j : Int) < 0) := by omega
        have hix := fun w' : World => HM5.out.idx und_fs siz_fs w' j (by rw [HMK.out.1]; exact hj)
        rw [HMK.out.1] at hix
        have hcx : w5.cell? (elt b j) = some (.float .f32 ((mkL ws s k)[j]?.getD 0)) := HM5.out.cell j (by rw [HMK.out.1]; exact hj)
        have hmj : MkOk ((mkL ws s k)[j]?.getD 0) := by rw [List.getElem?_eq_getElem (show j < (mkL ws s k).length by rw [HMK.out.1]; exact hj)]; exact HMK.out.2 _ (List.getElem_mem _)
        have z0 := HI5.out.cell (i := 0) (v := .slice b k cc) rfl
        generalize (mkL ws s k)[j]?.getD 0 = mj at hcx hmj
        have HF := Lib.hid (isFinite_any (x := mj) (w := w5))
        rw [cnN hmj.N, finN hmj.N] at HF
        have HMJ := Lib.hid hmj
        clear hmj hin
        go_wp2_with fail
        refine HF.out.mono ?_
        rintro e w6 ⟨rfl, hb6⟩
        have z1 := k_at hb6 z0
        have hcy := k_at hb6 hcx
        have HO6 := Lib.hid (HO5.out.below hb6 (Nat.le_refl _))
        have HB6 := Lib.hid (HB5.out.trans (hb6.mono HB5.out.size))
        clear z0 hcx hb6 HO5 HB5 HF
        go_wp2_with fail
        go_quiet (fail)
        go_wp2
        go_ret3
        exact ⟨a5, c5, mj, rfl, .inr ⟨by omega, HMJ.out⟩, HO6.out.drewN _, HB6.out.trans (below_of_drewN _ _ _)⟩

end Go.Proofs.YtncbkbfkdgggkaaDoor
