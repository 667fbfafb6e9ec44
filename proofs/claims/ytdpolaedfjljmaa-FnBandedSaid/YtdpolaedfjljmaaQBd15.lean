/- The walk of the law FnBanded. -/
import Derived.Test.YtdpolaedfjljmaaQBd14
import Derived.Test.YtdpolaedfjljmaaQBd3
import Derived.Test.YtdpolaedfjljmaaQBd4
import Derived.Deep.Cut
import Derived.Deep.CutBlock
namespace Go.Proofs.Ytdpolaedfjljmaa
open Go.RowKit
attribute [local go_sem ↓] Go.wp_at_zero Go.wp_at_succ

set_option maxRecDepth 20000 in
set_option maxHeartbeats 8000000 in
theorem lawBanded_walk {a0 a1 : Option Addr} {c0 c1 : Nat} {xs ys : List Int} {w : World} (hx : Rd (Value.int .u8) w a0 c0 xs) (hxb : ∀ x ∈ xs, 0 ≤ x ∧ x < 256) (hy : Rd (Value.int .u8) w a1 c1 ys) (hyb : ∀ x ∈ ys, 0 ≤ x ∧ x < 256) :
    Calls Try.prog 8 #[.slice a0 xs.length c0, .slice a1 ys.length c1] w fun e w' => e = .returned (.bool true) ∧ Below w.heap.size w w' := by
  have HX := Lib.hid hx
  have HY := Lib.hid hy
  have HXB := Lib.hid hxb
  have HYB := Lib.hid hyb
  clear hx hy hxb hyb
  go_enter Try.func8, Try.ntmps8
  go_wp2_with fail
  refine (b10Long_any HX.out.len HY.out.len).mono ?_
  rintro e w1 ⟨rfl, rfl⟩
  cases hl : (decide (1048576 < xs.length) || decide (1048576 < ys.length)) with
  | true =>
    go_wp2
    go_ret
    exact ⟨rfl, Below.refl _ _⟩
  | false =>
    clear hl
    go_wp2_with fail
    refine (b10At_any (i := 0) (n := 4) HY.out HYB.out (by omega) (by omega) (by omega)).mono ?_
    rintro e w1 ⟨⟨v0, rfl, hv0⟩, rfl⟩
    go_upto_region 4 with (fail)
    obtain ⟨W, hW⟩ : ∃ W, 1 + v0 = W := ⟨_, rfl⟩
    have eW : 1 + (v0 : Int) = (W : Int) := by omega
    have hW1 : 1 ≤ W ∧ W ≤ 4 := by omega
    rw [eW]
    clear eW hW hv0
    go_wp2_with fail
    refine (b10At_any (i := 1) (n := 4) HY.out HYB.out (by omega) (by omega) (by omega)).mono ?_
    rintro e w1 ⟨⟨v1, rfl, hv1⟩, rfl⟩
    obtain ⟨m, hm⟩ : ∃ m, 1 + v1 = m := ⟨_, rfl⟩
    have hm1 : 1 ≤ m ∧ m ≤ 4 := by omega
    obtain ⟨n, hn⟩ : ∃ n, m * W = n := ⟨_, rfl⟩
    have hnm : (W : Int) * (1 + (v1 : Int)) = (n : Int) := by
      have e1 : (1 + (v1 : Int)) = (m : Int) := by omega
      rw [e1, ← hn, Int.mul_comm]; push_cast; rfl
    have hn16 : 1 ≤ n ∧ n ≤ 16 := by
      rw [← hn]
      exact ⟨Nat.mul_le_mul hm1.1 hW1.1, Nat.mul_le_mul hm1.2 hW1.2⟩
    have HNN := Lib.hid hn
    have ewn : IntKind.i64.wrap ((W : Int) * (1 + (v1 : Int))) = (n : Int) := by rw [hnm]; exact IntWalk.i64_in _ (by omega)
    clear hn hm
    go_upto_region 5 with (fail)
    clear ewn hnm hv1
    go_wp2_with fail
    refine (b10At_any (i := 2) (n := 5) HY.out HYB.out (by omega) (by omega) (by omega)).mono ?_
    rintro e w1 ⟨⟨v2, rfl, hv2⟩, rfl⟩
    go_upto_region 6 with (fail)
    obtain ⟨cnt, hcnt⟩ : ∃ c, 2 + v2 = c := ⟨_, rfl⟩
    have ec : 2 + (v2 : Int) = (cnt : Int) := by omega
    have hc1 : 2 ≤ cnt ∧ cnt ≤ 6 := by omega
    rw [ec]
    clear ec hcnt hv2
    go_upto_region 8 with (fail)
    have HB0 : Hid (Below w.heap.size w ((w.alloc (.cells #[] 60)).alloc (.cells #[] 61))) := Lib.hid (((Below.refl _ _).alloc (Nat.le_refl _) _).alloc (by simp) _)
    have L0 : Hid (App2 Value.bool 4 60 ((w.alloc (.cells #[] 60)).alloc (.cells #[] 61)) w.heap.size (some ⟨w.heap.size, 0, none⟩) 0 [] []) := Lib.hid (App2.start (own_block0 (heap_old' (by simp) (heap_new' rfl)) (Nat.le_refl _)))
    have M0 : Hid (App2 (Value.float .f32) 49 61 ((w.alloc (.cells #[] 60)).alloc (.cells #[] 61)) w.heap.size (some ⟨w.heap.size + 1, 0, none⟩) 0 [] []) := Lib.hid (App2.start (own_block0 (heap_new' (by simp)) (by omega)))
    change Code.wp _ _ _ _ ((w.alloc (.cells #[] 60)).alloc (.cells #[] 61))
    generalize (w.alloc (.cells #[] 60)).alloc (.cells #[] 61) = w0 at HB0 L0 M0 ⊢
    go_wp2
    go_loopw [8, 9, 10] (fun l8 l9 i0 wr => ∃ (i : Nat) (a8 : Option Addr) (c8 : Nat) (h8 : List Hd) (bs : List (List Bool)) (a9 : Option Addr) (c9 : Nat) (h9 : List Hd) (AS : List (List Nat)), i ≤ cnt ∧ i0 = .int .i64 (i : Int) ∧ l8 = .slice a8 i c8 ∧ l9 = .slice a9 i c9 ∧ h8.length = i ∧ h9.length = i ∧ Hid (App2 Value.bool 4 60 wr w.heap.size a8 c8 h8 bs) ∧ Hid (App2 (Value.float .f32) 49 61 wr w.heap.size a9 c9 h9 (AS.map vI)) ∧ Hid ((∀ b ∈ bs, b.length = n) ∧ ∀ A ∈ AS, A.length = n ∧ ∀ x ∈ A, x ≤ 4) ∧ Hid (Below w.heap.size w wr)) (fun _ _ i0 _ => cnt - (intOf i0).toNat)
    case atStart => exact ⟨0, _, _, [], [], _, _, [], [], by omega, rfl, rfl, rfl, rfl, rfl, L0, M0, Lib.hid ⟨fun b hb => by simp at hb, fun A hA => by simp at hA⟩, HB0⟩
    case round =>
      obtain ⟨i, a8, c8, h8, bs, a9, c9, h9, AS, hi, rfl, rfl, rfl, e8, e9, L, M, HLB, HB⟩ := hrel
      clear L0 M0 HB0
      obtain ⟨wo, rfl⟩ : ∃ z, z = wr := ⟨_, rfl⟩
      have ewi : IntKind.i64.wrap ((i : Int) + 1) = (i : Int) + 1 := IntWalk.i64_in _ (by omega)
      by_cases hlt : i < cnt
      · have hltz : (i : Int) < (cnt : Int) := by omega
        obtain ⟨P, hP⟩ : ∃ P : Nat, (i : Int) * (n : Int) = (P : Int) := ⟨i * n, by push_cast; rfl⟩
        have hPb : P ≤ 96 := by
          have h1 : i * n ≤ 6 * 16 := Nat.mul_le_mul (by omega) hn16.2
          have h2 : ((i * n : Nat) : Int) = (P : Int) := by push_cast; exact hP
          omega
        have ewP : IntKind.i64.wrap ((i : Int) * (n : Int)) = (P : Int) := by rw [hP]; exact IntWalk.i64_in _ (by omega)
        go_upto_region 13 with (fail)
        have HB1 : Hid (Below wo.heap.size wo ((wo.alloc (.cells #[] 4)).alloc (.cells #[] 49))) := Lib.hid (((Below.refl _ _).alloc (Nat.le_refl _) _).alloc (by simp) _)
        have O1 : Hid (Own Value.bool 4 ((wo.alloc (.cells #[] 4)).alloc (.cells #[] 49)) wo.heap.size (some ⟨wo.heap.size, 0, none⟩) 0 []) := Lib.hid (own_block0 (heap_old' (by simp) (heap_new' rfl)) (Nat.le_refl _))
        have O2 : Hid (Own (Value.float .f32) 49 ((wo.alloc (.cells #[] 4)).alloc (.cells #[] 49)) wo.heap.size (some ⟨wo.heap.size + 1, 0, none⟩) 0 (vI [])) := Lib.hid (own_block0 (heap_new' (by simp)) (by omega))
        change Code.wp _ _ _ _ ((wo.alloc (.cells #[] 4)).alloc (.cells #[] 49))
        generalize (wo.alloc (.cells #[] 4)).alloc (.cells #[] 49) = w1 at HB1 O1 O2 ⊢
        go_wp2
        go_loopw [11, 12, 13] (fun l11 l12 k0 wk => ∃ (k : Nat) (b1 : Option Addr) (d1 : Nat) (X : List Bool) (b2 : Option Addr) (d2 : Nat) (A : List Nat), k ≤ n ∧ k0 = .int .i64 (k : Int) ∧ l11 = .slice b1 k d1 ∧ l12 = .slice b2 k d2 ∧ X.length = k ∧ A.length = k ∧ Hid (Own Value.bool 4 wk wo.heap.size b1 d1 X) ∧ Hid (Own (Value.float .f32) 49 wk wo.heap.size b2 d2 (vI A)) ∧ Hid (∀ x ∈ A, x ≤ 4) ∧ Hid (Below wo.heap.size wo wk)) (fun _ _ k0 _ => n - (intOf k0).toNat)
        case atStart => exact ⟨0, _, _, [], _, _, [], by omega, rfl, rfl, rfl, rfl, rfl, O1, O2, Lib.hid (fun x hx => by simp at hx), HB1⟩
        case round =>
          obtain ⟨k, b1, d1, X, b2, d2, A, hk, rfl, rfl, rfl, eX, eA, OX, OA, HA, HBk⟩ := hrel
          clear O1 O2 HB1
          have ewk : IntKind.i64.wrap ((k : Int) + 1) = (k : Int) + 1 := IntWalk.i64_in _ (by omega)
          by_cases hlk : k < n
          · have hlkz : (k : Int) < (n : Int) := by omega
            have ewPk : IntKind.i64.wrap ((P : Int) + (k : Int)) = ((P + k : Nat) : Int) := by
              have e : (P : Int) + (k : Int) = ((P + k : Nat) : Int) := by push_cast; rfl
              rw [e]; exact IntWalk.i64_in _ (by omega)
            have HXk := Lib.hid (HX.out.below (HB.out.trans (HBk.out.mono HB.out.size)) (Nat.le_refl _))
            go_wp2_with fail
            refine (b10At_any (i := P + k) (n := 2) HXk.out HXB.out (by omega) (by omega) (by omega)).mono ?_
            rintro e wq ⟨⟨q0, rfl, hq0⟩, rfl⟩
            have hwk : wo.heap.size ≤ wr.heap.size := HBk.out.size
            go_wp2_with (at_builtin; refine wpl_append1 (f := Value.bool) (d := false) (base := wo.heap.size) und_bse info_b (fun _ => rfl) ((q0 : Int) == 0) OX.out rfl _ _ rfl (by rw [eX]; rfl) rfl (by omega) (by omega) hwk ?_; intro a3 c3 w3 ho3 hg3; have OX3 := Lib.hid ho3; have OA3 := Lib.hid (OA.out.keptS hg3 (sep_of_type OA.out OX.out (by decide))); have HB3 := Lib.hid (HBk.out.trans (grown_belowOwn OX.out hg3 (Nat.le_refl _) hwk)); have HX3 := Lib.hid (HX.out.below (HB.out.trans (HB3.out.mono HB.out.size)) (Nat.le_refl _)); clear ho3 hg3)
            refine (b10At_any (i := P + k) (n := 5) HX3.out HXB.out (by omega) (by omega) (by omega)).mono ?_
            rintro e wq ⟨⟨q1, rfl, hq1⟩, rfl⟩
            have hw3 : wo.heap.size ≤ w3.heap.size := HB3.out.size
            have eA2 : (vI A).length = k := by unfold vI; rw [List.length_map]; exact eA
            go_wp2_with (at_builtin; refine wpl_append1 (f := Value.float .f32) (d := 0) (base := wo.heap.size) und_fse info_f (fun _ => rfl) (fI q1) OA3.out rfl _ _ rfl (by rw [eA2]; rfl) rfl (by omega) (by omega) hw3 ?_; intro a4 c4 w4 ho4 hg4; have OA4 := Lib.hid ho4; have OX4 := Lib.hid (OX3.out.keptS hg4 (sep_of_type OX3.out OA3.out (by decide))); have HB4 := Lib.hid (HB3.out.trans (grown_belowOwn OA3.out hg4 (Nat.le_refl _) hw3)); clear ho4 hg4)
            have HA4 : Hid (∀ x ∈ A ++ [q1], x ≤ 4) := Lib.hid (fun x hx => by
              rcases List.mem_append.1 hx with h | h
              · exact HA.out x h
              · simp at h; omega)
            have OA5 : Hid (Own (Value.float .f32) 49 w4 wo.heap.size a4 c4 (vI (A ++ [q1]))) := Lib.hid (by unfold vI; rw [List.map_append]; exact OA4.out)
            go_roundw
            case rel => exact ⟨k + 1, a3, c3, X ++ [(q0 : Int) == 0], a4, c4, A ++ [q1], by omega, by go_num, rfl, rfl, by rw [List.length_append, eX]; rfl, by rw [List.length_append, eA]; rfl, OX4, OA5, HA4, HB4⟩
            case measure => simp [intOf]; omega
          · obtain rfl : k = n := by omega
            have hlkz : ¬ (k : Int) < (k : Int) := by omega
            have hwk : wo.heap.size ≤ wr.heap.size := HBk.out.size
            have Lk := Lib.hid (L.out.below HBk.out (Nat.le_refl _))
            have Mk := Lib.hid (M.out.below HBk.out (Nat.le_refl _))
            have HBw := Lib.hid (HB.out.trans (HBk.out.mono HB.out.size))
            have hbw : w.heap.size ≤ wr.heap.size := HBw.out.size
            have hbo : w.heap.size ≤ wo.heap.size := HB.out.size
            have eA2 : (vI A).length = k := by unfold vI; rw [List.length_map]; exact eA
            go_upto_region 19 with (at_builtin; refine wpl_append1 (f := hdV) (d := (none, 0, 0)) (base := w.heap.size) und_bbse info_bb (fun _ => rfl) ((b1, k, d1) : Hd) Lk.out.top rfl _ _ rfl (by rw [e8]; rfl) rfl (by omega) (by omega) hbw ?_; intro a3 c3 w3 ho3 hg3; have L3 := Lib.hid (Lk.out.push (by decide) (h := ((b1, k, d1) : Hd)) eX.symm OX.out hbo ho3 hg3); have B3 := Lib.hid (HBw.out.trans (grown_belowOwn Lk.out.top hg3 (Nat.le_refl _) hbw)); have M3 := Lib.hid (Mk.out.keptO Lk.out.top hg3 (by decide) (by decide)); have OA3 := Lib.hid (OA.out.keptS hg3 (sep_of_type OA.out Lk.out.top (by decide))); clear ho3 hg3)
            have hb3 : w.heap.size ≤ w3.heap.size := B3.out.size
            clear hwk Lk Mk HBw OX OA HB HBk L M hbw
            go_upto_region 10 with (at_builtin; refine wpl_append1 (f := hdV) (d := (none, 0, 0)) (base := w.heap.size) und_ffse info_ff (fun _ => rfl) ((b2, k, d2) : Hd) M3.out.top rfl _ _ rfl (by rw [e9]; rfl) rfl (by omega) (by omega) hb3 ?_; intro a4 c4 w4 ho4 hg4; have M4 := Lib.hid (M3.out.push (by decide) (h := ((b2, k, d2) : Hd)) eA2.symm OA3.out hbo ho4 hg4); have B4 := Lib.hid (B3.out.trans (grown_belowOwn M3.out.top hg4 (Nat.le_refl _) hb3)); have L4 := Lib.hid (L3.out.keptO M3.out.top hg4 (by decide) (by decide)); clear ho4 hg4)
            have M5 : Hid (App2 (Value.float .f32) 49 61 w4 w.heap.size a4 c4 (h9 ++ [((b2, k, d2) : Hd)]) ((AS ++ [A]).map vI)) := Lib.hid (by rw [List.map_append]; exact M4.out)
            have HLB5 : Hid ((∀ b ∈ bs ++ [X], b.length = k) ∧ ∀ A' ∈ AS ++ [A], A'.length = k ∧ ∀ x ∈ A', x ≤ 4) := Lib.hid ⟨fun b hb => by
              rcases List.mem_append.1 hb with h | h
              · exact HLB.out.1 b h
              · simp at h; rw [h]; exact eX, fun A' hA' => by
              rcases List.mem_append.1 hA' with h | h
              · exact HLB.out.2 A' h
              · simp at h; rw [h]; exact ⟨eA, HA.out⟩⟩
            clear M3 L3 B3 M4 HLB HA
            go_wp2
            go_roundw
            case rel => exact ⟨i + 1, a3, c3, h8 ++ [((b1, k, d1) : Hd)], bs ++ [X], a4, c4, h9 ++ [((b2, k, d2) : Hd)], AS ++ [A], by omega, by go_num, rfl, rfl, by rw [List.length_append, e8]; rfl, by rw [List.length_append, e9]; rfl, L4, M5, HLB5, B4⟩
            case measure => simp [intOf]; omega
      · obtain rfl : i = cnt := by omega
        have hltz : ¬ (i : Int) < (i : Int) := by omega
        have hbw : w.heap.size ≤ wo.heap.size := HB.out.size
        have ebs : bs.length = i := by rw [← L.out.len]; exact e8
        have eAS : AS.length = i := by have h := M.out.len; rw [List.length_map] at h; rw [← h]; exact e9
        obtain ⟨X0, hX0⟩ : ∃ X, bs[0]? = some X := ⟨_, List.getElem?_eq_getElem (by omega)⟩
        obtain ⟨A0, hA0⟩ : ∃ A, AS[0]? = some A := ⟨_, List.getElem?_eq_getElem (by omega)⟩
        obtain ⟨h80, hh8⟩ : ∃ h, h8[0]? = some h := ⟨_, List.getElem?_eq_getElem (by omega)⟩
        obtain ⟨h90, hh9⟩ : ∃ h, h9[0]? = some h := ⟨_, List.getElem?_eq_getElem (by omega)⟩
        have hMA0 : (AS.map vI)[0]? = some (vI A0) := by rw [List.getElem?_map, hA0]; rfl
        obtain ⟨r8, o8⟩ := L.out.row 0 _ _ hh8 hX0
        obtain ⟨r9, o9⟩ := M.out.row 0 _ _ hh9 hMA0
        have hix8 := L.out.top.idx und_bbs siz_bbs
        have hix9 := M.out.top.idx und_ffs siz_ffs
        have hcl8 : wo.cell? (elt a8 0) = some (hdV h80) := by
          have h := L.out.top.cell 0 (by omega)
          rw [h, (List.getElem?_eq_some_iff.1 hh8).2]
        have hcl9 : wo.cell? (elt a9 0) = some (hdV h90) := by
          have h := M.out.top.cell 0 (by omega)
          rw [h, (List.getElem?_eq_some_iff.1 hh9).2]
        rw [e8] at hix8
        rw [e9] at hix9
        have hix80 : ∀ w', (Instr.indexAt 58 (.slice a8 i c8) (.int .i64 0)).run Try.prog w' = .ok (.pointer (some (elt a8 0))) w' := fun w' => hix8 w' 0 (by omega)
        have hix90 : ∀ w', (Instr.indexAt 59 (.slice a9 i c9) (.int .i64 0)).run Try.prog w' = .ok (.pointer (some (elt a9 0))) w' := fun w' => hix9 w' 0 (by omega)
        clear hix8 hix9
        have HO8 := Lib.hid (And.intro r8 o8)
        have HO9 := Lib.hid (And.intro r9 o9)
        have HH := Lib.hid (And.intro hX0 hA0)
        have HH8 := Lib.hid (And.intro hh8 (And.intro hh9 hMA0))
        clear r8 o8 r9 o9 hX0 hA0 hh8 hh9 hMA0
        obtain ⟨p8, n8, d8⟩ := h80
        obtain ⟨p9, n9, d9⟩ := h90
        change wo.cell? (elt a8 0) = some (.slice p8 n8 d8) at hcl8
        change wo.cell? (elt a9 0) = some (.slice p9 n9 d9) at hcl9
        go_upto_region 21 with (at_builtin; refine wpl_append1 (f := hdV) (d := (none, 0, 0)) (base := w.heap.size) und_bbse info_bb (fun _ => rfl) ((p8, n8, d8) : Hd) L.out.top rfl _ _ rfl (by rw [e8]; rfl) rfl (by omega) (by omega) hbw ?_; intro a3 c3 w3 ho3 hg3; have L3 := Lib.hid (L.out.push (by decide) (h := ((p8, n8, d8) : Hd)) HO8.out.1 HO8.out.2 (Nat.le_refl _) ho3 hg3); have B3 := Lib.hid (HB.out.trans (grown_belowOwn L.out.top hg3 (Nat.le_refl _) hbw)); have M3 := Lib.hid (M.out.keptO L.out.top hg3 (by decide) (by decide)); have O3 := Lib.hid (HO9.out.2.keptS hg3 (sep_of_type HO9.out.2 L.out.top (by decide))); have G3 := Lib.hid hg3; clear ho3 hg3)
        have hcl93 : w3.cell? (elt a9 0) = some (.slice p9 n9 d9) := by
          have h := M3.out.top.cell 0 (by omega)
          rw [h, (List.getElem?_eq_some_iff.1 HH8.out.2.1).2]
          rfl
        have hb3 : w.heap.size ≤ w3.heap.size := B3.out.size
        clear hcl8 hcl9 hix80 HO8 HB L M G3
        go_upto_region 22 with (at_builtin; refine wpl_append1 (f := hdV) (d := (none, 0, 0)) (base := w.heap.size) und_ffse info_ff (fun _ => rfl) ((p9, n9, d9) : Hd) M3.out.top rfl _ _ rfl (by rw [e9]; rfl) rfl (by omega) (by omega) hb3 ?_; intro a4 c4 w4 ho4 hg4; have M4 := Lib.hid (M3.out.push (by decide) (h := ((p9, n9, d9) : Hd)) HO9.out.1 O3.out (Nat.le_refl _) ho4 hg4); have B4 := Lib.hid (B3.out.trans (grown_belowOwn M3.out.top hg4 (Nat.le_refl _) hb3)); have L4 := Lib.hid (L3.out.keptO M3.out.top hg4 (by decide) (by decide)); clear ho4 hg4)
        have M5 : Hid (App2 (Value.float .f32) 49 61 w4 w.heap.size a4 c4 (h9 ++ [((p9, n9, d9) : Hd)]) ((AS ++ [A0]).map vI)) := Lib.hid (by rw [List.map_append]; exact M4.out)
        clear hcl93 hix90 M3 L3 B3 M4 HO9 O3 HH8
        obtain ⟨kb1, kb2, kb3, kb4⟩ := band_law (W := W) (m := m) HLB.out.1 HH.out.1 (by omega) hn16 hW1.1 hm1.1 HNN.out
        have hnl : ∀ j, j < 17 → _ := fun j hj => near_law (k := j) HLB.out.2 HH.out.2 (by omega) hn16 hj
        rw [ebs] at kb2
        rw [eAS] at hnl
        have HNL := Lib.hid hnl
        have ebx : (bs ++ [X0]).length = i + 1 := by rw [List.length_append, ebs]; rfl
        have eax : ((AS ++ [A0]).map vI).length = i + 1 := by rw [List.length_map, List.length_append, eAS]; rfl
        clear hnl HLB HH
        generalize bs ++ [X0] = BS at L4 kb1 kb2 kb4 ebx
        generalize (AS ++ [A0]).map vI = VS at M5 HNL eax
        have HBI : Hid (∀ w', Rd2 Value.bool w' a3 c3 (h8 ++ [((p8, n8, d8) : Hd)]) BS → Calls Try.prog 34 #[.slice a3 (i + 1) c3, .int .i64 (W : Int)] w' (RetSB (Value.int .i64) 2 w' (bandR BS W) true)) := Lib.hid (fun w' g => by
          have q := implBand_any (W := (W : Int)) g
          rw [ebx, kb1] at q; exact q)
        have HBS : Hid (∀ w', Rd2 Value.bool w' a3 c3 (h8 ++ [((p8, n8, d8) : Hd)]) BS → Calls Try.prog 35 #[.slice a3 (i + 1) c3, .int .i64 (W : Int)] w' (RetSB (Value.int .i64) 2 w' (bandR BS W) true)) := Lib.hid (fun w' g => by
          have q := specBand_any (W := (W : Int)) g
          rw [ebx, kb1] at q; exact q)
        have HKB : Hid (cnt2 0 (i : Int) (bandR BS (W : Int)) = 1 ∧ ∃ k, (bandR BS (W : Int)).length = 2 * k) := Lib.hid ⟨kb2, kb3, kb4⟩
        clear kb1 kb2 kb3 kb4
        -- the four calls
        go_wp2_with fail
        refine (HBI.out _ L4.out.rd2).mono ?_
        rintro e w5 ⟨a5, c5, rfl, o5, b5⟩
        have B5 := Lib.hid (B4.out.trans (b5.mono B4.out.size))
        have P5 := Lib.hid o5
        have L5 := Lib.hid (L4.out.below b5 (Nat.le_refl _))
        have M5' := Lib.hid (M5.out.below b5 (Nat.le_refl _))
        clear b5 o5 B4 L4 M5 HBI
        go_wp2_with fail
        refine (HBS.out _ L5.out.rd2).mono ?_
        rintro e w6 ⟨a6, c6, rfl, o6, b6⟩
        have B6 := Lib.hid (B5.out.trans (b6.mono B5.out.size))
        have P6 := Lib.hid (P5.out.rd.below b6 (Nat.le_refl _))
        have Q6 := Lib.hid o6.rd
        have M6 := Lib.hid (M5'.out.below b6 (Nat.le_refl _))
        clear b6 o6 B5 L5 M5' P5 HBS
        have HY6 := Lib.hid (HY.out.below B6.out (Nat.le_refl _))
        go_wp2_with fail
        refine (b10At_any (i := 3) (n := 17) HY6.out HYB.out (by omega) (by omega) (by omega)).mono ?_
        rintro e w7 ⟨⟨v3, rfl, hv3⟩, rfl⟩
        go_upto_region 25 with (refine wpl_fbin rfl .quo _ _ _ _ rfl rfl .f32 _ _ rfl rfl ?_; rintro q wq hwq hq; have HQ := Lib.hid hq; have HWQ := Lib.hid hwq; clear hq hwq)
        obtain ⟨f1, f2, f3, f4⟩ := far_ok ⟨v3, hv3⟩
        simp only at f1 f2 f3 f4
        have hqf : q = farN v3 := by
          have h : cn .f32 q = some (farN v3) := by
            rw [HQ.out, ← f1]
            have e1 : cn .f32 (floatOfInt .f32 (v3 : Int)) = some (fI v3) := cn_ofInt .f32 _
            have e2 : cn .f32 1082130432 = some 1082130432 := by decide +kernel
            rw [e1, e2]
          exact (cn_some h).1
        subst hqf
        obtain ⟨nk1, nk2, nk3, nk4⟩ := HNL.out v3 hv3
        have HNI : Hid (∀ w', Rd2 (Value.float .f32) w' a4 c4 (h9 ++ [((p9, n9, d9) : Hd)]) VS → Calls Try.prog 36 #[.slice a4 (i + 1) c4, .float .f32 (farN v3)] w' (RetSB (Value.int .i64) 2 w' (nearR VS (farN v3)) true)) := Lib.hid (fun w' g => by
          have q := implNear_any (far := farN v3) g
          rw [eax, nk1] at q; exact q)
        have HNS : Hid (∀ w', Rd2 (Value.float .f32) w' a4 c4 (h9 ++ [((p9, n9, d9) : Hd)]) VS → Calls Try.prog 37 #[.slice a4 (i + 1) c4, .float .f32 (farN v3)] w' (RetSB (Value.int .i64) 2 w' (nearR VS (farN v3)) true)) := Lib.hid (fun w' g => by
          have q := specNear_any (far := farN v3) g
          rw [eax, nk1] at q; exact q)
        have HKN : Hid (cnt2 0 (i : Int) (nearR VS (farN v3)) = 1 ∧ ∃ k, (nearR VS (farN v3)).length = 2 * k) := Lib.hid ⟨nk2, nk3, nk4⟩
        clear nk1 nk2 nk3 nk4 f1 f2 f3 f4 HNL HQ
        have hbq : Below w6.heap.size w6 wq := by obtain ⟨n', hn'⟩ := HWQ.out; rw [hn']; exact below_of_drewN _ _ _
        have Bq := Lib.hid (B6.out.trans (hbq.mono B6.out.size))
        have Pq := Lib.hid (P6.out.below hbq (Nat.le_refl _))
        have Qq := Lib.hid (Q6.out.below hbq (Nat.le_refl _))
        have Mq := Lib.hid (M6.out.below hbq (Nat.le_refl _))
        clear hbq HWQ B6 P6 Q6 M6 HY6
        have hNL := nearR_len VS (farN v3)
        have hBL := bandRL_len (xss := BS) (W := (W : Int))
        generalize nearR VS (farN v3) = NR at HNI HNS HKN hNL
        generalize bandR BS (W : Int) = BR at Pq Qq HKB hBL ⊢
        generalize farN v3 = far at HNI HNS ⊢
        go_wp2_with fail
        refine (HNI.out _ Mq.out.rd2).mono ?_
        rintro e w8 ⟨a8', c8', rfl, o8, b8⟩
        have B8 := Lib.hid (Bq.out.trans (b8.mono Bq.out.size))
        have P8 := Lib.hid (Pq.out.below b8 (Nat.le_refl _))
        have Q8 := Lib.hid (Qq.out.below b8 (Nat.le_refl _))
        have M8 := Lib.hid (Mq.out.below b8 (Nat.le_refl _))
        have N8 := Lib.hid o8.rd
        clear b8 o8 Bq Pq Qq Mq HNI
        go_wp2_with fail
        refine (HNS.out _ M8.out.rd2).mono ?_
        rintro e w9 ⟨a9', c9', rfl, o9, b9⟩
        have B9 := Lib.hid (B8.out.trans (b9.mono B8.out.size))
        have P9 := Lib.hid (P8.out.below b9 (Nat.le_refl _))
        have Q9 := Lib.hid (Q8.out.below b9 (Nat.le_refl _))
        have N9 := Lib.hid (N8.out.below b9 (Nat.le_refl _))
        have T9 := Lib.hid o9.rd
        clear b9 o9 B8 P8 Q8 M8 N8 HNS
        go_wp2_with fail
        refine (b10Ints_same P9.out Q9.out).mono ?_
        rintro e wA ⟨rfl, bA⟩
        have BA := Lib.hid (B9.out.trans (bA.mono B9.out.size))
        have PA := Lib.hid (P9.out.below bA (Nat.le_refl _))
        have NA := Lib.hid (N9.out.below bA (Nat.le_refl _))
        have TA := Lib.hid (T9.out.below bA (Nat.le_refl _))
        clear bA B9 P9 Q9 N9 T9
        go_wp2_with fail
        refine (b10Ints_same NA.out TA.out).mono ?_
        rintro e wB ⟨rfl, bB⟩
        have BB := Lib.hid (BA.out.trans (bB.mono BA.out.size))
        have PB := Lib.hid (PA.out.below bB (Nat.le_refl _))
        have NB := Lib.hid (NA.out.below bB (Nat.le_refl _))
        clear bB BA PA NA TA
        go_wp2
        have hix := PB.out.idx und_is siz_is
        have hln := PB.out.len
        have HKL := Lib.hid (HKB.out.2)
        go_loopw [23, 24] (fun s0 k0 wr => ∃ (K c : Nat), K ≤ BR.length ∧ k0 = .int .i64 (K : Int) ∧ s0 = .int .i64 (c : Int) ∧ Hid (c = 0 + cnt2 0 (i : Int) (BR.take K)) ∧ c ≤ 0 + K ∧ Hid (∃ j, K = 2 * j) ∧ Hid (wr = wB)) (fun _ k0 _ => BR.length - (intOf k0).toNat)
        case atStart => exact ⟨0, 0, Nat.zero_le _, rfl, rfl, Lib.hid (by simp [cnt2]), by omega, Lib.hid ⟨0, rfl⟩, Lib.hid rfl⟩
        case round =>
          obtain ⟨K, c, hK, rfl, rfl, HC, hcb, HJ, HW⟩ := hrel
          obtain rfl := HW.out
          clear HW
          have ew1 : IntKind.i64.wrap ((K : Int) + 1) = (K : Int) + 1 := IntWalk.i64_in _ (by omega)
          by_cases hlt : K + 1 < BR.length
          · have hltz : (K : Int) + 1 < (BR.length : Int) := by omega
            have ew2 : IntKind.i64.wrap ((K : Int) + 2) = (K : Int) + 2 := IntWalk.i64_in _ (by omega)
            have ewc : IntKind.i64.wrap ((c : Int) + 1) = (c : Int) + 1 := IntWalk.i64_in _ (by omega)
            have hix1 : ∀ w', (Instr.indexAt 22 (.slice a5 BR.length c5) (.int .i64 (K : Int))).run Try.prog w' = .ok (.pointer (some (elt a5 K))) w' := fun w' => hix w' K (by omega)
            have hix2 : ∀ w', (Instr.indexAt 22 (.slice a5 BR.length c5) (.int .i64 ((K : Int) + 1))).run Try.prog w' = .ok (.pointer (some (elt a5 (K + 1)))) w' := fun w' => hix w' (K + 1) hlt
            have hcx := PB.out.cell K (by omega)
            have hcy := PB.out.cell (K + 1) hlt
            obtain ⟨x, hx⟩ : ∃ x, BR[K]? = some x := ⟨_, List.getElem?_eq_getElem (by omega)⟩
            obtain ⟨y, hy⟩ : ∃ y, BR[K + 1]? = some y := ⟨_, List.getElem?_eq_getElem hlt⟩
            obtain ⟨j, hj⟩ := HJ.out
            have HST := Lib.hid (cnt2_step (a := 0) (b := (i : Int)) hj hx hy)
            rw [hx] at hcx
            rw [hy] at hcy
            simp only [Option.getD_some] at hcx hcy
            have HJ2 : Hid (∃ j, K + 2 = 2 * j) := Lib.hid ⟨j + 1, by omega⟩
            clear hx hy hj HJ hix
            by_cases h1 : x = 0
            · subst h1
              by_cases h2 : y = (i : Int)
              · subst h2
                go_wp2
                go_roundw
                case rel => exact ⟨K + 2, c + 1, by omega, by go_num, by go_num, Lib.hid (by rw [HST.out, if_pos ⟨rfl, rfl⟩, HC.out]; omega), by omega, HJ2, Lib.hid trivial⟩
                case measure => simp [intOf]; omega
              · have h2' : (y == (i : Int)) = false := by simpa using h2
                go_wp2
                go_roundw
                case rel => exact ⟨K + 2, c, by omega, by go_num, rfl, Lib.hid (by rw [HST.out, if_neg (fun h => h2 h.2), HC.out]; omega), by omega, HJ2, Lib.hid trivial⟩
                case measure => simp [intOf]; omega
            · have h1' : (x == 0) = false := by simpa using h1
              go_wp2
              go_roundw
              case rel => exact ⟨K + 2, c, by omega, by go_num, rfl, Lib.hid (by rw [HST.out, if_neg (fun h => h1 h.1), HC.out]; omega), by omega, HJ2, Lib.hid trivial⟩
              case measure => simp [intOf]; omega
          · have hltz : ¬ (K : Int) + 1 < (BR.length : Int) := by omega
            obtain ⟨j, hj⟩ := HJ.out
            obtain ⟨kk, hkk⟩ := HKL.out
            have eK : K = BR.length := by omega
            have ec : c = 1 := by
              have h := HC.out
              rw [eK, List.take_length, HKB.out.1] at h
              omega
            subst ec
            clear HC HJ hj hkk hix HKL
            go_wp2
            clear hltz ew1 hcb hK hlt hln eK
            obtain ⟨wC, rfl⟩ : ∃ z, z = wr := ⟨_, rfl⟩
            have hix := NB.out.idx und_is siz_is
            have hln := NB.out.len
            have HKL := Lib.hid (HKN.out.2)
            go_loopw [23, 25] (fun s0 k0 wr => ∃ (K c : Nat), K ≤ NR.length ∧ k0 = .int .i64 (K : Int) ∧ s0 = .int .i64 (c : Int) ∧ Hid (c = 1 + cnt2 0 (i : Int) (NR.take K)) ∧ c ≤ 1 + K ∧ Hid (∃ j, K = 2 * j) ∧ Hid (wr = wC)) (fun _ k0 _ => NR.length - (intOf k0).toNat)
            case atStart => exact ⟨0, 1, Nat.zero_le _, rfl, rfl, Lib.hid (by simp [cnt2]), by omega, Lib.hid ⟨0, rfl⟩, Lib.hid rfl⟩
            case round =>
              obtain ⟨K, c, hK, rfl, rfl, HC, hcb, HJ, HW⟩ := hrel
              obtain rfl := HW.out
              clear HW
              have ew1 : IntKind.i64.wrap ((K : Int) + 1) = (K : Int) + 1 := IntWalk.i64_in _ (by omega)
              by_cases hlt : K + 1 < NR.length
              · have hltz : (K : Int) + 1 < (NR.length : Int) := by omega
                have ew2 : IntKind.i64.wrap ((K : Int) + 2) = (K : Int) + 2 := IntWalk.i64_in _ (by omega)
                have ewc : IntKind.i64.wrap ((c : Int) + 1) = (c : Int) + 1 := IntWalk.i64_in _ (by omega)
                have hix1 : ∀ w', (Instr.indexAt 22 (.slice a8' NR.length c8') (.int .i64 (K : Int))).run Try.prog w' = .ok (.pointer (some (elt a8' K))) w' := fun w' => hix w' K (by omega)
                have hix2 : ∀ w', (Instr.indexAt 22 (.slice a8' NR.length c8') (.int .i64 ((K : Int) + 1))).run Try.prog w' = .ok (.pointer (some (elt a8' (K + 1)))) w' := fun w' => hix w' (K + 1) hlt
                have hcx := NB.out.cell K (by omega)
                have hcy := NB.out.cell (K + 1) hlt
                obtain ⟨x, hx⟩ : ∃ x, NR[K]? = some x := ⟨_, List.getElem?_eq_getElem (by omega)⟩
                obtain ⟨y, hy⟩ : ∃ y, NR[K + 1]? = some y := ⟨_, List.getElem?_eq_getElem hlt⟩
                obtain ⟨j, hj⟩ := HJ.out
                have HST := Lib.hid (cnt2_step (a := 0) (b := (i : Int)) hj hx hy)
                rw [hx] at hcx
                rw [hy] at hcy
                simp only [Option.getD_some] at hcx hcy
                have HJ2 : Hid (∃ j, K + 2 = 2 * j) := Lib.hid ⟨j + 1, by omega⟩
                clear hx hy hj HJ hix
                by_cases h1 : x = 0
                · subst h1
                  by_cases h2 : y = (i : Int)
                  · subst h2
                    go_wp2
                    go_roundw
                    case rel => exact ⟨K + 2, c + 1, by omega, by go_num, by go_num, Lib.hid (by rw [HST.out, if_pos ⟨rfl, rfl⟩, HC.out]; omega), by omega, HJ2, Lib.hid trivial⟩
                    case measure => simp [intOf]; omega
                  · have h2' : (y == (i : Int)) = false := by simpa using h2
                    go_wp2
                    go_roundw
                    case rel => exact ⟨K + 2, c, by omega, by go_num, rfl, Lib.hid (by rw [HST.out, if_neg (fun h => h2 h.2), HC.out]; omega), by omega, HJ2, Lib.hid trivial⟩
                    case measure => simp [intOf]; omega
                · have h1' : (x == 0) = false := by simpa using h1
                  go_wp2
                  go_roundw
                  case rel => exact ⟨K + 2, c, by omega, by go_num, rfl, Lib.hid (by rw [HST.out, if_neg (fun h => h1 h.1), HC.out]; omega), by omega, HJ2, Lib.hid trivial⟩
                  case measure => simp [intOf]; omega
              · have hltz : ¬ (K : Int) + 1 < (NR.length : Int) := by omega
                obtain ⟨j, hj⟩ := HJ.out
                obtain ⟨kk, hkk⟩ := HKL.out
                have eK : K = NR.length := by omega
                have ec : c = 2 := by
                  have h := HC.out
                  rw [eK, List.take_length, HKN.out.1] at h
                  omega
                subst ec
                clear HC HJ hj hkk hix HKL
                go_wp2
                go_ret
                exact ⟨rfl, BB.out⟩

end Go.Proofs.Ytdpolaedfjljmaa
