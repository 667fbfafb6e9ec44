/- The walk of the law FnSavedFiles. -/
import Derived.Test.YtdpolaedfjljmaaQSVF41
import Derived.Test.YtdpolaedfjljmaaQSVF40
import Derived.Test.YtdpolaedfjljmaaQSVF4
import Derived.Test.YtdpolaedfjljmaaQSVF27
import Derived.Test.YtdpolaedfjljmaaQSVF2
import Derived.Deep.Cut
import Derived.Deep.DeepCutAuto
import Derived.Deep.CutBlock
import Derived.Deep.RegionLaw
namespace Go.Proofs.Ytdpolaedfjljmaa
open Go.RowKit
attribute [local go_sem ↓] Go.wp_at_zero Go.wp_at_succ

theorem sameSv_self (x : Sv) : sameSv x x = true := by unfold sameSv sameCells sameTops; simp
theorem rd9_new {w : World} {h : SvH} {x : Sv} (g : SvRd w h x) : Rd9 (w.alloc (.cells (svV h x) 28)) (some ⟨w.heap.size, 0, none⟩) 1 [h] [x] := by
  have b := Blk.new w (svV h x) 28
  refine ⟨by simp, by decide, fun _ => ⟨_, 0, rfl, by simp⟩, fun k hk => ?_⟩
  obtain rfl : k = 0 := by simpa using hk
  refine ⟨h, x, rfl, rfl, g.below ((Below.refl w.heap.size w).alloc (Nat.le_refl _) _) (Nat.le_refl _), fun j hj => ?_⟩
  have e : (svV h x)[j]? = some ((svV h x)[j]'(by simpa [svV] using hj)) := Array.getElem?_eq_getElem _
  rw [e]
  have q := b.cell (i := j) e
  rw [← e]
  simp only [Option.getD_some, Nat.zero_mul, Nat.zero_add]
  rw [e]; exact q
theorem rd9_one {w : World} {b o c i : Nat} {hs : List SvH} {ss : List Sv} (r : Rd9 w (some ⟨b, o, none⟩) c hs ss) (hi : i < ss.length) : ∃ h, Rd9 w (some ⟨b, o + i * 9, none⟩) (c - i) [h] [ss[i]] := by
  obtain ⟨h, s, h1, h2, g, hc⟩ := r.row i hi
  obtain rfl : ss[i] = s := by rw [List.getElem?_eq_getElem hi] at h2; exact Option.some.inj h2
  refine ⟨h, ⟨by have := r.cap; simp; omega, by have := r.max; omega, fun _ => ?_, fun k hk => ?_⟩⟩
  · obtain ⟨b', o', e, hlt⟩ := r.here (by omega)
    simp at e
    exact ⟨b, _, rfl, by rw [e.1]; exact hlt⟩
  · obtain rfl : k = 0 := by simpa using hk
    refine ⟨h, ss[i], rfl, rfl, g, fun j hj => ?_⟩
    have q := hc j hj
    simp only [Option.getD_some] at q ⊢
    rw [← q]; congr 2; omega
theorem same_one {w : World} {h : SvH} {x : Sv} {b o c i : Nat} {hs : List SvH} {ss : List Sv} (g : SvRd w h x) (r : Rd9 w (some ⟨b, o, none⟩) c hs ss) (hi : i < ss.length) (hx : ss[i] = x) :
    Calls Try.prog 28 #[.slice (some ⟨w.heap.size, 0, none⟩) 1 1, .slice (some ⟨b, o + i * 9, none⟩) 1 (c - i)] (w.alloc (.cells (svV h x) 28)) fun e w' => e = .returned (.bool true) ∧ Below (w.heap.size + 1) (w.alloc (.cells (svV h x) 28)) w' := by
  have D : Below w.heap.size w (w.alloc (.cells (svV h x) 28)) := (Below.refl _ _).alloc (Nat.le_refl _) _
  obtain ⟨h', r'⟩ := rd9_one (r.below D (Nat.le_refl _)) hi
  rw [hx] at r'
  have q := implSameSaved_any (rd9_new g) r'
  have e : sameSvs [x] [x] = true := sameSvs_yes rfl (fun k h1 h2 => by
    obtain rfl : k = 0 := by simpa using h1
    exact sameSv_self x)
  rw [e] at q
  simpa using q

set_option maxRecDepth 20000 in
set_option maxHeartbeats 8000000 in
theorem lawSavedFiles_walk {a1 a2 : Option Addr} {c1 c2 : Nat} {xs ys : List Int} {w : World} (hr : Rd (Value.int .u8) w a1 c1 xs) (hb : ∀ x ∈ xs, 0 ≤ x ∧ x < 256) (hr2 : Rd (Value.int .u8) w a2 c2 ys) (hb2 : ∀ x ∈ ys, 0 ≤ x ∧ x < 256) :
    Calls Try.prog 6 #[.slice a1 xs.length c1, .slice a2 ys.length c2] w fun e w' => e = .returned (.bool true) ∧ Below w.heap.size w w' := by
  have HL := Lib.hid (b10Long_any (a1 := a1) (a2 := a2) (c1 := c1) (c2 := c2) (w := w) hr.len hr2.len)
  have HGEN := Lib.hid (b10Saved_any hr hb)
  have HR2 := Lib.hid hr2
  have HY2 := Lib.hid hb2
  clear hr hb hr2 hb2
  cases hlong : (decide (1048576 < xs.length) || decide (1048576 < ys.length)) with
  | true =>
    rw [hlong] at HL
    go_enter Try.func6, Try.ntmps6
    go_wp2_with fail
    refine HL.out.mono ?_
    rintro e w1 ⟨rfl, rfl⟩
    go_wp2
    go_ret
    exact ⟨rfl, Below.refl _ _⟩
  | false =>
  rw [hlong] at HL
  have hyl : ys.length ≤ 1048576 := by simp at hlong; omega
  clear hlong
  go_enter Try.func6, Try.ntmps6
  go_wp2_with fail
  refine HL.out.mono ?_
  rintro e w1 ⟨rfl, rfl⟩
  clear HL
  go_wp2_with fail
  refine HGEN.out.mono ?_
  rintro e w2 ⟨a, c, hs, ss, rfl, l2, h4, hv, b2⟩
  have HR := Lib.hid l2.rd
  have HALL := Lib.hid hv
  have HB2 := Lib.hid b2
  clear l2 hv b2 HGEN
  go_upto_region 5 with (fail)
  have HO0 : Hid (Own (Value.int .i64) 3 (w2.alloc (.cells #[.int .i64 0] 3)) w2.heap.size (some ⟨w2.heap.size, 0, none⟩) 1 (endsL ss 0)) := Lib.hid (own_lit w2 w2.heap.size [0] (Nat.le_refl _) (by simp [maxLen]))
  have HB0 : Hid (Below w2.heap.size w2 (w2.alloc (.cells #[.int .i64 0] 3))) := Lib.hid ((Below.refl _ _).alloc (Nat.le_refl _) _)
  change Code.wp _ _ _ _ (w2.alloc (.cells #[.int .i64 0] 3))
  generalize w2.alloc (.cells #[.int .i64 0] 3) = wa at HO0 HB0 ⊢
  go_wp2
  go_loopw [6, 36] (fun el il wr => ∃ (i : Nat) (a1 : Option Addr) (c1 : Nat), i ≤ ss.length ∧ il = .int .i64 (i : Int) ∧ el = .slice a1 (i + 1) c1 ∧ Hid (Own (Value.int .i64) 3 wr w2.heap.size a1 c1 (endsL ss i)) ∧ Hid (Below w2.heap.size w2 wr)) (fun _ il _ => ss.length - (intOf il).toNat)
  case atStart => exact ⟨0, _, _, Nat.zero_le _, rfl, rfl, HO0, HB0⟩
  case round =>
    obtain ⟨i, a1, c1, hi, rfl, rfl, HO, HB⟩ := hrel
    clear HO0 HB0
    by_cases hlt : i < ss.length
    · have hltz : (i : Int) < (ss.length : Int) := by omega
      have ewi : IntKind.i64.wrap ((i : Int) + 1) = (i : Int) + 1 := IntWalk.i64_in _ (by omega)
      obtain ⟨b, o, rfl, _⟩ := HR.out.here (by omega)
      obtain ⟨hd, hsr, r0, r1, r2, r3, r4, r5, r6, r7, r8⟩ := (HR.out.below HB.out (Nat.le_refl _)).at hlt
      have hix := idx9 (b := b) (o := o) (n := ss.length) (c := c) und_svi siz_svi
      have HSR := Lib.hid hsr
      have hvx := HALL.out ss[i] (List.getElem_mem hlt)
      obtain ⟨x, hx⟩ : ∃ x, ss[i] = x := ⟨_, rfl⟩
      rw [hx] at HSR r0 r1 r2 r3 r4 r5 r6 r7 r8 hvx
      have HX := Lib.hid hx
      clear hsr hx
      go_wp2_with fail
      refine (storeSaved_any HSR.out).mono ?_
      rintro e w1 ⟨rfl, b1⟩
      have r0 := k_at b1 r0
      have r1 := k_at b1 r1
      have r2 := k_at b1 r2
      have r3 := k_at b1 r3
      have r4 := k_at b1 r4
      have r5 := k_at b1 r5
      have r6 := k_at b1 r6
      have r7 := k_at b1 r7
      have r8 := k_at b1 r8
      have HSR1 := Lib.hid (HSR.out.below b1 (Nat.le_refl _))
      have HB1 := Lib.hid (HB.out.trans (b1.mono HB.out.size))
      have HO1 := Lib.hid (HO.out.below b1 (Nat.le_refl _))
      clear b1 HSR HB HO
      rw [stoT_yes hvx, hvx]
      obtain ⟨k1, k2, k3⟩ := ldOk_store hvx (app_nil (storeT x)).symm
      have hsz := storeT_le hvx
      have HLS : Hid (∀ w', Calls Try.prog 12 #[.string (storeT x)] w' (RetLS w' x true)) := Lib.hid (fun w' => by
        have q := loadSaved_any (s := storeT x) (w := w') (by omega)
        have e1 : lsOk (storeT x) = true := by unfold lsOk; rw [k1, k3, decide_eq_true rfl]; rfl
        have e2 : lsV (storeT x) = x := by unfold lsV; rw [e1, if_pos rfl]; exact k2
        rw [e1, e2] at q
        exact q)
      have HE : Hid (endsL ss (i + 1) = endsL ss i ++ [((catL (ss.take i)).size : Int) + ((storeT x).size : Int)]) := Lib.hid (by
        rw [endsL_succ, catL_take hlt, HX.out]; simp)
      have hcs : (catL (ss.take i)).size ≤ 2000 * i := catL_size hi (fun j _ h => HALL.out _ (List.getElem_mem h))
      clear k1 k2 k3
      generalize storeT x = t at HLS HE hsz ⊢
      obtain ⟨E, hE⟩ : ∃ E, (catL (ss.take i)).size = E := ⟨_, rfl⟩
      rw [hE] at HE hcs
      have HEE := Lib.hid hE
      clear hE
      go_wp2_with fail
      refine (HLS.out _).mono ?_
      rintro e w3 ⟨h3, rfl, o3, sp3, b3⟩
      have HB3 := Lib.hid (HB1.out.trans (b3.mono HB1.out.size))
      have HO3 := Lib.hid (HO1.out.below b3 (Nat.le_refl _))
      have HS3 := Lib.hid o3
      clear b3 o3 sp3 HB1 HO1
      go_upto_region 10 with (fail)
      have D3 : Below w3.heap.size w3 (w3.alloc (.cells (svV h3 x) 28)) := (Below.refl _ _).alloc (Nat.le_refl _) _
      have X4 : Hid (Blk (w3.alloc (.cells (svV h3 x) 28)) w3.heap.size (svV h3 x) 28) := Lib.hid (Blk.new _ _ _)
      have HB4 := Lib.hid (HB3.out.trans (D3.mono HB3.out.size))
      have HO4 := Lib.hid (HO3.out.below D3 (Nat.le_refl _))
      have HS4 := Lib.hid (HS3.out.below D3 (Nat.le_refl _))
      clear D3 HB3 HO3 HS3 r0 r1 r2 r3 r4 r5 r6 r7 r8 HSR1
      change Code.wp _ _ _ _ (w3.alloc (.cells (svV h3 x) 28))
      generalize w3.alloc (.cells (svV h3 x) 28) = w4 at X4 HB4 HO4 HS4 ⊢
      generalize w3.heap.size = p4 at X4 ⊢
      have HR4 := Lib.hid (HR.out.below HB4.out (Nat.le_refl _))
      obtain ⟨hd, hsr, r0, r1, r2, r3, r4, r5, r6, r7, r8⟩ := HR4.out.at hlt
      rw [HX.out] at hsr r0 r1 r2 r3 r4 r5 r6 r7 r8
      have HVAL : Hid (Calls Try.prog 27 #[.agg #[.string x.nm, .int .i64 x.W, .int .i64 x.D, .int .i64 x.S, .slice hd.a0 x.cs.length hd.c0, .int .i64 x.R, .slice hd.a1 x.ks.length hd.c1, .slice hd.a2 x.ts.length hd.c2, .slice hd.a3 x.es.length hd.c3]] w4.drew fun e w' => e = .returned (.bool true) ∧ Below w4.heap.size w4 w') := Lib.hid (by
        have q := validSv_any (hsr.below (below_of_drewN w4 1 w4.heap.size) (Nat.le_refl _))
        rw [hvx] at q
        exact q.mono (fun e w' h => ⟨h.1, (below_of_drewN w4 1 _).trans h.2⟩))
      clear hsr
      have s0 := X4.out.cell (i := 0) (v := .string x.nm) rfl
      have s1 := X4.out.cell (i := 1) (v := .int .i64 x.W) rfl
      have s2 := X4.out.cell (i := 2) (v := .int .i64 x.D) rfl
      have s3 := X4.out.cell (i := 3) (v := .int .i64 x.S) rfl
      have s4 := X4.out.cell (i := 4) (v := .slice h3.a0 x.cs.length h3.c0) rfl
      have s5 := X4.out.cell (i := 5) (v := .int .i64 x.R) rfl
      have s6 := X4.out.cell (i := 6) (v := .slice h3.a1 x.ks.length h3.c1) rfl
      have s7 := X4.out.cell (i := 7) (v := .slice h3.a2 x.ts.length h3.c2) rfl
      have s8 := X4.out.cell (i := 8) (v := .slice h3.a3 x.es.length h3.c3) rfl
      have hld1 : (Instr.loadAt 28 (.pointer (some ⟨b, o + i * 9, none⟩))).run Try.prog w4.drew = .ok (.agg (svV hd x)) w4.drew := by
        go_simp; rfl
      have HLD2 : Hid (∀ {w5 : World}, Below w4.heap.size w4 w5 → (Instr.loadAt 28 (.pointer (some ⟨p4, 0, none⟩))).run Try.prog w5 = .ok (.agg (svV h3 x)) w5) := Lib.hid (by
        intro b5
        have s0 := k_at b5 s0
        have s1 := k_at b5 s1
        have s2 := k_at b5 s2
        have s3 := k_at b5 s3
        have s4 := k_at b5 s4
        have s5 := k_at b5 s5
        have s6 := k_at b5 s6
        have s7 := k_at b5 s7
        have s8 := k_at b5 s8
        go_simp; rfl)
      have hsl : ∀ w' : World, (Instr.sliceAt 34 (.slice (some ⟨b, o, none⟩) ss.length c) (some (.int .i64 (i : Int))) (some (.int .i64 ((i : Int) + 1))) none).run Try.prog w' = .ok (.slice (some ⟨b, o + i * 9, none⟩) 1 (c - i)) w' := by
        intro w'
        rw [run_sliceAt_slice (h := und_svi), run_slice_lh (ht := und_svi) (h0 := by omega) (h1 := by omega) (h2 := by have := HR4.out.cap; omega), siz_svi]
        rw [show ((i : Int) + 1).toNat = i + 1 by omega, show ((i : Int)).toNat = i by omega]
        have hcap := HR4.out.cap
        have hne : c ≠ i := by omega
        simp [Result.andThen, sliced, hne, Addr.add]
      have hbs : ∀ w' : World, (Instr.buildSlice 34 1 #[(0, .agg (svV h3 x))]).run Try.prog w' = .ok (.slice (some ⟨w'.heap.size, 0, none⟩) 1 1) (w'.alloc (.cells (svV h3 x) 28)) := by
        intro w'
        unfold svV
        go_simp
      have hf27 : ∀ (us : Array Value) (w : World), (do let d ← Deferred.ofValue (.func (.func 27) #[] #[]) us; invoke d.target d.args).run Try.prog w = .ok (.enter 27 us) w := by
        intro us w
        go_simp
      have hf28 : ∀ (us : Array Value) (w : World), (do let d ← Deferred.ofValue (.func (.func 28) #[] #[]) us; invoke d.target d.args).run Try.prog w = .ok (.enter 28 us) w := by
        intro us w
        go_simp
      clear r0 r1 r2 r3 r4 r5 r6 r7 r8 s0 s1 s2 s3 s4 s5 s6 s7 s8
      refine wp_region_any (by kernel_rfl) ?_
      change wpAny _ _ _ _ _ _ _ (World.drew _)
      refine tk_move (i := 0) (d := 52) (x := .tmp 9) (g := none) (v := .bool true) (by kernel_rfl) (by kernel_rfl) (by kernel_rfl) (fun _ _ _ h => h) (by kernel_rfl) ?_
      refine tk_not (i := 1) (d := 53) (x := .tmp 52) (g := none) (t := 4) (b := true) (by kernel_rfl) (by kernel_rfl) (by kernel_rfl) (fun _ _ _ h => h) (by kernel_rfl) ?_
      refine tk_move (i := 2) (d := 54) (x := .tmp 53) (g := none) (v := .bool false) (by kernel_rfl) (by kernel_rfl) (by kernel_rfl) (fun _ _ _ h => h) (by kernel_rfl) ?_
      refine tk_move (i := 3) (d := 55) (x := .tmp 11) (g := some (2, false)) (v := .bool true) (by kernel_rfl) (by kernel_rfl) (by kernel_rfl) (fun _ _ _ h => h) (by kernel_rfl) ?_
      refine tk_not (i := 4) (d := 56) (x := .tmp 55) (g := some (2, false)) (t := 4) (b := true) (by kernel_rfl) (by kernel_rfl) (by kernel_rfl) (fun _ _ _ h => h) (by kernel_rfl) ?_
      refine tk_pick (i := 5) (d := 57) (x := .tmp 54) (y := .const (.bool true)) (z := .tmp 56) (g := none) (b := false) (v := .bool false) (by kernel_rfl) (by kernel_rfl) (by kernel_rfl) (fun _ _ _ h => h) (by kernel_rfl) (by kernel_rfl) ?_
      refine tk_move (i := 6) (d := 58) (x := .tmp 57) (g := none) (v := .bool false) (by kernel_rfl) (by kernel_rfl) (by kernel_rfl) (fun _ _ _ h => h) (by kernel_rfl) ?_
      refine tk_move (i := 7) (d := 59) (x := .tmp 5) (g := some (6, false)) (v := .slice (some ⟨b, o, none⟩) ss.length c) (by kernel_rfl) (by kernel_rfl) (by kernel_rfl) (fun _ _ _ h => h) (by kernel_rfl) ?_
      refine tk_move (i := 8) (d := 60) (x := .tmp 7) (g := some (6, false)) (v := .int .i64 (i : Int)) (by kernel_rfl) (by kernel_rfl) (by kernel_rfl) (fun _ _ _ h => h) (by kernel_rfl) ?_
      refine tk_index (i := 9) (d := 61) (x := .tmp 59) (y := .tmp 60) (g := some (6, false)) (t := 34) (u := .slice (some ⟨b, o, none⟩) ss.length c) (k := .int .i64 (i : Int)) (v := .pointer (some ⟨b, o + i * 9, none⟩)) (by kernel_rfl) (by kernel_rfl) (by kernel_rfl) (fun _ _ _ h => h) (by kernel_rfl) (by kernel_rfl) (fun w => hix w i hlt) ?_
      refine st_load (i := 10) (d := 62) (x := .tmp 61) (g := some (6, false)) (t := 28) (u := .pointer (some ⟨b, o + i * 9, none⟩)) (v := .agg (svV hd x)) (by kernel_rfl) (by kernel_rfl) (by kernel_rfl) (by kernel_rfl) hld1 ?_
      refine st_call (i := 11) (d := 63) (f := 27) (xs := #[.tmp 62]) (ts := #[28]) (g := some (6, false)) (us := #[.agg (svV hd x)]) (by kernel_rfl) (by kernel_rfl) (by kernel_rfl) (by kernel_rfl) hf27 HVAL.out ?_
      rintro e w5 ⟨rfl, b5⟩
      refine ⟨_, rfl, ?_⟩
      have HB5 := Lib.hid (HB4.out.trans (b5.mono HB4.out.size))
      have HS5 := Lib.hid (HS4.out.below b5 (Nat.le_refl _))
      have HO5 := Lib.hid (HO4.out.below b5 (Nat.le_refl _))
      have hld2 := HLD2.out b5
      have HR5 := Lib.hid (HR4.out.below b5 (Nat.le_refl _))
      refine tk_not (i := 12) (d := 64) (x := .tmp 63) (g := some (6, false)) (t := 4) (b := true) (by kernel_rfl) (by kernel_rfl) (by kernel_rfl) (fun _ _ _ h => h) (by kernel_rfl) ?_
      refine tk_pick (i := 13) (d := 65) (x := .tmp 58) (y := .const (.bool true)) (z := .tmp 64) (g := none) (b := false) (v := .bool false) (by kernel_rfl) (by kernel_rfl) (by kernel_rfl) (fun _ _ _ h => h) (by kernel_rfl) (by kernel_rfl) ?_
      refine tk_move (i := 14) (d := 66) (x := .tmp 65) (g := none) (v := .bool false) (by kernel_rfl) (by kernel_rfl) (by kernel_rfl) (fun _ _ _ h => h) (by kernel_rfl) ?_
      refine tk_move (i := 17) (d := 69) (x := .tmp 5) (g := some (14, false)) (v := .slice (some ⟨b, o, none⟩) ss.length c) (by kernel_rfl) (by kernel_rfl) (by kernel_rfl) (fun _ _ _ h => h) (by kernel_rfl) ?_
      refine tk_move (i := 18) (d := 70) (x := .tmp 7) (g := some (14, false)) (v := .int .i64 (i : Int)) (by kernel_rfl) (by kernel_rfl) (by kernel_rfl) (fun _ _ _ h => h) (by kernel_rfl) ?_
      refine tk_move (i := 19) (d := 71) (x := .tmp 7) (g := some (14, false)) (v := .int .i64 (i : Int)) (by kernel_rfl) (by kernel_rfl) (by kernel_rfl) (fun _ _ _ h => h) (by kernel_rfl) ?_
      refine tk_add (i := 20) (d := 72) (x := .tmp 71) (y := .const (.int .i64 1)) (t := 3) (t2 := 3) (m := (i : Int)) (n := 1) (g := some (14, false)) (by kernel_rfl) (by kernel_rfl) (by kernel_rfl) (fun _ _ _ h => h) (by kernel_rfl) (by kernel_rfl) ?_
      rw [ewi]
      refine tk_slice (i := 21) (d := 73) (x := .tmp 69) (lo := some (.tmp 70)) (hi := some (.tmp 72)) (t := 34) (g := some (14, false)) (u := .slice (some ⟨b, o, none⟩) ss.length c) (l := some (.int .i64 (i : Int))) (m := some (.int .i64 ((i : Int) + 1))) (v := .slice (some ⟨b, o + i * 9, none⟩) 1 (c - i)) (by kernel_rfl) (by kernel_rfl) (by kernel_rfl) (fun _ _ _ h => h) (by kernel_rfl) (by kernel_rfl) (by kernel_rfl) hsl ?_
      refine st_load (i := 15) (d := 67) (x := .tmp 10) (g := some (14, false)) (t := 28) (u := .pointer (some ⟨p4, 0, none⟩)) (v := .agg (svV h3 x)) (by kernel_rfl) (by kernel_rfl) (by kernel_rfl) (by kernel_rfl) hld2 ?_
      refine st_slice1 (i := 16) (d := 68) (x := .tmp 67) (g := some (14, false)) (t := 34) (u := .agg (svV h3 x)) (v := .slice (some ⟨w5.heap.size, 0, none⟩) 1 1) (w' := w5.alloc (.cells (svV h3 x) 28)) (by kernel_rfl) (by kernel_rfl) (by kernel_rfl) (by kernel_rfl) (hbs w5) ?_
      refine st_call (i := 22) (d := 74) (f := 28) (xs := #[.tmp 68, .tmp 73]) (ts := #[34, 34]) (g := some (14, false)) (us := #[.slice (some ⟨w5.heap.size, 0, none⟩) 1 1, .slice (some ⟨b, o + i * 9, none⟩) 1 (c - i)]) (by kernel_rfl) (by kernel_rfl) (by kernel_rfl) (by kernel_rfl) hf28 (same_one HS5.out.rd HR5.out hlt HX.out) ?_
      rintro e w6 ⟨rfl, b6⟩
      refine ⟨_, rfl, ?_⟩
      refine tk_not (i := 23) (d := 75) (x := .tmp 74) (g := some (14, false)) (t := 4) (b := true) (by kernel_rfl) (by kernel_rfl) (by kernel_rfl) (fun _ _ _ h => h) (by kernel_rfl) ?_
      refine tk_pick (i := 24) (d := 76) (x := .tmp 66) (y := .const (.bool true)) (z := .tmp 75) (g := none) (b := false) (v := .bool false) (by kernel_rfl) (by kernel_rfl) (by kernel_rfl) (fun _ _ _ h => h) (by kernel_rfl) (by kernel_rfl) ?_
      refine wpAny_done (by kernel_rfl) ?_ _
      have HB6 := Lib.hid (HB5.out.trans (((Below.refl w5.heap.size w5).alloc (Nat.le_refl _) (.cells (svV h3 x) 28)).trans (b6.mono (by simp)) |>.mono HB5.out.size))
      have HO6 := Lib.hid (HO5.out.below ((((Below.refl w5.heap.size w5).alloc (Nat.le_refl _) (.cells (svV h3 x) 28)).trans (b6.mono (by simp)))) (Nat.le_refl _))
      clear b6 HB5 HO5 HS5 HR5 hld1 hld2 HLD2 hsl hbs hf27 hf28 b5 HB4 HO4 HS4 HR4 X4 HVAL
      dsimp only [Act.put, Bool.not_true]
      simp only [List.setIfInBounds_toArray, List.set_cons_succ, List.set_cons_zero]
      have hbw6 : w2.heap.size ≤ w6.heap.size := HB6.out.size
      have hie : ∀ w', (Instr.indexAt 39 (.slice a1 (i + 1) c1) (.int .i64 (i : Int))).run Try.prog w' = .ok (.pointer (some (elt a1 i))) w' := fun w' => by
        have q := HO6.out.idx und_n siz_n w' i (by rw [endsL_len]; omega)
        rw [endsL_len] at q; exact q
      have hce : w6.cell? (elt a1 i) = some (.int .i64 (E : Int)) := by
        have hg := endsL_get (ss := ss) (i := i) (j := i) (Nat.le_refl _)
        obtain ⟨hlt', hg'⟩ := List.getElem?_eq_some_iff.1 hg
        rw [HO6.out.cell i hlt', hg', HEE.out]
      go_wp2_with (at_builtin; refine wpl_append1 (f := Value.int .i64) (d := 0) (base := w2.heap.size) und_ne info_n (fun _ => rfl) ((E : Int) + (t.size : Int)) HO6.out rfl _ _ rfl (by rw [endsL_len]; rfl) rfl (by rw [endsL_len]; omega) (by omega) hbw6 ?_; intro a3 c3 w7 ho3 hg3; have HO7 := Lib.hid ho3; have HB7 := Lib.hid (HB6.out.trans (grown_belowOwn HO6.out hg3 (Nat.le_refl _) hbw6)); clear ho3 hg3)
      rw [endsL_len]
      go_roundw
      case rel => exact ⟨i + 1, a3, c3, by omega, by go_num, rfl, Lib.hid (by rw [HE.out]; exact HO7.out), HB7⟩
      case measure => simp [intOf]; omega
    · obtain rfl : i = ss.length := by omega
      have hltz : ¬ (ss.length : Int) < (ss.length : Int) := by omega
      have h8 : ss.length ≤ 8 := by omega
      have hsm : svsSize ss ≤ 1048576 := by
        have := svSum_le_of HALL.out
        unfold svsSize; omega
      have HEN : Hid (∀ j, j ≤ ss.length → wr.cell? (elt a1 j) = some (.int .i64 ((catL (ss.take j)).size : Int))) := Lib.hid (fun j hj => by
        have hg := endsL_get (ss := ss) (i := ss.length) (j := j) hj
        obtain ⟨hlt', hg'⟩ := List.getElem?_eq_some_iff.1 hg
        rw [HO.out.cell j hlt', hg'])
      have hie : ∀ w' (j : Nat), j < ss.length + 1 → (Instr.indexAt 39 (.slice a1 (ss.length + 1) c1) (.int .i64 (j : Int))).run Try.prog w' = .ok (.pointer (some (elt a1 j))) w' := fun w' j hj => by
        have q := HO.out.idx und_n siz_n w' j (by rw [endsL_len]; omega)
        rw [endsL_len] at q; exact q
      have HIE := Lib.hid hie
      clear hie
      go_wp2_with fail
      refine (storeAll_any (HR.out.below HB.out (Nat.le_refl _)) hsm).mono ?_
      rintro e w1 ⟨rfl, b1⟩
      have HB1 := Lib.hid (HB.out.trans (b1.mono HB.out.size))
      have C1 := Lib.hid b1
      clear b1
      have hab : allB ss = true := allB_yes h8 (fun j hj => HALL.out _ (List.getElem_mem hj))
      have e0 : allT ss = catL ss := by unfold allT; rw [hab, if_pos rfl, catT_catL _ _ (Nat.le_refl _), List.take_length]
      rw [hab, e0]
      have hTs : (catL ss).size ≤ 2000 * ss.length := by have q := catL_size (Nat.le_refl _) (fun j _ h => HALL.out _ (List.getElem_mem h)); rw [List.take_length] at q; exact q
      have HRA : Hid (∀ w', Calls Try.prog 17 #[.string (catL ss)] w' (RetRA w' ss (catL ss).size)) := Lib.hid (fun w' => by
        have q := recoverAll_any (s := catL ss) (w := w') (by omega)
        obtain ⟨q1, q2⟩ := raL_all h8 HALL.out
        rw [q1, q2] at q; exact q)
      have HCUT : Hid (∀ k n, k < ss.length → (catL (ss.take k)).size ≤ n → n < (catL (ss.take (k + 1))).size → raL ((catL ss).extract 0 n) = ss.take k ∧ raN ((catL ss).extract 0 n) = (catL (ss.take k)).size) := Lib.hid (fun k n hk h1 h2 => raL_cut h8 HALL.out hk h1 h2)
      have HBEN : Hid (∀ k n (t : ByteArray), k ≤ ss.length → (catL (ss.take k)).size ≤ n → (toL t).take n = (toL (catL ss)).take n → n ≤ t.size → k ≤ (raL t).length) := Lib.hid (fun k n t hk h1 ht hn => raL_bent h8 HALL.out hk h1 ht hn)
      have HEE : Hid ((catL (ss.take ss.length)).size = (catL ss).size) := Lib.hid (by rw [List.take_length])
      have HTK : Hid (∀ k, (catL ss).extract 0 (catL (ss.take k)).size = catL (ss.take k) ∧ (catL (ss.take k)).size ≤ (catL ss).size) := Lib.hid (fun k => by
        have ec : catL ss = catL (ss.take k) ++ catL (ss.drop k) := by rw [← catL_app, List.take_append_drop]
        rw [ec]
        exact ⟨ext_app _ _, by rw [ByteArray.size_append]; omega⟩)
      have HSS : Hid (∀ {a3 : Option Addr} {c3 : Nat} {hs3 : List SvH} {w' : World}, Rd9 w' a3 c3 hs3 ss → Rd9 w' a c hs ss → Calls Try.prog 28 #[.slice a3 ss.length c3, .slice a ss.length c] w' fun e w'' => e = .returned (.bool true) ∧ Below w'.heap.size w' w'') := Lib.hid (fun r3 r => by
        have q := implSameSaved_any r3 r
        have e : sameSvs ss ss = true := sameSvs_yes rfl (fun k h1 h2 => sameSv_self _)
        rw [e] at q
        exact q)
      have hie0 := fun w' => HIE.out w' ss.length (by omega)
      clear hab e0 HO HALL hsm
      generalize catL ss = T at hTs HRA HCUT HBEN HEE HTK ⊢
      have hT : T.size ≤ 8000 := by omega
      have n3 : ((T.size : Int) != (T.size : Int)) = false := by simp
      have hce0 := k_at C1.out (HEN.out ss.length (Nat.le_refl _))
      rw [HEE.out] at hce0
      clear hTs
      go_wp2_with fail
      refine (HRA.out _).mono ?_
      rintro e w3 ⟨a3, c3, q3, rfl, l3, b3⟩
      have HB3 := Lib.hid (HB1.out.trans (b3.mono HB1.out.size))
      have C3 := Lib.hid (C1.out.trans (b3.mono C1.out.size))
      have L3 := Lib.hid l3
      have hce0 := k_at b3 hce0
      clear b3 l3 HB1 C1 HRA
      go_wp2_with fail
      refine (HSS.out L3.out.rd (HR.out.below HB3.out (Nat.le_refl _))).mono ?_
      rintro e w4 ⟨rfl, b4⟩
      have HB4 := Lib.hid (HB3.out.trans (b4.mono HB3.out.size))
      have C4 := Lib.hid (C3.out.trans (b4.mono C3.out.size))
      clear b4 HB3 C3 L3 HSS hie0 hce0
      by_cases h0 : T.size = 0
      · have h0z : (T.size : Int) = 0 := by omega
        go_wp2
        go_ret
        exact ⟨rfl, HB2.out.trans (HB4.out.mono HB2.out.size)⟩
      have h0z : ¬ (T.size : Int) = 0 := by omega
      have HR2y := Lib.hid ((HR2.out.below HB2.out (Nat.le_refl _)).below HB4.out (Nat.le_refl _))
      have e256 : IntKind.i64.wrap 256 = 256 := by decide
      go_wp2_with fail
      refine (b10At_any (i := 0) (n := 256) HR2y.out HY2.out (by omega) (by omega) (by omega)).mono ?_
      rintro e w5 ⟨⟨v0, rfl, hv0⟩, rfl⟩
      have ev0 : IntKind.i64.wrap (256 * (v0 : Int)) = 256 * (v0 : Int) := IntWalk.i64_in _ (by omega)
      go_wp2_with fail
      refine (b10At_any (i := 1) (n := 256) HR2y.out HY2.out (by omega) (by omega) (by omega)).mono ?_
      rintro e w5 ⟨⟨v1, rfl, hv1⟩, rfl⟩
      have ev1 : IntKind.i64.wrap (256 * (v0 : Int) + (v1 : Int)) = 256 * (v0 : Int) + (v1 : Int) := IntWalk.i64_in _ (by omega)
      have hrem : Int.tmod (256 * (v0 : Int) + (v1 : Int)) (T.size : Int) = (((256 * v0 + v1) % T.size : Nat) : Int) := by
        rw [Int.tmod_eq_emod_of_nonneg (by omega)]; push_cast; rfl
      have hnT : (256 * v0 + v1) % T.size < T.size := Nat.mod_lt _ (by omega)
      generalize (256 * v0 + v1) % T.size = n at hrem hnT
      have ewn : IntKind.i64.wrap (n : Int) = (n : Int) := IntWalk.i64_in _ (by omega)
      go_upto_region 21 with (fail)
      clear h0z ev0 ev1 hrem e256 ewn hv0 hv1
      go_wp2
      go_loopw [18] (fun ki wr' => ∃ k : Nat, ki = .int .i64 (k : Int) ∧ k ≤ ss.length ∧ (catL (ss.take k)).size ≤ n ∧ Hid (wr' = w4)) (fun ki _ => ss.length - (intOf ki).toNat)
      case atStart => exact ⟨0, rfl, Nat.zero_le _, by show 0 ≤ n; omega, Lib.hid rfl⟩
      case round =>
        obtain ⟨k, rfl, hk, hkn, HW⟩ := hrel
        obtain rfl := HW.out
        clear HW
        have hkl : k < ss.length := by
          rcases Nat.lt_or_ge k ss.length with h | h
          · exact h
          · have e : k = ss.length := by omega
            rw [e, HEE.out] at hkn; omega
        have hltk : (k : Int) < (ss.length : Int) := by omega
        have ewk : IntKind.i64.wrap ((k : Int) + 1) = (k : Int) + 1 := IntWalk.i64_in _ (by omega)
        have hie2 : ∀ w', (Instr.indexAt 39 (.slice a1 (ss.length + 1) c1) (.int .i64 ((k : Int) + 1))).run Try.prog w' = .ok (.pointer (some (elt a1 (k + 1)))) w' := fun w' => HIE.out w' (k + 1) (by omega)
        have hce2 := k_at C4.out (HEN.out (k + 1) (by omega))
        by_cases hgo : (catL (ss.take (k + 1))).size ≤ n
        · have hgz : ((catL (ss.take (k + 1))).size : Int) ≤ (n : Int) := by omega
          go_wp2
          go_roundw
          case rel => exact ⟨k + 1, by go_num, by omega, hgo, Lib.hid trivial⟩
          case measure => simp [intOf]; omega
        · have hgz : ¬ ((catL (ss.take (k + 1))).size : Int) ≤ (n : Int) := by omega
          obtain ⟨e1, e2⟩ := HCUT.out k n hkl hkn (by omega)
          have hnz : (n : Int) ≤ (T.size : Int) := by omega
          have HRA2 : Hid (∀ w', Calls Try.prog 17 #[.string (T.extract 0 n)] w' (RetRA w' (ss.take k) (catL (ss.take k)).size)) := Lib.hid (fun w' => by
            have q := recoverAll_any (s := T.extract 0 n) (w := w') (by rw [ByteArray.size_extract]; omega)
            rw [e1, e2] at q; exact q)
          have hlk : (ss.take k).length = k := by rw [List.length_take, Nat.min_eq_left hk]
          have HLK := Lib.hid hlk
          have HBE2 := Lib.hid (fun (t : ByteArray) => HBEN.out k n t hk hkn)
          obtain ⟨m, hm⟩ : ∃ m, (catL (ss.take k)).size = m := ⟨_, rfl⟩
          have hck := k_at C4.out (HEN.out k hk)
          rw [hm] at HRA2 hck hkn
          have n6 : ((m : Int) != (m : Int)) = false := by simp
          have n7 : ((k : Int) != (k : Int)) = false := by simp
          have hie3 := fun w' => HIE.out w' k (by omega)
          have hmz : (m : Int) ≤ (T.size : Int) := by omega
          clear e1 e2 HCUT HBEN HTK hm hgo hlk
          generalize ss.take k = ys' at HRA2 HLK
          go_wp2_with fail
          refine (HRA2.out _).mono ?_
          rintro e w5 ⟨a5, c5, q5, rfl, l5, b5⟩
          rw [HLK.out]
          have HB5 := Lib.hid (HB4.out.trans (b5.mono HB4.out.size))
          have hck := k_at b5 hck
          have HR2z := Lib.hid (HR2y.out.below b5 (Nat.le_refl _))
          clear b5 l5 HB4 HRA2 C4 hie2 hce2 hgz HR2y
          go_upto_region 27 with (fail)
          clear n6 hck hie3
          obtain ⟨cp, w7, hcv, r7, b7, f7⟩ := conv_bytesX w5 T (by omega)
          have HB7 := Lib.hid (HB5.out.trans (b7.mono HB5.out.size))
          have hg5 := HB5.out.size
          have HG5 := Lib.hid hg5
          have R7 := Lib.hid r7
          have HR2a := Lib.hid (HR2z.out.below b7 (Nat.le_refl _))
          have hidx : ∀ w', (Instr.indexAt 43 (.slice (some ⟨w5.heap.size, 0, none⟩) T.size cp) (.int .i64 (n : Int))).run Try.prog w' = .ok (.pointer (some ⟨w5.heap.size, n, none⟩)) w' := fun w' => by
            have q := R7.out.idx und_y siz_y w' n (by rw [bytesI_len]; exact hnT)
            rw [bytesI_len, elt_some, Nat.zero_add] at q; exact q
          have hcl : w7.cell? ⟨w5.heap.size, n, none⟩ = some (.int .u8 (byt T n : Int)) := by
            have q := R7.out.cell n (by rw [bytesI_len]; exact hnT)
            rw [elt_some, Nat.zero_add] at q
            rw [q, byt_at0 hnT]
            rfl
          have hfz := f7 n hnT
          clear f7 b7 r7 HB5 hg5 HR2z
          go_upto_region 28 with (fail)
          have HR2b := Lib.hid (HR2a.out.below (below_of_drewN w7 1 w7.heap.size) (Nat.le_refl _))
          go_cut [] (fun wx => ∃ z : Int, Hid (wx = w7.drew.setCell ⟨w5.heap.size, n, none⟩ (.int .u8 z)))
          case first =>
            go_region_law (first
              | (go_simp; go_at_call 29; refine (b10At_any (i := 2) (n := 255) HR2b.out HY2.out (by omega) (by omega) (by omega)).mono ?_; rintro e wx ⟨⟨v2, rfl, hv2⟩, rfl⟩))
            all_goals
              go_wp2_with fail
              go_meet
              exact ⟨_, Lib.hid rfl⟩
          case rest =>
            obtain ⟨z, HWX⟩ := hcut
            have R8 := Lib.hid ((R7.out.below (below_of_drewN w7 1 w7.heap.size) (Nat.le_refl _)).setAt (n := n) (by rw [bytesI_len]; exact hnT) z)
            have HB8 := Lib.hid ((HB7.out.trans (below_of_drewN w7 1 _)).setCell (p := ⟨w5.heap.size, n, none⟩) HG5.out (.int .u8 z))
            change Hid (Rd _ (w7.drew.setCell ⟨w5.heap.size, n, none⟩ (.int .u8 z)) _ _ _) at R8
            change Hid (Below _ _ (w7.drew.setCell ⟨w5.heap.size, n, none⟩ (.int .u8 z))) at HB8
            rw [← HWX.out] at R8 HB8
            have htk : (toL (strOf ((bytesI T).set n z))).take n = (toL T).take n := bent_take
            have hts : (strOf ((bytesI T).set n z)).size = T.size := bent_size
            have hll := HBE2.out _ htk (by rw [hts]; omega)
            obtain ⟨i1, i2, i3⟩ := raL_is (strOf ((bytesI T).set n z))
            rw [hts] at i1
            have hzl : ((bytesI T).set n z).length = T.size := by rw [List.length_set, bytesI_len]
            have hcv2 := conv_rd R8.out
            rw [hzl] at hcv2
            have HZ := Lib.hid hzl
            have HRA3 := Lib.hid (fun w' => recoverAll_any (s := strOf ((bytesI T).set n z)) (w := w') (by rw [hts]; omega))
            have HST3 := Lib.hid (fun a' c' hs' w' g => storeAll_any (a := a') (c := c') (hs := hs') (ss := raL (strOf ((bytesI T).set n z))) (w := w') g (raL_svs _))
            rw [i2, i3] at HST3
            obtain ⟨aS, cS, hsl, hrs⟩ := R8.out.headRun2 und_y siz_y (hi := raN (strOf ((bytesI T).set n z))) (by rw [hzl]; exact i1)
            rw [hzl] at hsl
            have HRS := Lib.hid hrs
            have HZL := Lib.hid (str_take (l := (bytesI T).set n z) (o := raN (strOf ((bytesI T).set n z))))
            generalize (bytesI T).set n z = zs at R8 hll i1 hcv2 HRA3 HST3 hsl HRS HZL HZ
            generalize strOf zs = t at hll i1 hcv2 HRA3 HST3 hsl HRS HZL
            generalize raL t = xs' at hll HRA3 HST3
            generalize raN t = o at i1 HRA3 HST3 hsl HRS HZL
            clear hidx hcl hfz htk hts i2 i3 hzl hcv R7 HB7 HR2a HR2b HWX hrs
            generalize w5.heap.size = g6 at R8 hcv2 HG5 hsl HRS ⊢
            go_wp2_with fail
            refine (HRA3.out _).mono ?_
            rintro e w9 ⟨a9, c9, q9, rfl, l9, b9⟩
            have HB9 := Lib.hid (HB8.out.trans (b9.mono HB8.out.size))
            have R9 := Lib.hid (R8.out.below b9 (Nat.le_refl _))
            have L9 := Lib.hid l9
            clear b9 l9 HB8 HRA3 R8 hcv2
            go_wp2_with fail
            refine (HST3.out _ _ _ _ L9.out.rd).mono ?_
            rintro e wA ⟨rfl, bA⟩
            have HBA := Lib.hid (HB9.out.trans (bA.mono HB9.out.size))
            have RA := Lib.hid (HRS.out _ (R9.out.below bA (Nat.le_refl _)))
            clear bA HB9 L9 R9 HST3
            have hoz : (o : Int) ≤ (T.size : Int) := by omega
            have ho0 : (0 : Int) ≤ (o : Int) := by omega
            have hkz : (k : Int) ≤ (xs'.length : Int) := by omega
            have hcv3 := conv_rd RA.out
            have hlo : (zs.take o).length = o := by
              have q := HZ.out
              rw [List.length_take]; omega
            rw [hlo, HZL.out] at hcv3
            have n8 : ((t.extract 0 o).toList == (t.extract 0 o).toList) = true := by simp
            go_wp2
            go_ret
            exact ⟨rfl, HB2.out.trans (HBA.out.mono HB2.out.size)⟩

end Go.Proofs.Ytdpolaedfjljmaa
