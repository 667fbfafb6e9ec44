/- The walk of the law FnStoredOfAll. -/
import Derived.Test.YtdpolaedfjljmaaQSVF38
import Derived.Test.YtdpolaedfjljmaaQSVF35
import Derived.Test.YtdpolaedfjljmaaQSVF36
import Derived.Test.YtdpolaedfjljmaaQSVF39
namespace Go.Proofs.Ytdpolaedfjljmaa
open Go.RowKit
attribute [local go_sem ↓] Go.wp_at_zero Go.wp_at_succ

theorem bd_u8 {n : Int} (h : (Lit.int .u8 n).wf = true) : 0 ≤ n ∧ n < 256 := by
  simp [Lit.wf, IntKind.min, IntKind.max, IntKind.signed, IntKind.bits] at h
  omega

theorem und_n : Try.prog.underlying 39 = some (.slice (Try.prog.elem 39)) := by kernel_rfl
theorem siz_n (w : World) : (sizeOf (Try.prog.elem 39)).run Try.prog w = .ok 1 w := by kernel_rfl
theorem und_ne : Try.prog.underlying 39 = some (.slice 3) := by kernel_rfl
theorem info_n : (Try.prog.info? 3).map (fun i => (i.zero, i.size, i.bytes)) = some (some (.int .i64 0), 1, 8) := by kernel_rfl

set_option maxRecDepth 20000 in
set_option maxHeartbeats 8000000 in
theorem lawStoredOf_walk {a : Option Addr} {c : Nat} {hs : List SvH} {ss : List Sv} {cut bit : Int} {w : World} (hr : Rd9 w a c hs ss) (hc0 : -9223372036854775808 ≤ cut ∧ cut ≤ 9223372036854775807) (hb0 : 0 ≤ bit ∧ bit < 256) :
    Calls Try.prog 5 #[.slice a ss.length c, .int .i64 cut, .int .u8 bit] w fun e w' => e = .returned (.bool true) ∧ Below w.heap.size w w' := by
  by_cases hl : 1000 < ss.length
  · have hlz : (1000 : Int) < (ss.length : Int) := by omega
    go_enter Try.func5, Try.ntmps5
    go_wp2
    go_ret
    exact ⟨rfl, Below.refl _ _⟩
  have hlz : ¬ (1000 : Int) < (ss.length : Int) := by omega
  have HC := Lib.hid hc0
  have HBT := Lib.hid hb0
  have HR := Lib.hid hr
  clear hr hc0 hb0
  go_enter Try.func5, Try.ntmps5
  go_upto_region 4 with (fail)
  have HO0 : Hid (Own (Value.int .i64) 3 (w.alloc (.cells #[.int .i64 0] 3)) w.heap.size (some ⟨w.heap.size, 0, none⟩) 1 (endsL ss 0)) := Lib.hid (own_lit w w.heap.size [0] (Nat.le_refl _) (by simp [maxLen]))
  have HB0 : Hid (Below w.heap.size w (w.alloc (.cells #[.int .i64 0] 3))) := Lib.hid ((Below.refl _ _).alloc (Nat.le_refl _) _)
  change Code.wp _ _ _ _ (w.alloc (.cells #[.int .i64 0] 3))
  generalize w.alloc (.cells #[.int .i64 0] 3) = wa at HO0 HB0 ⊢
  go_wp2
  go_loopw [7, 8] (fun el il wr => ∃ (i : Nat) (a1 : Option Addr) (c1 : Nat), i ≤ ss.length ∧ il = .int .i64 (i : Int) ∧ el = .slice a1 (i + 1) c1 ∧ Hid (Own (Value.int .i64) 3 wr w.heap.size a1 c1 (endsL ss i)) ∧ Hid (Below w.heap.size w wr) ∧ Hid (∀ j, j < i → ∀ (h : j < ss.length), savedV ss[j] = true)) (fun _ il _ => ss.length - (intOf il).toNat)
  case atStart => exact ⟨0, _, _, Nat.zero_le _, rfl, rfl, HO0, HB0, Lib.hid (fun j h => by omega)⟩
  case round =>
    obtain ⟨i, a1, c1, hi, rfl, rfl, HO, HB, HV⟩ := hrel
    clear HO0 HB0
    by_cases hlt : i < ss.length
    · have hltz : (i : Int) < (ss.length : Int) := by omega
      have ewi : IntKind.i64.wrap ((i : Int) + 1) = (i : Int) + 1 := IntWalk.i64_in _ (by omega)
      obtain ⟨b, o, rfl, _⟩ := HR.out.here (by omega)
      obtain ⟨hd, hsr, r0, r1, r2, r3, r4, r5, r6, r7, r8⟩ := (HR.out.below HB.out (Nat.le_refl _)).at hlt
      have hix := idx9 (b := b) (o := o) (n := ss.length) (c := c) und_svi siz_svi
      have HSR := Lib.hid hsr
      obtain ⟨x, hx⟩ : ∃ x, ss[i] = x := ⟨_, rfl⟩
      rw [hx] at HSR r0 r1 r2 r3 r4 r5 r6 r7 r8
      have HX := Lib.hid hx
      clear hsr hx
      go_wp2_with fail
      refine (storeSaved_any HSR.out).mono ?_
      rintro e w1 ⟨rfl, b1⟩
      have r0 := k_at b1 r0
      have r1 := k_at b1 r1
      have r2 := k_at b1 r2
      have r3 := k_at b1 r3
      have r4 := k_at b1 r4
      have r5 := k_at b1 r5
      have r6 := k_at b1 r6
      have r7 := k_at b1 r7
      have r8 := k_at b1 r8
      have HSR1 := Lib.hid (HSR.out.below b1 (Nat.le_refl _))
      have HB1 := Lib.hid (HB.out.trans (b1.mono HB.out.size))
      have HO1 := Lib.hid (HO.out.below b1 (Nat.le_refl _))
      clear b1 HSR HB HO
      go_wp2_with fail
      refine (specStoreSaved_any HSR1.out).mono ?_
      rintro e w2 ⟨rfl, b2⟩
      have HB2 := Lib.hid (HB1.out.trans (b2.mono HB1.out.size))
      have HO2 := Lib.hid (HO1.out.below b2 (Nat.le_refl _))
      clear b2 HB1 HO1 HSR1 r0 r1 r2 r3 r4 r5 r6 r7 r8
      cases hv : savedV x with
      | false =>
        rw [stoT_no hv]
        have n1 : (false ^^ false) = false := rfl
        have n2 : ((⟨#[]⟩ : ByteArray).toList != (⟨#[]⟩ : ByteArray).toList) = false := by simp
        go_wp2
        go_ret
        exact ⟨rfl, HB2.out⟩
      | true =>
        rw [stoT_yes hv]
        obtain ⟨k1, k2, k3⟩ := ldOk_store hv (app_nil (storeT x)).symm
        have hsz := storeT_le hv
        have HLS : Hid (∀ w', Calls Try.prog 12 #[.string (storeT x)] w' (RetLS w' x true)) := Lib.hid (fun w' => by
          have q := loadSaved_any (s := storeT x) (w := w') (by omega)
          have e1 : lsOk (storeT x) = true := by unfold lsOk; rw [k1, k3, decide_eq_true rfl]; rfl
          have e2 : lsV (storeT x) = x := by unfold lsV; rw [e1, if_pos rfl]; exact k2
          rw [e1, e2] at q
          exact q)
        have HE : Hid (endsL ss (i + 1) = endsL ss i ++ [((catL (ss.take i)).size : Int) + ((storeT x).size : Int)]) := Lib.hid (by
          rw [endsL_succ, catL_take hlt, HX.out]; simp)
        have HV1 : Hid (∀ j, j < i + 1 → ∀ (h : j < ss.length), savedV ss[j] = true) := Lib.hid (fun j hj h => by
          by_cases e : j = i
          · subst e; rw [HX.out]; exact hv
          · exact HV.out j (by omega) h)
        have hcs : (catL (ss.take i)).size ≤ 2000 * i := catL_size hi HV.out
        have HST : Hid (∀ {h' : SvH} {w' : World}, SvRd w' h' x → Calls Try.prog 21 #[.agg #[.string x.nm, .int .i64 x.W, .int .i64 x.D, .int .i64 x.S, .slice h'.a0 x.cs.length h'.c0, .int .i64 x.R, .slice h'.a1 x.ks.length h'.c1, .slice h'.a2 x.ts.length h'.c2, .slice h'.a3 x.es.length h'.c3]] w' fun e w'' => e = .returned (.tuple #[.string (storeT x), .bool true]) ∧ Below w'.heap.size w' w'') := Lib.hid (fun g => by
          have q := storeSaved_any g
          rw [stoT_yes hv, hv] at q
          exact q)
        clear k1 k2 k3 hv HV
        generalize storeT x = t at HLS HE HST hsz ⊢
        obtain ⟨E, hE⟩ : ∃ E, (catL (ss.take i)).size = E := ⟨_, rfl⟩
        rw [hE] at HE hcs
        have HEE := Lib.hid hE
        clear hE
        have n1 : (true ^^ true) = false := rfl
        have n2 : (t.toList != t.toList) = false := by simp
        go_wp2_with fail
        refine (HLS.out _).mono ?_
        rintro e w3 ⟨h3, rfl, o3, sp3, b3⟩
        have HB3 := Lib.hid (HB2.out.trans (b3.mono HB2.out.size))
        have HO3 := Lib.hid (HO2.out.below b3 (Nat.le_refl _))
        have HS3 := Lib.hid o3
        clear b3 o3 sp3 HB2 HO2
        go_upto_region 14 with (fail)
        have D3 : Below w3.heap.size w3 (w3.alloc (.cells (svV h3 x) 28)) := (Below.refl _ _).alloc (Nat.le_refl _) _
        have X4 : Hid (Blk (w3.alloc (.cells (svV h3 x) 28)) w3.heap.size (svV h3 x) 28) := Lib.hid (Blk.new _ _ _)
        have HB4 := Lib.hid (HB3.out.trans (D3.mono HB3.out.size))
        have HO4 := Lib.hid (HO3.out.below D3 (Nat.le_refl _))
        have HS4 := Lib.hid (HS3.out.below D3 (Nat.le_refl _))
        clear D3 HB3 HO3 HS3
        change Code.wp _ _ _ _ (w3.alloc (.cells (svV h3 x) 28))
        generalize w3.alloc (.cells (svV h3 x) 28) = w4 at X4 HB4 HO4 HS4 ⊢
        generalize w3.heap.size = p4 at X4 ⊢
        have r0 := X4.out.cell (i := 0) (v := .string x.nm) rfl
        have r1 := X4.out.cell (i := 1) (v := .int .i64 x.W) rfl
        have r2 := X4.out.cell (i := 2) (v := .int .i64 x.D) rfl
        have r3 := X4.out.cell (i := 3) (v := .int .i64 x.S) rfl
        have r4 := X4.out.cell (i := 4) (v := .slice h3.a0 x.cs.length h3.c0) rfl
        have r5 := X4.out.cell (i := 5) (v := .int .i64 x.R) rfl
        have r6 := X4.out.cell (i := 6) (v := .slice h3.a1 x.ks.length h3.c1) rfl
        have r7 := X4.out.cell (i := 7) (v := .slice h3.a2 x.ts.length h3.c2) rfl
        have r8 := X4.out.cell (i := 8) (v := .slice h3.a3 x.es.length h3.c3) rfl
        go_wp2_with fail
        refine (HST.out HS4.out.rd).mono ?_
        rintro e w5 ⟨rfl, b5⟩
        have HB5 := Lib.hid (HB4.out.trans (b5.mono HB4.out.size))
        have HO5 := Lib.hid (HO4.out.below b5 (Nat.le_refl _))
        clear b5 HB4 HO4 HS4 X4 r0 r1 r2 r3 r4 r5 r6 r7 r8
        have hbw5 : w.heap.size ≤ w5.heap.size := HB5.out.size
        have hie : ∀ w', (Instr.indexAt 39 (.slice a1 (i + 1) c1) (.int .i64 (i : Int))).run Try.prog w' = .ok (.pointer (some (elt a1 i))) w' := fun w' => by
          have q := HO5.out.idx und_n siz_n w' i (by rw [endsL_len]; omega)
          rw [endsL_len] at q; exact q
        have hce : w5.cell? (elt a1 i) = some (.int .i64 (E : Int)) := by
          have hg := endsL_get (ss := ss) (i := i) (j := i) (Nat.le_refl _)
          obtain ⟨hlt', hg'⟩ := List.getElem?_eq_some_iff.1 hg
          rw [HO5.out.cell i hlt', hg', HEE.out]
        go_wp2_with (at_builtin; refine wpl_append1 (f := Value.int .i64) (d := 0) (base := w.heap.size) und_ne info_n (fun _ => rfl) ((E : Int) + (t.size : Int)) HO5.out rfl _ _ rfl (by rw [endsL_len]; rfl) rfl (by rw [endsL_len]; omega) (by omega) hbw5 ?_; intro a3 c3 w6 ho3 hg3; have HO6 := Lib.hid ho3; have HB6 := Lib.hid (HB5.out.trans (grown_belowOwn HO5.out hg3 (Nat.le_refl _) hbw5)); clear ho3 hg3)
        rw [endsL_len]
        go_roundw
        case rel => exact ⟨i + 1, a3, c3, by omega, by go_num, rfl, Lib.hid (by rw [HE.out]; exact HO6.out), HB6, HV1⟩
        case measure => simp [intOf]; omega
    · obtain rfl : i = ss.length := by omega
      have hltz : ¬ (ss.length : Int) < (ss.length : Int) := by omega
      have HALL : Hid (∀ x ∈ ss, savedV x = true) := Lib.hid (fun x hx => by
        obtain ⟨k, hk, rfl⟩ := List.getElem_of_mem hx
        exact HV.out k hk hk)
      have hsm : svsSize ss ≤ 1048576 := by
        have := svSum_le_of HALL.out
        unfold svsSize; omega
      have HEN : Hid (∀ j, j ≤ ss.length → wr.cell? (elt a1 j) = some (.int .i64 ((catL (ss.take j)).size : Int))) := Lib.hid (fun j hj => by
        have hg := endsL_get (ss := ss) (i := ss.length) (j := j) hj
        obtain ⟨hlt', hg'⟩ := List.getElem?_eq_some_iff.1 hg
        rw [HO.out.cell j hlt', hg'])
      have hie : ∀ w' (j : Nat), j < ss.length + 1 → (Instr.indexAt 39 (.slice a1 (ss.length + 1) c1) (.int .i64 (j : Int))).run Try.prog w' = .ok (.pointer (some (elt a1 j))) w' := fun w' j hj => by
        have q := HO.out.idx und_n siz_n w' j (by rw [endsL_len]; omega)
        rw [endsL_len] at q; exact q
      go_wp2_with fail
      refine (storeAll_any (HR.out.below HB.out (Nat.le_refl _)) hsm).mono ?_
      rintro e w1 ⟨rfl, b1⟩
      have HB1 := Lib.hid (HB.out.trans (b1.mono HB.out.size))
      have C1 := Lib.hid b1
      clear b1
      go_wp2_with fail
      refine (specStoreAll_any (HR.out.below HB1.out (Nat.le_refl _)) hsm).mono ?_
      rintro e w2 ⟨rfl, b2⟩
      have HB2 := Lib.hid (HB1.out.trans (b2.mono HB1.out.size))
      have C2 := Lib.hid (C1.out.trans (b2.mono C1.out.size))
      clear b2 HB1 C1
      cases hab : allB ss with
      | false =>
        have e0 : allT ss = ⟨#[]⟩ := by unfold allT; rw [hab]; rfl
        rw [e0]
        have n1 : (false ^^ false) = false := rfl
        have n2 : ((⟨#[]⟩ : ByteArray).toList != (⟨#[]⟩ : ByteArray).toList) = false := by simp
        go_wp2
        go_ret
        exact ⟨rfl, HB2.out⟩
      | true =>
        have h8 : ss.length ≤ 8 := by unfold allB at hab; rw [Bool.and_eq_true] at hab; exact of_decide_eq_true hab.1
        have e0 : allT ss = catL ss := by unfold allT; rw [hab, if_pos rfl, catT_catL _ _ (Nat.le_refl _), List.take_length]
        rw [e0]
        have hTs : (catL ss).size ≤ 2000 * ss.length := by have q := catL_size (Nat.le_refl _) HV.out; rw [List.take_length] at q; exact q
        have HRA : Hid (∀ w', Calls Try.prog 17 #[.string (catL ss)] w' (RetRA w' ss (catL ss).size)) := Lib.hid (fun w' => by
          have q := recoverAll_any (s := catL ss) (w := w') (by omega)
          obtain ⟨q1, q2⟩ := raL_all h8 HALL.out
          rw [q1, q2] at q; exact q)
        have HSA : Hid (∀ (k : Nat) (a' : Option Addr) (c' : Nat) (hs' : List SvH) (w' : World), Rd9 w' a' c' hs' (ss.take k) → Calls Try.prog 23 #[.slice a' (ss.take k).length c'] w' fun e w'' => e = .returned (.tuple #[.string (catL (ss.take k)), .bool true]) ∧ Below w'.heap.size w' w'') := Lib.hid (fun k _ _ _ _ g => by
          have hvk : ∀ x ∈ ss.take k, savedV x = true := fun x hx => HALL.out x (List.mem_of_mem_take hx)
          have hlk : (ss.take k).length ≤ 8 := by rw [List.length_take]; omega
          have q := storeAll_any g (by have := svSum_le_of hvk; unfold svsSize; omega)
          have hb : allB (ss.take k) = true := allB_yes hlk (fun j hj => hvk _ (List.getElem_mem hj))
          have ht : allT (ss.take k) = catL (ss.take k) := by unfold allT; rw [hb, if_pos rfl, catT_catL _ _ (Nat.le_refl _), List.take_length]
          rw [hb, ht] at q; exact q)
        have HCUT : Hid (∀ k n, k < ss.length → (catL (ss.take k)).size ≤ n → n < (catL (ss.take (k + 1))).size → raL ((catL ss).extract 0 n) = ss.take k ∧ raN ((catL ss).extract 0 n) = (catL (ss.take k)).size) := Lib.hid (fun k n hk h1 h2 => raL_cut h8 HALL.out hk h1 h2)
        have HBEN : Hid (∀ k n (t : ByteArray), k ≤ ss.length → (catL (ss.take k)).size ≤ n → (toL t).take n = (toL (catL ss)).take n → n ≤ t.size → k ≤ (raL t).length) := Lib.hid (fun k n t hk h1 ht hn => raL_bent h8 HALL.out hk h1 ht hn)
        have HTK : Hid (∀ k, (catL ss).extract 0 (catL (ss.take k)).size = catL (ss.take k) ∧ (catL (ss.take k)).size ≤ (catL ss).size) := Lib.hid (fun k => by
          have ec : catL ss = catL (ss.take k) ++ catL (ss.drop k) := by rw [← catL_app, List.take_append_drop]
          rw [ec]
          exact ⟨ext_app _ _, by rw [ByteArray.size_append]; omega⟩)
        have HEE : Hid ((catL (ss.take ss.length)).size = (catL ss).size) := Lib.hid (by rw [List.take_length])
        have HSA0 : Hid (∀ (a' : Option Addr) (c' : Nat) (hs' : List SvH) (w' : World), Rd9 w' a' c' hs' ss → Calls Try.prog 23 #[.slice a' ss.length c'] w' fun e w'' => e = .returned (.tuple #[.string (catL ss), .bool true]) ∧ Below w'.heap.size w' w'') := Lib.hid (fun a' c' hs' w' g => by
          have q := HSA.out ss.length a' c' hs' w' (by rw [List.take_length]; exact g)
          rw [List.take_length] at q; exact q)
        generalize catL ss = T at hTs HRA HCUT HBEN HTK HEE HSA0 ⊢
        have hT : T.size ≤ 16000 := by omega
        have n1 : (true ^^ true) = false := rfl
        have n2 : (T.toList != T.toList) = false := by simp
        have n3 : ((T.size : Int) != (T.size : Int)) = false := by simp
        have n4 : ((ss.length : Int) != (ss.length : Int)) = false := by simp
        clear hab e0 HV HO HALL hsm hTs
        go_wp2_with fail
        refine (HRA.out _).mono ?_
        rintro e w3 ⟨a3, c3, q3, rfl, l3, b3⟩
        have HB3 := Lib.hid (HB2.out.trans (b3.mono HB2.out.size))
        have C3 := Lib.hid (C2.out.trans (b3.mono C2.out.size))
        have L3 := Lib.hid l3
        clear b3 l3 HB2 C2
        go_wp2_with fail
        refine (HSA0.out _ _ _ _ L3.out.rd).mono ?_
        rintro e w4 ⟨rfl, b4⟩
        have HB4 := Lib.hid (HB3.out.trans (b4.mono HB3.out.size))
        have C4 := Lib.hid (C3.out.trans (b4.mono C3.out.size))
        clear b4 HB3 C3 L3 HRA HSA0
        have hie1 := fun w' => hie w' ss.length (by omega)
        have hce1 : w4.cell? (elt a1 ss.length) = some (.int .i64 (T.size : Int)) := by rw [← HEE.out]; exact k_at C4.out (HEN.out ss.length (Nat.le_refl _))
        have HIE := Lib.hid hie
        clear hie
        by_cases hcn : cut < 0
        · go_wp2
          go_ret
          exact ⟨rfl, HB4.out⟩
        by_cases hcg : (T.size : Int) ≤ cut
        · go_wp2
          go_ret
          exact ⟨rfl, HB4.out⟩
        obtain ⟨n, rfl⟩ : ∃ n : Nat, cut = (n : Int) := ⟨cut.toNat, by omega⟩
        have hnT : n < T.size := by omega
        go_wp2
        clear hie1 hce1
        go_loopw [26] (fun ki wr' => ∃ k : Nat, ki = .int .i64 (k : Int) ∧ k ≤ ss.length ∧ (catL (ss.take k)).size ≤ n ∧ Hid (wr' = w4)) (fun ki _ => ss.length - (intOf ki).toNat)
        case atStart => exact ⟨0, rfl, Nat.zero_le _, by show 0 ≤ n; omega, Lib.hid rfl⟩
        case round =>
          obtain ⟨k, rfl, hk, hkn, HW⟩ := hrel
          obtain rfl := HW.out
          clear HW
          have hkl : k < ss.length := by
            rcases Nat.lt_or_ge k ss.length with h | h
            · exact h
            · have e : k = ss.length := by omega
              rw [e, HEE.out] at hkn; omega
          have hltk : (k : Int) < (ss.length : Int) := by omega
          have ewk : IntKind.i64.wrap ((k : Int) + 1) = (k : Int) + 1 := IntWalk.i64_in _ (by omega)
          have hie2 : ∀ w', (Instr.indexAt 39 (.slice a1 (ss.length + 1) c1) (.int .i64 ((k : Int) + 1))).run Try.prog w' = .ok (.pointer (some (elt a1 (k + 1)))) w' := fun w' => HIE.out w' (k + 1) (by omega)
          have hce2 := k_at C4.out (HEN.out (k + 1) (by omega))
          by_cases hgo : (catL (ss.take (k + 1))).size ≤ n
          · have hgz : ((catL (ss.take (k + 1))).size : Int) ≤ (n : Int) := by omega
            go_wp2
            go_roundw
            case rel => exact ⟨k + 1, by go_num, by omega, hgo, Lib.hid trivial⟩
            case measure => simp [intOf]; omega
          · have hgz : ¬ ((catL (ss.take (k + 1))).size : Int) ≤ (n : Int) := by omega
            obtain ⟨e1, e2⟩ := HCUT.out k n hkl hkn (by omega)
            have hnz : (n : Int) ≤ (T.size : Int) := by omega
            have HRA2 : Hid (∀ w', Calls Try.prog 17 #[.string (T.extract 0 n)] w' (RetRA w' (ss.take k) (catL (ss.take k)).size)) := Lib.hid (fun w' => by
              have q := recoverAll_any (s := T.extract 0 n) (w := w') (by rw [ByteArray.size_extract]; omega)
              rw [e1, e2] at q; exact q)
            have HSA2 : Hid (∀ (a' : Option Addr) (c' : Nat) (hs' : List SvH) (w' : World), Rd9 w' a' c' hs' (ss.take k) → Calls Try.prog 23 #[.slice a' k c'] w' fun e w'' => e = .returned (.tuple #[.string (catL (ss.take k)), .bool true]) ∧ Below w'.heap.size w' w'') := Lib.hid (fun a' c' hs' w' g => by
              have q := HSA.out k a' c' hs' w' g
              rw [List.length_take, Nat.min_eq_left hk] at q; exact q)
            have hlk : (ss.take k).length = k := by rw [List.length_take, Nat.min_eq_left hk]
            have HLK := Lib.hid hlk
            have HBE2 := Lib.hid (fun (t : ByteArray) => HBEN.out k n t hk hkn)
            obtain ⟨hx1, hx2⟩ := HTK.out k
            obtain ⟨m, hm⟩ : ∃ m, (catL (ss.take k)).size = m := ⟨_, rfl⟩
            have hck := k_at C4.out (HEN.out k hk)
            rw [hm] at HRA2 hck hx1 hx2 hkn
            have n5 : ((catL (ss.take k)).toList != (T.extract 0 m).toList) = false := by rw [hx1]; simp
            have n5' : ((catL (ss.take k)).toList == (T.extract 0 m).toList) = true := by simpa using n5
            have n6 : ((m : Int) != (m : Int)) = false := by simp
            have n7 : ((k : Int) != (k : Int)) = false := by simp
            have hie3 := fun w' => HIE.out w' k (by omega)
            have hmz : (m : Int) ≤ (T.size : Int) := by omega
            clear e1 e2 HSA HCUT HBEN HTK hx1 hm hgo hlk
            generalize catL (ss.take k) = Ck at HSA2 n5 n5'
            generalize ss.take k = ys at HRA2 HSA2 HLK
            go_wp2_with fail
            refine (HRA2.out _).mono ?_
            rintro e w5 ⟨a5, c5, q5, rfl, l5, b5⟩
            rw [HLK.out]
            have HB5 := Lib.hid (HB4.out.trans (b5.mono HB4.out.size))
            have hck := k_at b5 hck
            have L5 := Lib.hid l5
            clear b5 l5 HB4 HRA2 C4 hie2 hce2 hgz
            go_wp2_with fail
            refine (HSA2.out _ _ _ _ L5.out.rd).mono ?_
            rintro e w6 ⟨rfl, b6⟩
            have HB6 := Lib.hid (HB5.out.trans (b6.mono HB5.out.size))
            have hck := k_at b6 hck
            clear b6 HB5 HSA2 L5
            go_upto_region 37 with (fail)
            clear n5 n5' n6 hck hie3
            obtain ⟨cp, w7, hcv, r7, b7, f7⟩ := conv_bytesX w6 T (by omega)
            have HB7 := Lib.hid (HB6.out.trans (b7.mono HB6.out.size))
            have hg6 := HB6.out.size
            have HG6 := Lib.hid hg6
            have R7 := Lib.hid r7
            have hidx : ∀ w', (Instr.indexAt 43 (.slice (some ⟨w6.heap.size, 0, none⟩) T.size cp) (.int .i64 (n : Int))).run Try.prog w' = .ok (.pointer (some ⟨w6.heap.size, n, none⟩)) w' := fun w' => by
              have q := R7.out.idx und_y siz_y w' n (by rw [bytesI_len]; exact hnT)
              rw [bytesI_len, elt_some, Nat.zero_add] at q; exact q
            have hcl : w7.cell? ⟨w6.heap.size, n, none⟩ = some (.int .u8 (byt T n : Int)) := by
              have q := R7.out.cell n (by rw [bytesI_len]; exact hnT)
              rw [elt_some, Nat.zero_add] at q
              rw [q, byt_at0 hnT]
              rfl
            have hfz := f7 n hnT
            clear f7 b7 r7 HB6 hg6
            go_upto_region 39 with (fail)
            obtain ⟨v, hv⟩ : ∃ v, bits BinOp.xor IntKind.u8 (byt T n : Int) bit = v := ⟨_, rfl⟩
            rw [hv]
            have R8 := Lib.hid (R7.out.setAt (n := n) (by rw [bytesI_len]; exact hnT) v)
            have HB8 := Lib.hid (HB7.out.setCell (p := ⟨w6.heap.size, n, none⟩) HG6.out (.int .u8 v))
            have htk : (toL (strOf ((bytesI T).set n v))).take n = (toL T).take n := bent_take
            have hts : (strOf ((bytesI T).set n v)).size = T.size := bent_size
            have hll := HBE2.out _ htk (by rw [hts]; omega)
            obtain ⟨i1, i2, i3⟩ := raL_is (strOf ((bytesI T).set n v))
            have i4 := raL_len (strOf ((bytesI T).set n v))
            have i5 := raL_sum (strOf ((bytesI T).set n v))
            rw [hts] at i1
            have hzl : ((bytesI T).set n v).length = T.size := by rw [List.length_set, bytesI_len]
            have hcv2 := conv_rd R8.out
            rw [hzl] at hcv2
            have HZ := Lib.hid hzl
            have HRA3 := Lib.hid (fun w' => recoverAll_any (s := strOf ((bytesI T).set n v)) (w := w') (by rw [hts]; omega))
            have HST3 := Lib.hid (fun a' c' hs' w' g => storeAll_any (a := a') (c := c') (hs := hs') (ss := raL (strOf ((bytesI T).set n v))) (w := w') g (raL_svs _))
            rw [i2, i3] at HST3
            obtain ⟨aS, cS, hsl, hrs⟩ := R8.out.headRun2 und_y siz_y (hi := raN (strOf ((bytesI T).set n v))) (by rw [hzl]; exact i1)
            rw [hzl] at hsl
            have HRS := Lib.hid hrs
            have HZL := Lib.hid (str_take (l := (bytesI T).set n v) (o := raN (strOf ((bytesI T).set n v))))
            generalize (bytesI T).set n v = zs at R8 hll i1 hcv2 HRA3 HST3 hsl HRS HZL HZ
            generalize strOf zs = t at hll i1 hcv2 HRA3 HST3 hsl HRS HZL
            generalize raL t = xs at hll HRA3 HST3
            generalize raN t = o at i1 HRA3 HST3 hsl HRS HZL
            clear hidx hcl hfz htk hts i2 i3 i4 i5 hzl hcv R7 HB7
            generalize w7.setCell ⟨w6.heap.size, n, none⟩ (.int .u8 v) = w8 at R8 HB8 hcv2 ⊢
            generalize w6.heap.size = g6 at R8 hcv2 HG6 hsl HRS ⊢
            go_wp2_with fail
            refine (HRA3.out _).mono ?_
            rintro e w9 ⟨a9, c9, q9, rfl, l9, b9⟩
            have HB9 := Lib.hid (HB8.out.trans (b9.mono HB8.out.size))
            have R9 := Lib.hid (R8.out.below b9 (Nat.le_refl _))
            have L9 := Lib.hid l9
            clear b9 l9 HB8 HRA3 R8 hcv2
            go_wp2_with fail
            refine (HST3.out _ _ _ _ L9.out.rd).mono ?_
            rintro e wA ⟨rfl, bA⟩
            have HBA := Lib.hid (HB9.out.trans (bA.mono HB9.out.size))
            have RA := Lib.hid (HRS.out _ (R9.out.below bA (Nat.le_refl _)))
            clear bA HB9 L9 R9 HST3
            have hoz : (o : Int) ≤ (T.size : Int) := by omega
            have ho0 : (0 : Int) ≤ (o : Int) := by omega
            have hkz : (k : Int) ≤ (xs.length : Int) := by omega
            have hcv3 := conv_rd RA.out
            have hlo : (zs.take o).length = o := by
              have q := HZ.out
              rw [List.length_take]; omega
            rw [hlo, HZL.out] at hcv3
            have n8 : ((t.extract 0 o).toList == (t.extract 0 o).toList) = true := by simp
            go_wp2
            go_ret
            exact ⟨rfl, HBA.out⟩

end Go.Proofs.Ytdpolaedfjljmaa
