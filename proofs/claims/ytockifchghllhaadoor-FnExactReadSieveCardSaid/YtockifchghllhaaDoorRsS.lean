/- ReadSieve in the reference's text. -/
import Derived.Test.YtockifchghllhaaDoorRsI
namespace Go.Proofs.YtockifchghllhaaDoor
open Go.RowKit
attribute [local go_sem ↓] Go.wp_at_zero Go.wp_at_succ

theorem is01_semi {T : ByteArray} (h : is01 T = true) : ∀ b ∈ toL T, b ≠ 59 := by
  intro b hb e
  subst e
  obtain ⟨j, hj, e⟩ := List.mem_iff_getElem.1 hb
  unfold is01 at h
  rw [List.all_eq_true] at h
  have h2 := h j (List.mem_range.2 (by rw [toL_len] at hj; exact hj))
  rw [decide_eq_true_eq, byt_toL hj, e] at h2
  exact absurd h2 (by decide)
theorem is01_no {T : ByteArray} {k : Nat} (hk : k < T.size) (h0 : byt T k ≠ 48) (h1 : byt T k ≠ 49) : is01 T = false := by
  unfold is01
  rw [List.all_eq_false]
  exact ⟨k, List.mem_range.2 hk, by simp [h0, h1]⟩
theorem is01_yes {T : ByteArray} (h : ∀ j, j < T.size → byt T j = 48 ∨ byt T j = 49) : is01 T = true := by
  unfold is01
  rw [List.all_eq_true]
  intro j hj
  exact decide_eq_true (h j (List.mem_range.1 hj))
theorem SieBox.other {w0 w w2 w3 : World} {g : Nat} {R S : Int} {a : Option Addr} {c : Nat} {bs : List Bool} (h : SieBox w0 g R S w a c bs) (hb : Below w.heap.size w w2) (hg : w2.grownBy w3 (a.map (·.block))) (v : Value)
    {pb : Nat} {pa : Option Addr} {pc : Nat} {P : List ByteArray} (hP : Own Value.string 9 w pb pa pc P) (hk : ∀ p, pa = some p → p.block < g) : Own Value.string 9 (w3.setCell ⟨g, 2, none⟩ v) pb pa pc P := by
  have h1 := hP.below hb (Nat.le_refl _)
  have h2 := h1.keptS hg (sep_of_type h1 (h.own.below hb (Nat.le_refl _)) (by decide))
  exact h2.kept (grown_setCell w3 ⟨g, 2, none⟩ v) (by
    intro q hq p hp
    have := hk p hp
    simp at hq
    omega)

set_option maxRecDepth 20000 in
set_option maxHeartbeats 8000000 in
theorem specReadSieve_any {t : ByteArray} {w : World} (hs : t.size ≤ 1048576) :
    Calls Tryd.prog 80 #[.string t] w (RetSie w (rsR t) (rsS t) (rsL t) (rsB t)) := by
  have HB0 := Lib.hid ((Below.refl w.heap.size w).alloc (Nat.le_refl _) (.cells #[.int .i64 0, .int .i64 0, .slice none 0 0] 31))
  have HI0 : Hid (Blk (w.alloc (.cells #[.int .i64 0, .int .i64 0, .slice none 0 0] 31)) w.heap.size #[.int .i64 0, .int .i64 0, .slice none 0 0] 31) := Lib.hid (Blk.new _ _ _)
  have HSH : Hid ((ctH 59 t).size ≤ 1048576) := Lib.hid (Nat.le_trans (ctH_size 59 t) hs)
  have hst : (ctT 59 t).size ≤ 1048576 := Nat.le_trans (ctT_size 59 t) hs
  obtain ⟨rb, hrb⟩ : ∃ b, rsB t = b := ⟨_, rfl⟩
  obtain ⟨rr, hrr⟩ : ∃ v, rsR t = v := ⟨_, rfl⟩
  obtain ⟨rs, hrs⟩ : ∃ v, rsS t = v := ⟨_, rfl⟩
  obtain ⟨rl, hrl⟩ : ∃ v, rsL t = v := ⟨_, rfl⟩
  have HNO : Hid (rsB t = false → rb = false ∧ rr = 0 ∧ rs = 0 ∧ rl = []) := Lib.hid (fun h => ⟨hrb ▸ h, hrr ▸ (rs_no h).1, hrs ▸ (rs_no h).2.1, hrl ▸ (rs_no h).2.2⟩)
  have HYES : Hid (rsB t = true → rb = true ∧ rr = at0 (numsL (ctH 59 t)) 0 ∧ rs = at0 (numsL (ctH 59 t)) 1 ∧ rl = bitsOf (ctT 59 t)) := Lib.hid (fun h => ⟨hrb ▸ h, hrr ▸ (rs_yes h).1, hrs ▸ (rs_yes h).2.1, hrl ▸ (rs_yes h).2.2⟩)
  have HDEF : Hid (rsB t = (ctB 59 t && numsB (ctH 59 t) && decide ((numsL (ctH 59 t)).length = 2) && is01 (ctT 59 t) && sieveB (at0 (numsL (ctH 59 t)) 0) (at0 (numsL (ctH 59 t)) 1) (ctT 59 t).size)) := Lib.hid rfl
  have HP2 := Lib.hid (parts_two (t := t) (m := 59))
  have hpl := parts_len t 59
  have HCU := Lib.hid (l01Cut_any (s := t) (m := 59) (mi := 59) (w := w.alloc (.cells #[.int .i64 0, .int .i64 0, .slice none 0 0] 31)) hs rfl)
  have HNR : Hid (numsB (ctH 59 t) = true → numsR (ctH 59 t) = numsL (ctH 59 t)) := Lib.hid (fun h => by unfold numsR; rw [h]; rfl)
  have HRL := Lib.hid (fun (w' : World) => l01Numbers_any (s := ctH 59 t) (w := w') HSH.out)
  rw [hrb, hrr, hrs, hrl]
  clear hrb hrr hrs hrl HSH
  generalize numsR (ctH 59 t) = xr at HNR HRL
  generalize numsL (ctH 59 t) = xs at HNR HYES HDEF
  generalize numsB (ctH 59 t) = nb at HNR HRL HDEF
  generalize ctH 59 t = H at HP2 HRL
  generalize ctT 59 t = T at hst HYES HDEF HP2
  generalize ctB 59 t = F at HDEF HP2
  generalize rsB t = ok at HNO HYES HDEF
  generalize parts t 59 = P at HP2 hpl HCU
  go_enter Tryd.func80, Tryd.ntmps80
  go_wp2_with fail
  refine HCU.out.mono ?_
  rintro e w1 ⟨pa, pc, rfl, hpo, hb1⟩
  have HB1 := Lib.hid (HB0.out.trans (hb1.mono HB0.out.size))
  have HI1 := Lib.hid (HI0.out.below hb1 (Nat.le_refl _))
  have HPO := Lib.hid hpo
  have hix := hpo.rd.idx und_ss siz_ss
  clear hb1 HCU HB0 HI0 hpo
  by_cases hl : P.length = 2
  · obtain ⟨hF, hP⟩ := HP2.out.1 hl
    subst hP
    have hc0 := HPO.out.rd.cell 0 (by simp)
    simp only [List.getElem?_cons_zero, List.getElem?_cons_succ, Option.getD_some] at hc0
    simp only [List.length_cons, List.length_nil, Nat.zero_add, Nat.reduceAdd] at hix ⊢
    have hi0 : ∀ w' : World, (Instr.indexAt 35 (.slice pa 2 pc) (.int .i64 0)).run Tryd.prog w' = .ok (.pointer (some (elt pa 0))) w' := fun w' => hix w' 0 (by omega)
    have HI1' : Hid (∀ w' : World, (Instr.indexAt 35 (.slice pa 2 pc) (.int .i64 1)).run Tryd.prog w' = .ok (.pointer (some (elt pa 1))) w') := Lib.hid (fun w' => hix w' 1 (by omega))
    have HPB := Lib.hid (fun p hp => (HPO.out.blk p hp).2)
    clear hl hpl hix
    go_wp2_with fail
    refine (HRL.out _).mono ?_
    rintro e w2 ⟨a, c, rfl, ho, hb2⟩
    have hz12 := hb2.size
    have HB2 := Lib.hid (HB1.out.trans (hb2.mono HB1.out.size))
    have HI2 := Lib.hid (HI1.out.below hb2 (Nat.le_refl _))
    have HO2 := Lib.hid ho
    have HPO2 := Lib.hid (HPO.out.below hb2 (Nat.le_refl _))
    clear hb2 HB1 HI1 ho HRL HPO hc0
    by_cases hgood : nb = true ∧ xs.length = 2
    · obtain ⟨rfl, hl2⟩ := hgood
      obtain rfl := HNR.out rfl
      have h2 := two_of hl2
      obtain ⟨R, hR⟩ : ∃ R, at0 xr 0 = R := ⟨_, rfl⟩
      obtain ⟨S, hS⟩ : ∃ S, at0 xr 1 = S := ⟨_, rfl⟩
      have HDEF2 : Hid (ok = (is01 T && sieveB R S T.size)) := Lib.hid (by rw [HDEF.out, decide_eq_true hl2, hR, hS, hF]; simp)
      have HYES2 : Hid (ok = true → rb = true ∧ rr = R ∧ rs = S ∧ rl = bitsOf T) := Lib.hid (by rw [← hR, ← hS]; exact HYES.out)
      rw [hR, hS] at h2
      subst h2
      have hcap := HO2.out.rd
      have hix := hcap.idx und_is siz_is
      have hc0 := hcap.cell 0 (by simp)
      have hc1 := hcap.cell 1 (by simp)
      simp only [List.getElem?_cons_zero, List.getElem?_cons_succ, Option.getD_some] at hc0 hc1
      simp only [List.length_cons, List.length_nil, Nat.zero_add, Nat.reduceAdd] at hix ⊢
      have hj0 : ∀ w' : World, (Instr.indexAt 41 (.slice a 2 c) (.int .i64 0)).run Tryd.prog w' = .ok (.pointer (some (elt a 0))) w' := fun w' => hix w' 0 (by omega)
      have hj1 : ∀ w' : World, (Instr.indexAt 41 (.slice a 2 c) (.int .i64 1)).run Tryd.prog w' = .ok (.pointer (some (elt a 1))) w' := fun w' => hix w' 1 (by omega)
      have hz2 := HB2.out.size
      have hbx : SieBox w w2.heap.size R S (w2.alloc (.cells #[.int .i64 R, .int .i64 S, .slice none 0 0] 31)) none 0 (bitsK T 0) :=
        ⟨Blk.new w2 _ _, own_nil _ _ _ _, HB2.out.alloc HB2.out.size _, HI2.out.lt, HI2.out.alloc _⟩
      have HBX := Lib.hid hbx
      have HPO3 := Lib.hid (HPO2.out.alloc (.cells #[.int .i64 R, .int .i64 S, .slice none 0 0] 31))
      have HPB2 : Hid (∀ p, pa = some p → p.block < w2.heap.size) := Lib.hid (fun p hp => Nat.lt_of_lt_of_le (HPB.out p hp) hz12)
      clear hcap hix hl2 HDEF HYES HNR hR hS hbx HI2 HB2 HO2 HPO2 HPB hi0
      go_wp2_with fail
      go_region_held3 (fun w' => w'.cell? (elt a 0) = some (.int .i64 R) ∧ w'.cell? (elt a 1) = some (.int .i64 S)) ((refine ⟨?_, ?_⟩ <;> (repeat (first | assumption | refine k_drew ?_ | refine k_alloc ?_ | refine k_set (by simp; omega) ?_)))) (fail)
      obtain ⟨w3, hw3⟩ : ∃ w3, w3 = (w2.alloc (.cells #[.int .i64 R, .int .i64 S, .slice none 0 0] 31)).drew := ⟨_, rfl⟩
      have HBX : Hid (SieBox w w2.heap.size R S w3 none 0 (bitsK T 0)) := Lib.hid (by rw [hw3]; exact HBX.out.below (below_of_drewN _ 1 _))
      have HPO3 : Hid (Own Value.string 9 w3 (w.alloc (.cells #[.int .i64 0, .int .i64 0, .slice none 0 0] 31)).heap.size pa pc [H, T]) := Lib.hid (by rw [hw3]; exact HPO3.out)
      go_wp2_with fail
      rw [← hw3]
      clear hw3
      obtain ⟨B, hB⟩ : ∃ B, w2.heap.size = B := ⟨_, rfl⟩
      rw [hB] at HBX HPB2 ⊢
      clear hB hj0 hj1 hc0 hc1 hz2 hz12
      go_loopw [8, 9] (fun vi _ wr => ∃ (k : Nat) (a : Option Addr) (c : Nat), vi = .int .i64 k ∧ k ≤ T.size ∧ Hid (SieBox w B R S wr a c (bitsK T k)) ∧ Hid (Own Value.string 9 wr (w.alloc (.cells #[.int .i64 0, .int .i64 0, .slice none 0 0] 31)).heap.size pa pc [H, T]) ∧ Hid (∀ j, j < k → byt T j = 48 ∨ byt T j = 49)) (fun vi _ _ => T.size - (intOf vi).toNat)
      case atStart => exact ⟨0, _, _, rfl, Nat.zero_le _, HBX, HPO3, Lib.hid (fun j hj => absurd hj (Nat.not_lt_zero _))⟩
      case round =>
        clear HBX HPO3
        obtain ⟨k, a, c, rfl, hk, HBX, HPO, HAL⟩ := hrel
        have hbl : (bitsK T k).length ≤ 1048576 := by rw [bitsK_len]; omega
        have hi1 := HI1'.out
        have hp1 := HPO.out.rd.cell 1 (by simp)
        simp only [List.getElem?_cons_zero, List.getElem?_cons_succ, Option.getD_some] at hp1
        by_cases hlt : k < T.size
        · have hltz : (k : Int) < (T.size : Int) := by omega
          have hbe := byt_eq hlt
          have hbt := byt_lt T k
          have ewk : IntKind.i64.wrap ((k : Int) + 1) = (k : Int) + 1 := IntWalk.i64_in _ (by omega)
          have HS1 := Lib.hid (bitsK_succ T k)
          have HNO1 := Lib.hid (fun h0 h1 => is01_no (T := T) (k := k) hlt h0 h1)
          have HAL1 : Hid ((byt T k = 48 ∨ byt T k = 49) → ∀ j, j < k + 1 → byt T j = 48 ∨ byt T j = 49) := Lib.hid (fun h j hj => by
            rcases Nat.lt_or_ge j k with h2 | h2
            · exact HAL.out j h2
            · rw [show j = k by omega]; exact h)
          obtain ⟨y, hy⟩ : ∃ y, byt T k = y := ⟨_, rfl⟩
          rw [hy] at hbe HS1 HNO1 HAL1 hbt
          obtain ⟨x, hx⟩ : ∃ x, ((y : Int) == 49) = x := ⟨_, rfl⟩
          rw [hx] at HS1
          generalize bitsK T k = bs at hbl HBX HS1
          have o2 := HBX.out.blk.cell (i := 2) (v := .slice a bs.length c) rfl
          have of2 := HBX.out.blk.free 2
          have hg1 := HBX.out.blk.lt
          have hg0 := HBX.out.lo
          have n1 : wr.heap.size ≠ B := by omega
          clear hy
          by_cases hbit : y = 48 ∨ y = 49
          · have HAL2 := Lib.hid (HAL1.out hbit)
            have key : ∀ h48 : Bool, ((y : Int) == 48) = h48 → ((y : Int) != 48) = !h48 := by intro h48 h; show (!((y : Int) == 48)) = !h48; rw [h]
            rcases hbit with h48 | h49
            · have e48 : ((y : Int) != 48) = false := by rw [h48]; rfl
              have e48b : ((y : Int) == 48) = true := by rw [h48]; rfl
              clear key h48
              go_wp2_with (at_builtin; refine wpl_append1 (f := Value.bool) (d := false) (base := B + 1) und_bse info_b (fun _ => rfl) x HBX.out.own rfl _ _ rfl rfl rfl (by omega) (by omega) (by omega) ?_; intro a3 c3 w3 ho3 hg3; have O3 := HBX.out.push (Below.refl _ _) ho3 hg3; have o3c := O3.1; have o3f := O3.2.1; have HO3 := Lib.hid O3.2.2; have HP3 := Lib.hid (HBX.out.other (Below.refl _ _) hg3 (.slice a3 (bs.length + 1) c3) HPO.out HPB2.out); clear O3 ho3 hg3)
              go_roundw
              case rel => exact ⟨k + 1, a3, c3, by go_num, by omega, by rw [HS1.out]; exact HO3, HP3, HAL2⟩
              case measure => simp [intOf]; omega
            · have e48 : ((y : Int) != 48) = true := by rw [h49]; rfl
              have e48b : ((y : Int) == 48) = false := by rw [h49]; rfl
              have e49 : ((y : Int) != 49) = false := by rw [h49]; rfl
              have e49b : ((y : Int) == 49) = true := by rw [h49]; rfl
              have hxt : x = true := by rw [← hx, h49]; rfl
              subst hxt
              clear key h49 hx
              go_wp2_with (at_builtin; refine wpl_append1 (f := Value.bool) (d := false) (base := B + 1) und_bse info_b (fun _ => rfl) true HBX.out.own rfl _ _ rfl rfl rfl (by omega) (by omega) (by omega) ?_; intro a3 c3 w3 ho3 hg3; have O3 := HBX.out.push (Below.refl _ _) ho3 hg3; have o3c := O3.1; have o3f := O3.2.1; have HO3 := Lib.hid O3.2.2; have HP3 := Lib.hid (HBX.out.other (Below.refl _ _) hg3 (.slice a3 (bs.length + 1) c3) HPO.out HPB2.out); clear O3 ho3 hg3)
              go_roundw
              case rel => exact ⟨k + 1, a3, c3, by go_num, by omega, by rw [HS1.out]; exact HO3, HP3, HAL2⟩
              case measure => simp [intOf]; omega
          · have h48 : y ≠ 48 := fun h => hbit (.inl h)
            have h49 : y ≠ 49 := fun h => hbit (.inr h)
            obtain ⟨rfl, rfl, rfl, rfl⟩ := HNO.out (by rw [HDEF2.out, HNO1.out h48 h49]; rfl)
            have e48b : ((y : Int) == 48) = false := beq_eq_false_iff_ne.2 (by omega)
            have e49b : ((y : Int) == 49) = false := beq_eq_false_iff_ne.2 (by omega)
            have e48 : ((y : Int) != 48) = true := by show (!((y : Int) == 48)) = true; rw [e48b]; rfl
            have e49 : ((y : Int) != 49) = true := by show (!((y : Int) == 49)) = true; rw [e49b]; rfl
            have r0 := HBX.out.res.cell (i := 0) (v := .int .i64 0) rfl
            have r1 := HBX.out.res.cell (i := 1) (v := .int .i64 0) rfl
            have r2 := HBX.out.res.cell (i := 2) (v := .slice none 0 0) rfl
            have q0 := HBX.out.res.free 0
            have q1 := HBX.out.res.free 1
            have q2 := HBX.out.res.free 2
            clear hbit h48 h49 hx
            go_wp2
            refine bodyPost_ret (v := .tuple #[.agg #[.int .i64 0, .int .i64 0, .slice none 0 0], .bool false]) (by simp [results, Tryd.results80, go_sem, r0, r1, r2]) rfl (retSie_no (((HBX.out.bel.setCell (by simp) _).setCell (by simp) _).setCell (by simp) _))
        · obtain rfl : k = T.size := by omega
          have hltz : ¬ (T.size : Int) < (T.size : Int) := by omega
          have hbo : bitsK T T.size = bitsOf T := rfl
          rw [hbo] at hbl HBX
          have hsl : (bitsOf T).length = T.size := bitsK_len _ _
          have h01 := is01_yes HAL.out
          have c0 := HBX.out.blk.cell (i := 0) (v := .int .i64 R) rfl
          have c1 := HBX.out.blk.cell (i := 1) (v := .int .i64 S) rfl
          have c2 := HBX.out.blk.cell (i := 2) (v := .slice a (bitsOf T).length c) rfl
          have HST := Lib.hid (l04Is_any HBX.out.own.rd (b := B) (o := 0) (R := R) (S := S) c0 c1 c2)
          rw [hsl] at HST c2
          have r0 := HBX.out.res.cell (i := 0) (v := .int .i64 0) rfl
          have r1 := HBX.out.res.cell (i := 1) (v := .int .i64 0) rfl
          have r2 := HBX.out.res.cell (i := 2) (v := .slice none 0 0) rfl
          have q0 := HBX.out.res.free 0
          have q1 := HBX.out.res.free 1
          have q2 := HBX.out.res.free 2
          clear hbl hbo
          cases h3 : sieveB R S T.size with
          | false =>
            rw [h3] at HST
            obtain ⟨rfl, rfl, rfl, rfl⟩ := HNO.out (by rw [HDEF2.out, h3]; simp)
            go_wp2_with fail
            refine HST.out.mono ?_
            rintro e w5 ⟨rfl, rfl⟩
            clear hsl
            go_wp2
            refine bodyPost_ret (v := .tuple #[.agg #[.int .i64 0, .int .i64 0, .slice none 0 0], .bool false]) (by simp [results, Tryd.results80, go_sem, r0, r1, r2]) rfl (retSie_no (((HBX.out.bel.setCell (by simp) _).setCell (by simp) _).setCell (by simp) _))
          | true =>
            rw [h3] at HST
            obtain ⟨rfl, h4, h5, h6⟩ := HYES2.out (by rw [HDEF2.out, h01, h3]; rfl)
            have HL : Hid (rl.length = T.size) := Lib.hid (by rw [h6]; exact hsl)
            have HO := Lib.hid HBX.out.own
            rw [← h6] at HO
            subst h4; subst h5
            go_wp2_with fail
            refine HST.out.mono ?_
            rintro e w5 ⟨rfl, rfl⟩
            clear h01 h6 hsl HDEF2 HYES2 HNO h3
            go_wp2
            refine bodyPost_ret (v := .tuple #[.agg #[.int .i64 rr, .int .i64 rs, .slice a T.size c], .bool true]) (by simp [results, Tryd.results80, go_sem, r0, r1, r2]) rfl ⟨a, c, by rw [HL.out], ?_, ((HBX.out.bel.setCell (by simp) _).setCell (by simp) _).setCell (by simp) _⟩
            have hlo := HBX.out.lo
            refine Own.mono (base := B + 1) ?_ (by omega)
            refine Own.setFar (Own.setFar (Own.setFar HO.out _ _ ?_) _ _ ?_) _ _ ?_
            all_goals (show w.heap.size < B + 1; omega)
    · have hok : ok = false := by
        rw [HDEF.out]
        cases hnb : nb with
        | false => simp
        | true =>
          have hl : ¬ xs.length = 2 := fun h => hgood ⟨hnb, h⟩
          rw [decide_eq_false hl]; simp
      obtain ⟨rfl, rfl, rfl, rfl⟩ := HNO.out hok
      have r0 := HI2.out.cell (i := 0) (v := .int .i64 0) rfl
      have r1 := HI2.out.cell (i := 1) (v := .int .i64 0) rfl
      have r2 := HI2.out.cell (i := 2) (v := .slice none 0 0) rfl
      have q0 := HI2.out.free 0
      have q1 := HI2.out.free 1
      have q2 := HI2.out.free 2
      cases hnb : nb with
      | false =>
        clear hgood hok HDEF HYES HNR
        go_wp2
        refine bodyPost_ret (v := .tuple #[.agg #[.int .i64 0, .int .i64 0, .slice none 0 0], .bool false]) (by simp [results, Tryd.results80, go_sem, r0, r1, r2]) rfl (retSie_no (((HB2.out.setCell (by simp) _).setCell (by simp) _).setCell (by simp) _))
      | true =>
      rw [hnb] at HNR
      obtain rfl := HNR.out rfl
      have hl : ¬ xr.length = 2 := fun h => hgood ⟨hnb, h⟩
      have hln : ((xr.length : Int) == 2) = false := beq_eq_false_iff_ne.2 (by omega)
      have hln2 : ((xr.length : Int) != 2) = true := by show (!((xr.length : Int) == 2)) = true; rw [hln]; rfl
      clear hgood hok HDEF HYES HNR
      go_wp2
      refine bodyPost_ret (v := .tuple #[.agg #[.int .i64 0, .int .i64 0, .slice none 0 0], .bool false]) (by simp [results, Tryd.results80, go_sem, r0, r1, r2]) rfl (retSie_no (((HB2.out.setCell (by simp) _).setCell (by simp) _).setCell (by simp) _))
  · have hok : ok = false := by
      rw [HDEF.out]
      cases hF : F with
      | false => simp
      | true =>
        cases h01 : is01 T with
        | false => simp
        | true => exact absurd (HP2.out.2 hF (is01_semi h01)) hl
    obtain ⟨rfl, rfl, rfl, rfl⟩ := HNO.out hok
    have r0 := HI1.out.cell (i := 0) (v := .int .i64 0) rfl
    have r1 := HI1.out.cell (i := 1) (v := .int .i64 0) rfl
    have r2 := HI1.out.cell (i := 2) (v := .slice none 0 0) rfl
    have q0 := HI1.out.free 0
    have q1 := HI1.out.free 1
    have q2 := HI1.out.free 2
    have hln : ((P.length : Int) == 2) = false := beq_eq_false_iff_ne.2 (by omega)
    have hln2 : ((P.length : Int) != 2) = true := by show (!((P.length : Int) == 2)) = true; rw [hln]; rfl
    clear hix
    go_wp2
    refine bodyPost_ret (v := .tuple #[.agg #[.int .i64 0, .int .i64 0, .slice none 0 0], .bool false]) (by simp [results, Tryd.results80, go_sem, r0, r1, r2]) rfl (retSie_no (((HB1.out.setCell (by simp) _).setCell (by simp) _).setCell (by simp) _))

set_option maxHeartbeats 1000000 in
theorem specRs_any {t : ByteArray} {w : World} (hs : t.size ≤ 1048576) :
    Calls Tryd.prog 38 #[.string t] w (RetSie w (rsR t) (rsS t) (rsL t) (rsB t)) := by
  have HB0 := Lib.hid ((Below.refl w.heap.size w).alloc (Nat.le_refl _) (.cells #[.int .i64 0, .int .i64 0, .slice none 0 0] 31))
  have HI0 : Hid (Blk (w.alloc (.cells #[.int .i64 0, .int .i64 0, .slice none 0 0] 31)) w.heap.size #[.int .i64 0, .int .i64 0, .slice none 0 0] 31) := Lib.hid (Blk.new _ _ _)
  have HC := Lib.hid (specReadSieve_any (t := t) (w := w.alloc (.cells #[.int .i64 0, .int .i64 0, .slice none 0 0] 31)) hs)
  generalize rsR t = R at HC ⊢
  generalize rsS t = S at HC ⊢
  generalize rsL t = bs at HC ⊢
  generalize rsB t = b at HC ⊢
  go_enter Tryd.func38, Tryd.ntmps38
  go_wp2_with fail
  refine HC.out.mono ?_
  rintro e w1 ⟨a, c, rfl, ho, hb1⟩
  have HB1 := Lib.hid (HB0.out.trans (hb1.mono HB0.out.size))
  have HI1 := HI0.out.below hb1 (Nat.le_refl _)
  have HO1 : Hid (Own Value.bool 4 w1 (w.heap.size + 1) a c bs) := Lib.hid (ho.mono (by simp))
  have r0 := HI1.cell (i := 0) (v := .int .i64 0) rfl
  have r1 := HI1.cell (i := 1) (v := .int .i64 0) rfl
  have r2 := HI1.cell (i := 2) (v := .slice none 0 0) rfl
  have q0 := HI1.free 0
  have q1 := HI1.free 1
  have q2 := HI1.free 2
  clear hb1 HB0 HI0 HI1 ho HC
  go_wp2
  refine bodyPost_ret (v := .tuple #[.agg #[.int .i64 R, .int .i64 S, .slice a bs.length c], .bool b]) (by simp [results, Tryd.results38, go_sem, r0, r1, r2]) rfl ⟨a, c, rfl, ?_, ((HB1.out.setCell (by simp) _).setCell (by simp) _).setCell (by simp) _⟩
  refine Own.mono (base := w.heap.size + 1) ?_ (by omega)
  refine Own.setFar (Own.setFar (Own.setFar HO1.out _ _ ?_) _ _ ?_) _ _ ?_
  all_goals simp

end Go.Proofs.YtockifchghllhaaDoor
