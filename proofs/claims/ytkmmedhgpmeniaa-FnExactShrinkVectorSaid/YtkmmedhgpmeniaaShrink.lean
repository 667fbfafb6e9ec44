/- ShrinkVector, both texts. -/
import Derived.Test.YtkmmedhgpmeniaaSignSk
import Derived.Test.YtkmmedhgpmeniaaRoot
namespace Go.Proofs.Ytkmmedhgpmeniaa
open Go.RowKit

def byC (n : Nat) : Option Nat := fbin .quo .f32 (some 1065353216) (rootC (cn .f32 (floatOfInt .f32 (n : Int))))
theorem cn_one : cn .f32 1065353216 = some 1065353216 := by kernel_rfl
def shF (b : Option Nat) (x : Nat) : Option Nat := fbin .mul .f32 (cn .f32 x) b
def shM (v : List Nat) (ss : List Int) : List (Option Nat) := (skR v ss).map (shF (byC ss.length))
def shB (v : List Nat) (ss : List Int) : Bool := skB v ss && finM (shM v ss)
def shR (v : List Nat) (ss : List Int) : List Nat := if shB v ss then (shM v ss).map (·.getD 0) else []
theorem shR_len (v : List Nat) (ss : List Int) : (shR v ss).length ≤ 32 := by
  have := skR_len v ss
  unfold shR
  split
  · simpa [shM] using this
  · simp
theorem shR_no {v : List Nat} {ss : List Int} (h : shB v ss = false) : shR v ss = [] := by simp [shR, h]
theorem shF_snoc {L : List Nat} {b : Option Nat} {k : Nat} (h : k < L.length) {Q : List Nat} {r : Nat} (hQ : Q.map (cn .f32) = (L.take k).map (shF b)) (hr : cn .f32 r = shF b L[k]) :
    (Q ++ [r]).map (cn .f32) = (L.take (k + 1)).map (shF b) := by
  rw [List.take_add_one, List.map_append, List.map_append, hQ, List.getElem?_eq_getElem h]
  simp [hr]
theorem set_mid {L Q : List Nat} {k : Nat} (hk : k < L.length) (hQ : Q.length = k) (r : Nat) : (Q ++ L.drop k).set k r = (Q ++ [r]) ++ L.drop (k + 1) := by
  subst hQ
  rw [List.set_append_right _ _ (Nat.le_refl _), Nat.sub_self, List.drop_eq_getElem_cons hk, List.set_cons_zero]
  simp

set_option maxRecDepth 4000 in
set_option maxHeartbeats 2000000 in
theorem implSh_any {a1 a2 : Option Addr} {c1 c2 : Nat} {v : List Nat} {ss : List Int} {w : World} (hv : Rd (Value.float .f32) w a1 c1 v) (hs : Rd (Value.int .i64) w a2 c2 ss) :
    Calls Try.prog 31 #[.slice a1 v.length c1, .slice a2 ss.length c2] w (RetSB (Value.float .f32) 70 w (shR v ss) (shB v ss)) := by
  have hls := hs.len
  obtain ⟨L, hL⟩ : ∃ L, skR v ss = L := ⟨_, rfl⟩
  obtain ⟨b, hB⟩ : ∃ b, skB v ss = b := ⟨_, rfl⟩
  have hl : L.length ≤ 32 := by rw [← hL]; exact skR_len v ss
  have HN : b = false → L = [] := by intro h; rw [← hL]; exact skR_no (hB.trans h)
  have HLL := Lib.hid hL
  have HBB := Lib.hid hB
  have HN := Lib.hid HN
  clear hL hB
  go_enter Try.func31, Try.ntmps31
  go_wp2_with fail
  refine (implSk_any hv hs).mono ?_
  rintro e w1 ⟨a, c, rfl, ho, hb⟩
  rw [HLL.out] at ho
  rw [HLL.out, HBB.out]
  cases b with
  | false =>
    obtain rfl := HN.out rfl
    have e2 : shB v ss = false := by simp [shB, HBB.out]
    go_wp2
    go_ret2
    rw [shR_no e2, e2]
    exact retSB_no hb
  | true =>
    have HO := Lib.hid ho
    have hsz := hb.size
    clear ho
    go_wp2_with fail
    refine rootNumber_any.mono ?_
    rintro e w2 ⟨r, rfl, hr, hb2⟩
    have HR := Lib.hid hr
    have HB2 := Lib.hid (hb.trans (hb2.mono hb.size))
    have HO2 := Lib.hid (HO.out.below hb2 (Nat.le_refl _))
    clear hr hb hb2 HO hsz
    go_wp2_with (refine wpl_fbin rfl _ _ _ _ _ rfl rfl .f32 _ _ rfl rfl ?_; rintro q w' ⟨n, rfl⟩ hq)
    have HQ : Hid (cn .f32 q = byC ss.length) := by
      show _ = _
      rw [hq, HR.out, cn_one]; rfl
    have HB3 := Lib.hid (HB2.out.trans (below_of_drewN w2 n _))
    have HO3 := Lib.hid (HO2.out.drewN n)
    clear hq HR HB2 HO2
    generalize w2.drewN n = w3 at HB3 HO3 ⊢
    obtain ⟨bq, hbq⟩ : ∃ z, byC ss.length = z := ⟨_, rfl⟩
    have HBQ := Lib.hid hbq
    rw [hbq] at HQ
    clear hbq
    have hsf := @run_store_fl Try.prog
    go_wp2_with fail
    go_loopw [9, 25] (fun _ i wr => ∃ (k : Nat) (Q : List Nat), k ≤ L.length ∧ i = .int .i64 k ∧ Q.length = k ∧ Hid (Q.map (cn .f32) = (L.take k).map (shF bq)) ∧ Own (Value.float .f32) 70 wr w.heap.size a c (Q ++ L.drop k) ∧ Below w.heap.size w wr) (fun _ i _ => L.length - (intOf i).toNat)
    case atStart => exact ⟨0, [], Nat.zero_le _, rfl, rfl, by show _ = _; rfl, HO3.out, HB3.out⟩
    case round =>
      obtain ⟨k, Q, hk, rfl, hQl, HM, ho, hbr⟩ := hrel
      have hln : (Q ++ L.drop k).length = L.length := by simp; omega
      by_cases hlt : k < L.length
      · have hio := ho.idx und_fs siz_fs
        rw [hln] at hio
        have hcs := ho.cell k (by omega)
        have hfz := ho.free k (by omega)
        have e1 : (Q ++ L.drop k)[k]'(by omega) = L[k] := by
          rw [List.getElem_append_right (by omega)]
          simp [hQl]
        rw [e1] at hcs
        obtain ⟨x, hx⟩ : ∃ x, L[k] = x := ⟨_, rfl⟩
        rw [hx] at hcs
        have HX := Lib.hid hx
        have HOO := Lib.hid ho
        have HLN := Lib.hid hln
        have HQL := Lib.hid hQl
        clear hx ho hln hQl e1
        go_wp2_with (refine wpl_fbin rfl _ _ _ _ _ rfl rfl .f32 _ _ rfl rfl ?_; rintro q2 w' ⟨n2, rfl⟩ hq2)
        have hst := (HOO.out.drewN n2).set k (by rw [HLN.out]; exact hlt) q2
        rw [set_mid hlt HQL.out] at hst
        have HG := Lib.hid (grown_belowOwn (HOO.out.drewN n2) hst.2 (Nat.le_refl _) (by simpa using hbr.size))
        have HS := Lib.hid hst.1
        clear hst
        go_roundw
        case rel => exact ⟨k + 1, Q ++ [q2], by omega, by go_num, by simp [HQL.out], shF_snoc hlt HM.out (by rw [hq2, HQ.out, HX.out]; rfl), HS.out, (hbr.trans (below_of_drewN _ _ _)).trans HG.out⟩
        case measure => simp [intOf]; omega
      · obtain rfl : k = L.length := by omega
        have hO : Own (Value.float .f32) 70 wr w.heap.size a c Q := ho.cast (by simp)
        have hM := HM.out
        rw [List.take_length] at hM
        have hM2 : Q.map (cn .f32) = shM v ss := by rw [hM, shM, HLL.out, HBQ.out]
        have HF := Lib.hid (fins_finM hM2)
        have HG := Lib.hid (finM_get hM2)
        have HOO := Lib.hid hO
        have HQL := Lib.hid hQl
        have hz := hbr.size
        clear hM hM2 ho hO hln hQl
        go_wp2_with fail
        rw [← HQL.out]
        refine (ifAllFinite_any HOO.out.rd).mono ?_
        rintro e w4 ⟨rfl, hb4⟩
        have hb5 := hbr.trans (hb4.mono hz)
        have HO5 := Lib.hid (HOO.out.below hb4 (Nat.le_refl _))
        cases hf : fins Q with
        | false =>
          have e2 : shB v ss = false := by simp [shB, ← HF.out, hf]
          go_wp2
          go_ret2
          rw [shR_no e2, e2]
          exact retSB_no hb5
        | true =>
          have hf2 : finM (shM v ss) = true := by rw [← HF.out, hf]
          have e2 : shB v ss = true := by simp [shB, HBB.out, hf2]
          have e1 : shR v ss = Q := by rw [shR, if_pos e2, HG.out hf2]
          have E1 := Lib.hid e1
          have E2 := Lib.hid e2
          clear e1 e2 hf2
          go_wp2
          go_ret2
          rw [E1.out, E2.out]
          exact ⟨a, c, rfl, HO5.out, hb5⟩

set_option maxRecDepth 4000 in
set_option maxHeartbeats 2000000 in
theorem specSh_any {a1 a2 : Option Addr} {c1 c2 : Nat} {v : List Nat} {ss : List Int} {w : World} (hv : Rd (Value.float .f32) w a1 c1 v) (hs : Rd (Value.int .i64) w a2 c2 ss) :
    Calls Try.prog 30 #[.slice a1 v.length c1, .slice a2 ss.length c2] w (RetSB (Value.float .f32) 70 w (shR v ss) (shB v ss)) := by
  have hls := hs.len
  obtain ⟨L, hL⟩ : ∃ L, skR v ss = L := ⟨_, rfl⟩
  obtain ⟨b, hB⟩ : ∃ b, skB v ss = b := ⟨_, rfl⟩
  have hl : L.length ≤ 32 := by rw [← hL]; exact skR_len v ss
  have HN : b = false → L = [] := by intro h; rw [← hL]; exact skR_no (hB.trans h)
  have HLL := Lib.hid hL
  have HBB := Lib.hid hB
  have HN := Lib.hid HN
  clear hL hB
  go_enter Try.func30, Try.ntmps30
  go_wp2_with fail
  refine (specSk_any hv hs).mono ?_
  rintro e w1 ⟨a, c, rfl, ho, hb⟩
  rw [HLL.out] at ho
  rw [HLL.out, HBB.out]
  cases b with
  | false =>
    obtain rfl := HN.out rfl
    have e2 : shB v ss = false := by simp [shB, HBB.out]
    go_wp2
    go_ret2
    rw [shR_no e2, e2]
    exact retSB_no hb
  | true =>
    have HO := Lib.hid ho
    have hsz := hb.size
    clear ho
    go_wp2_with fail
    refine l01Sqrt_any.mono ?_
    rintro e w2 ⟨r, rfl, hr, hb2⟩
    have HR := Lib.hid hr
    have HB2 := Lib.hid (hb.trans (hb2.mono hb.size))
    have HO2 := Lib.hid (HO.out.below hb2 (Nat.le_refl _))
    clear hr hb hb2 HO hsz
    go_wp2_with (refine wpl_fbin rfl _ _ _ _ _ rfl rfl .f32 _ _ rfl rfl ?_; rintro q w' ⟨n, rfl⟩ hq)
    have HQ : Hid (cn .f32 q = byC ss.length) := by
      show _ = _
      rw [hq, HR.out, cn_one]; rfl
    have HB3 := Lib.hid (HB2.out.trans (below_of_drewN w2 n _))
    have HO3 := Lib.hid (HO2.out.drewN n)
    clear hq HR HB2 HO2
    obtain ⟨bq, hbq⟩ : ∃ z, byC ss.length = z := ⟨_, rfl⟩
    have HBQ := Lib.hid hbq
    rw [hbq] at HQ
    clear hbq
    go_wp2_with fail
    go_loopw [9, 10, 27] (fun o _ i wr => ∃ (k : Nat) (a' : Option Addr) (c' : Nat) (Q : List Nat), k ≤ L.length ∧ i = .int .i64 k ∧ o = .slice a' Q.length c' ∧ Q.length = k ∧ Hid (Q.map (cn .f32) = (L.take k).map (shF bq)) ∧ Own (Value.float .f32) 70 wr (w2.drewN n).heap.size a' c' Q ∧ Below (w2.drewN n).heap.size (w2.drewN n) wr) (fun _ _ i _ => L.length - (intOf i).toNat)
    case atStart => exact ⟨0, _, _, [], Nat.zero_le _, rfl, rfl, rfl, by show _ = _; rfl, own_empty (w2.drewN n) _ (Nat.le_refl _) rfl, (Below.refl _ _).alloc (Nat.le_refl _) _⟩
    case round =>
      obtain ⟨k, a', c', Q, hk, rfl, rfl, hQl, HM, ho, hbr⟩ := hrel
      have HOO := Lib.hid ho
      have HQL := Lib.hid hQl
      have hQ32 : Q.length ≤ 32 := by omega
      have hz := hbr.size
      have hxr := HO3.out.rd.below hbr (Nat.le_refl _)
      clear ho hQl
      by_cases hlt : k < L.length
      · have hix := hxr.idx und_fs siz_fs
        have hcx := hxr.cell k hlt
        simp only [List.getElem?_eq_getElem hlt, Option.getD_some] at hcx
        obtain ⟨x, hx⟩ : ∃ x, L[k] = x := ⟨_, rfl⟩
        rw [hx] at hcx
        have HX := Lib.hid hx
        clear hx hxr
        go_wp2_with (first
          | (refine wpl_fbin rfl _ _ _ _ _ rfl rfl .f32 _ _ rfl rfl ?_; rintro q2 w' ⟨n2, rfl⟩ hq2; have HQ2 := Lib.hid hq2; clear hq2; have hb4 := hbr.trans (below_of_drewN wr n2 (w2.drewN n).heap.size); have HO4 := Lib.hid (HOO.out.drewN n2); clear hcx; generalize wr.drewN n2 = w4 at hb4 HO4 ⊢; have hz4 := hb4.size)
          | (at_builtin; refine wpl_append1 (f := Value.float .f32) (d := 0) (base := (w2.drewN n).heap.size) und_fse info_f (fun _ => rfl) _ HO4.out rfl _ _ rfl rfl rfl (by omega) (by omega) hz4 ?_; intro a3 c3 w5 ho3 hg3))
        have hb5 := hb4.trans (grown_belowOwn HO4.out hg3 (Nat.le_refl _) hz4)
        go_roundw
        case rel => exact ⟨k + 1, a3, c3, _, by omega, by go_num, by rw [List.length_append]; rfl, by simp [HQL.out], shF_snoc hlt HM.out (by rw [HQ2.out, HQ.out, HX.out]; rfl), ho3, hb5⟩
        case measure => simp [intOf]; omega
      · obtain rfl : k = L.length := by omega
        have hM := HM.out
        rw [List.take_length] at hM
        have hM2 : Q.map (cn .f32) = shM v ss := by rw [hM, shM, HLL.out, HBQ.out]
        have HF := Lib.hid (fins_finM hM2)
        have HG := Lib.hid (finM_get hM2)
        have hb4 := HB3.out.trans (hbr.mono HB3.out.size)
        clear hM hM2 hxr
        go_wp2_with fail
        refine (l02Finite_any HOO.out.rd).mono ?_
        rintro e w4 ⟨rfl, hb5⟩
        have hb6 := hb4.trans (hb5.mono hb4.size)
        have HO5 := Lib.hid ((HOO.out.below hb5 (Nat.le_refl _)).mono HB3.out.size)
        cases hf : fins Q with
        | false =>
          have e2 : shB v ss = false := by simp [shB, ← HF.out, hf]
          go_wp2
          go_ret2
          rw [shR_no e2, e2]
          exact retSB_no hb6
        | true =>
          have hf2 : finM (shM v ss) = true := by rw [← HF.out, hf]
          have e2 : shB v ss = true := by simp [shB, HBB.out, hf2]
          have e1 : shR v ss = Q := by rw [shR, if_pos e2, HG.out hf2]
          have E1 := Lib.hid e1
          have E2 := Lib.hid e2
          clear e1 e2 hf2
          go_wp2
          go_ret2
          rw [E1.out, E2.out]
          exact ⟨a', c', rfl, HO5.out, hb6⟩

end Go.Proofs.Ytkmmedhgpmeniaa
