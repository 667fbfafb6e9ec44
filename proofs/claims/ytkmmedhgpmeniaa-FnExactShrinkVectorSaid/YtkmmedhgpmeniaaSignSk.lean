/- SignSketch, both texts. -/
import Derived.Test.YtkmmedhgpmeniaaKeys
namespace Go.Proofs.Ytkmmedhgpmeniaa
open Go.RowKit

/-- The rows, as far as the floats' bits are told. -/
def rowsM (v : List Nat) (ss : List Int) : List (Option Nat) := ss.map (rowC v)
def finM (l : List (Option Nat)) : Bool := l.all (fin .f32)
theorem fins_finM {O : List Nat} {l : List (Option Nat)} (h : O.map (cn .f32) = l) : fins O = finM l := by
  subst h
  simp [fins, finM, List.all_map, Function.comp_def]
theorem fin_some {o : Option Nat} (h : fin .f32 o = true) : ∃ b, o = some b := by
  cases o with
  | none => simp [fin] at h
  | some b => exact ⟨b, rfl⟩
/-- Finite numbers: their bits are told whole. -/
theorem finM_get {O : List Nat} {l : List (Option Nat)} (h : O.map (cn .f32) = l) (hf : finM l = true) : O = l.map (·.getD 0) := by
  subst h
  rw [List.map_map]
  have : ∀ x ∈ O, ((·.getD 0) ∘ cn .f32) x = x := by
    intro x hx
    have h1 : fin .f32 (cn .f32 x) = true := (List.all_eq_true.1 hf) _ (List.mem_map_of_mem hx)
    obtain ⟨b, hb⟩ := fin_some h1
    show (cn .f32 x).getD 0 = x
    rw [hb, Option.getD_some]
    exact ((cn_some hb).1).symm
  symm
  calc O.map ((·.getD 0) ∘ cn .f32) = O.map id := List.map_congr_left this
    _ = O := by simp

def skOk (v : List Nat) (ss : List Int) : Bool := isVec v && saltsB ss
def skB (v : List Nat) (ss : List Int) : Bool := skOk v ss && finM (rowsM v ss)
def skR (v : List Nat) (ss : List Int) : List Nat := if skB v ss then (rowsM v ss).map (·.getD 0) else []
theorem skR_len (v : List Nat) (ss : List Int) : (skR v ss).length ≤ 32 := by
  unfold skR
  split
  · rename_i h
    simp only [skB, skOk, Bool.and_eq_true] at h
    have := saltsB_len h.1.2
    simpa [rowsM] using this
  · simp
theorem skR_no {v : List Nat} {ss : List Int} (h : skB v ss = false) : skR v ss = [] := by simp [skR, h]
theorem rowsM_snoc {v : List Nat} {ss : List Int} {k : Nat} (h : k < ss.length) {O : List Nat} {r : Nat} (hO : O.map (cn .f32) = rowsM v (ss.take k)) (hr : cn .f32 r = rowC v ss[k]) :
    (O ++ [r]).map (cn .f32) = rowsM v (ss.take (k + 1)) := by
  unfold rowsM at hO ⊢
  rw [List.take_add_one, List.map_append, List.map_append, hO, List.getElem?_eq_getElem h]
  simp [hr]

theorem ifAllFinite_any {a : Option Addr} {c : Nat} {xs : List Nat} {w : World} (hr : Rd (Value.float .f32) w a c xs) :
    Calls Try.prog 72 #[.slice a xs.length c] w fun e w' => e = .returned (.tuple #[if fins xs then .slice a xs.length c else .slice none 0 0, .bool (fins xs)]) ∧ Below w.heap.size w w' := by
  cases h : fins xs with
  | false =>
    go_enter Try.func72, Try.ntmps72
    go_wp2_with fail
    refine (areFinite_any hr).mono ?_
    rintro e w1 ⟨rfl, hb1⟩
    go_wp2
    go_ret2
    exact ⟨rfl, hb1⟩
  | true =>
    go_enter Try.func72, Try.ntmps72
    go_wp2_with fail
    refine (areFinite_any hr).mono ?_
    rintro e w1 ⟨rfl, hb1⟩
    go_wp2
    go_ret2
    exact ⟨rfl, hb1⟩

set_option maxRecDepth 4000 in
set_option maxHeartbeats 2000000 in
theorem implSk_any {a1 a2 : Option Addr} {c1 c2 : Nat} {v : List Nat} {ss : List Int} {w : World} (hv : Rd (Value.float .f32) w a1 c1 v) (hs : Rd (Value.int .i64) w a2 c2 ss) :
    Calls Try.prog 53 #[.slice a1 v.length c1, .slice a2 ss.length c2] w (RetSB (Value.float .f32) 70 w (skR v ss) (skB v ss)) := by
  cases h1 : isVec v with
  | false =>
    have e2 : skB v ss = false := by simp [skB, skOk, h1]
    rw [skR_no e2, e2]
    clear e2
    go_enter Try.func53, Try.ntmps53
    go_wp2_with fail
    refine (isVector_any hv).mono ?_
    rintro e w1 ⟨rfl, hb1⟩
    go_wp2
    go_ret2
    exact retSB_no hb1
  | true =>
    cases h2 : saltsB ss with
    | false =>
      have e2 : skB v ss = false := by simp [skB, skOk, h2]
      rw [skR_no e2, e2]
      clear e2
      go_enter Try.func53, Try.ntmps53
      go_wp2_with fail
      refine (isVector_any hv).mono ?_
      rintro e w1 ⟨rfl, hb1⟩
      go_wp2_with fail
      refine (areSalts_any (hs.below hb1 (Nat.le_refl _))).mono ?_
      rintro e w2 ⟨rfl, hb2⟩
      go_wp2
      go_ret2
      exact retSB_no (hb1.trans (hb2.mono hb1.size))
    | true =>
      have hl32 := saltsB_len h2
      have hv32 := isVec_len h1
      have HK := Lib.hid (keysB_get (saltsB_keys h2))
      have H1 := Lib.hid h1
      have H2 := Lib.hid h2
      go_enter Try.func53, Try.ntmps53
      go_wp2_with fail
      refine (isVector_any hv).mono ?_
      rintro e w1 ⟨rfl, hb1⟩
      rw [h1]
      go_wp2_with fail
      refine (areSalts_any (hs.below hb1 (Nat.le_refl _))).mono ?_
      rintro e w2 ⟨rfl, hb2⟩
      rw [h2]
      have hbB := hb1.trans (hb2.mono hb1.size)
      clear hb1 hb2 h1 h2
      go_wp2_with fail
      go_loopw [6, 8, 20] (fun o _ i wr => ∃ (k : Nat) (a : Option Addr) (c : Nat) (O : List Nat), k ≤ ss.length ∧ i = .int .i64 k ∧ o = .slice a O.length c ∧ Own (Value.float .f32) 70 wr w.heap.size a c O ∧ Hid (O.map (cn .f32) = rowsM v (ss.take k)) ∧ O.length = k ∧ Below w.heap.size w wr) (fun _ _ i _ => ss.length - (intOf i).toNat)
      case atStart => exact ⟨0, _, _, [], Nat.zero_le _, rfl, rfl, own_empty w2 _ hbB.size rfl, by show _ = _; rfl, rfl, hbB.alloc hbB.size _⟩
      case round =>
        obtain ⟨k, a, c, O, hk, rfl, rfl, ho, HM, hOl, hb⟩ := hrel
        have HO := Lib.hid ho
        have HOL := Lib.hid hOl
        have hOk : O.length ≤ 32 := by omega
        have hz := hb.size
        clear ho hOl
        by_cases hlt : k < ss.length
        · have hsr := hs.below hb (Nat.le_refl _)
          have hix := hsr.idx und_is siz_is
          have hcx := hsr.cell k hlt
          simp only [List.getElem?_eq_getElem hlt, Option.getD_some] at hcx
          obtain ⟨s, hss⟩ : ∃ s, ss[k] = s := ⟨_, rfl⟩
          have hsb := HK.out k hlt
          rw [hss] at hcx hsb
          have HS := Lib.hid hss
          clear hss
          go_wp2_with fail
          refine (signRow_any (hv.below hb (Nat.le_refl _)) hsb.1 hsb.2 (by omega)).mono ?_
          rintro e w3 ⟨r, rfl, hr, hb3⟩
          have HR := Lib.hid hr
          have hb4 := hb.trans (hb3.mono hz)
          have ho4 := HO.out.below hb3 (Nat.le_refl _)
          have HO4 := Lib.hid ho4
          clear hr hb3 ho4
          have hz4 := hb4.size
          go_wp2_with (at_builtin; refine wpl_append1 (f := Value.float .f32) (d := 0) (base := w.heap.size) und_fse info_f (fun _ => rfl) _ HO4.out rfl _ _ rfl rfl rfl (by omega) (by omega) hz4 ?_; intro a3 c3 w5 ho3 hg3)
          have hb5 := hb4.trans (grown_belowOwn HO4.out hg3 (Nat.le_refl _) hz4)
          go_roundw
          case rel => exact ⟨k + 1, a3, c3, _, by omega, by go_num, by rw [List.length_append]; rfl, ho3, rowsM_snoc hlt HM.out (by rw [HS.out]; exact HR.out), by simp [HOL.out], hb5⟩
          case measure => simp [intOf]; omega
        · obtain rfl : k = ss.length := by omega
          have hM := HM.out
          rw [List.take_length] at hM
          have HF := Lib.hid (fins_finM hM)
          have HG := Lib.hid (finM_get hM)
          clear hM
          go_wp2_with fail
          refine (ifAllFinite_any HO.out.rd).mono ?_
          rintro e w3 ⟨rfl, hb3⟩
          have hb4 := hb.trans (hb3.mono hz)
          have HO4 := Lib.hid (HO.out.below hb3 (Nat.le_refl _))
          cases hf : fins O with
          | false =>
            have e2 : skB v ss = false := by simp [skB, ← HF.out, hf]
            go_wp2
            go_ret2
            rw [skR_no e2, e2]
            exact retSB_no hb4
          | true =>
            have hf2 : finM (rowsM v ss) = true := by rw [← HF.out, hf]
            have e2 : skB v ss = true := by simp [skB, skOk, H1.out, H2.out, hf2]
            have e1 : skR v ss = O := by rw [skR, if_pos e2, HG.out hf2]
            have E1 := Lib.hid e1
            have E2 := Lib.hid e2
            clear e1 e2 hf2
            go_wp2
            go_ret2
            rw [E1.out, E2.out]
            exact ⟨a, c, rfl, HO4.out, hb4⟩

set_option maxRecDepth 4000 in
set_option maxHeartbeats 2000000 in
theorem specSk_any {a1 a2 : Option Addr} {c1 c2 : Nat} {v : List Nat} {ss : List Int} {w : World} (hv : Rd (Value.float .f32) w a1 c1 v) (hs : Rd (Value.int .i64) w a2 c2 ss) :
    Calls Try.prog 52 #[.slice a1 v.length c1, .slice a2 ss.length c2] w (RetSB (Value.float .f32) 70 w (skR v ss) (skB v ss)) := by
  cases h1 : isVec v with
  | false =>
    have e2 : skB v ss = false := by simp [skB, skOk, h1]
    rw [skR_no e2, e2]
    clear e2
    go_enter Try.func52, Try.ntmps52
    go_wp2_with fail
    refine (l07Vector_any hv).mono ?_
    rintro e w1 ⟨rfl, hb1⟩
    go_wp2
    go_ret2
    exact retSB_no hb1
  | true =>
    cases h2 : saltsB ss with
    | false =>
      have e2 : skB v ss = false := by simp [skB, skOk, h2]
      rw [skR_no e2, e2]
      clear e2
      go_enter Try.func52, Try.ntmps52
      go_wp2_with fail
      refine (l07Vector_any hv).mono ?_
      rintro e w1 ⟨rfl, hb1⟩
      go_wp2_with fail
      refine (l07Salts_any (hs.below hb1 (Nat.le_refl _))).mono ?_
      rintro e w2 ⟨rfl, hb2⟩
      go_wp2
      go_ret2
      exact retSB_no (hb1.trans (hb2.mono hb1.size))
    | true =>
      have hl32 := saltsB_len h2
      have hv32 := isVec_len h1
      have HK := Lib.hid (keysB_get (saltsB_keys h2))
      have H1 := Lib.hid h1
      have H2 := Lib.hid h2
      go_enter Try.func52, Try.ntmps52
      go_wp2_with fail
      refine (l07Vector_any hv).mono ?_
      rintro e w1 ⟨rfl, hb1⟩
      rw [h1]
      go_wp2_with fail
      refine (l07Salts_any (hs.below hb1 (Nat.le_refl _))).mono ?_
      rintro e w2 ⟨rfl, hb2⟩
      rw [h2]
      have hbB := hb1.trans (hb2.mono hb1.size)
      clear hb1 hb2 h1 h2
      go_wp2_with fail
      go_loopw [6, 7, 19] (fun o _ i wr => ∃ (k : Nat) (a : Option Addr) (c : Nat) (O : List Nat), k ≤ ss.length ∧ i = .int .i64 k ∧ o = .slice a O.length c ∧ Own (Value.float .f32) 70 wr w.heap.size a c O ∧ Hid (O.map (cn .f32) = rowsM v (ss.take k)) ∧ O.length = k ∧ Below w.heap.size w wr) (fun _ _ i _ => ss.length - (intOf i).toNat)
      case atStart => exact ⟨0, _, _, [], Nat.zero_le _, rfl, rfl, own_empty w2 _ hbB.size rfl, by show _ = _; rfl, rfl, hbB.alloc hbB.size _⟩
      case round =>
        obtain ⟨k, a, c, O, hk, rfl, rfl, ho, HM, hOl, hb⟩ := hrel
        have HO := Lib.hid ho
        have HOL := Lib.hid hOl
        have hOk : O.length ≤ 32 := by omega
        have hz := hb.size
        clear ho hOl
        by_cases hlt : k < ss.length
        · have hsr := hs.below hb (Nat.le_refl _)
          have hix := hsr.idx und_is siz_is
          have hcx := hsr.cell k hlt
          simp only [List.getElem?_eq_getElem hlt, Option.getD_some] at hcx
          obtain ⟨s, hss⟩ : ∃ s, ss[k] = s := ⟨_, rfl⟩
          have hsb := HK.out k hlt
          rw [hss] at hcx hsb
          have HS := Lib.hid hss
          clear hss
          go_wp2_with fail
          refine (l07Row_any (hv.below hb (Nat.le_refl _)) hsb.1 hsb.2 (by omega)).mono ?_
          rintro e w3 ⟨r, rfl, hr, hb3⟩
          have HR := Lib.hid hr
          have hb4 := hb.trans (hb3.mono hz)
          have ho4 := HO.out.below hb3 (Nat.le_refl _)
          have HO4 := Lib.hid ho4
          clear hr hb3 ho4
          have hz4 := hb4.size
          go_wp2_with (at_builtin; refine wpl_append1 (f := Value.float .f32) (d := 0) (base := w.heap.size) und_fse info_f (fun _ => rfl) _ HO4.out rfl _ _ rfl rfl rfl (by omega) (by omega) hz4 ?_; intro a3 c3 w5 ho3 hg3)
          have hb5 := hb4.trans (grown_belowOwn HO4.out hg3 (Nat.le_refl _) hz4)
          go_roundw
          case rel => exact ⟨k + 1, a3, c3, _, by omega, by go_num, by rw [List.length_append]; rfl, ho3, rowsM_snoc hlt HM.out (by rw [HS.out]; exact HR.out), by simp [HOL.out], hb5⟩
          case measure => simp [intOf]; omega
        · obtain rfl : k = ss.length := by omega
          have hM := HM.out
          rw [List.take_length] at hM
          have HF := Lib.hid (fins_finM hM)
          have HG := Lib.hid (finM_get hM)
          clear hM
          go_wp2_with fail
          refine (l02Finite_any HO.out.rd).mono ?_
          rintro e w3 ⟨rfl, hb3⟩
          have hb4 := hb.trans (hb3.mono hz)
          have HO4 := Lib.hid (HO.out.below hb3 (Nat.le_refl _))
          cases hf : fins O with
          | false =>
            have e2 : skB v ss = false := by simp [skB, ← HF.out, hf]
            go_wp2
            go_ret2
            rw [skR_no e2, e2]
            exact retSB_no hb4
          | true =>
            have hf2 : finM (rowsM v ss) = true := by rw [← HF.out, hf]
            have e2 : skB v ss = true := by simp [skB, skOk, H1.out, H2.out, hf2]
            have e1 : skR v ss = O := by rw [skR, if_pos e2, HG.out hf2]
            have E1 := Lib.hid e1
            have E2 := Lib.hid e2
            clear e1 e2 hf2
            go_wp2
            go_ret2
            rw [E1.out, E2.out]
            exact ⟨a, c, rfl, HO4.out, hb4⟩

end Go.Proofs.Ytkmmedhgpmeniaa
