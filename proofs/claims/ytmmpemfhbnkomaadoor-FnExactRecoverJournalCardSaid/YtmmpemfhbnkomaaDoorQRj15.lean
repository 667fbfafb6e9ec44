/- Numbers as texts, in both texts. -/
import Derived.Test.YtmmpemfhbnkomaaDoorQRj11
import Derived.Test.YtmmpemfhbnkomaaDoorQRj9
import Derived.Lib.LaidTab
import Derived.Lib.AppendIntMem
set_option linter.unusedVariables false
set_option linter.unusedSimpArgs false
namespace Go.Proofs.YtmmpemfhbnkomaaDoor
open Go.RowKit

/-- The library's table of powers in its variable. -/
def PTab (w : World) : Prop := Lib.TabIs Tryd.prog w "internal/strconv.uint64pow10" .u64 Lib.pow10Tab
theorem PTab.below {w w' : World} (h : PTab w) {B : Nat} (hb : Below B w w') (hB : w.heap.size ≤ B) : PTab w' := by
  unfold PTab Lib.TabIs World.var? at *
  have hg : Tryd.prog.globalNamed "internal/strconv.uint64pow10" = some 3 := by kernel_rfl
  rw [hg] at h ⊢
  simp only [Option.bind_some] at h ⊢
  cases hh : w.heap[3]? with
  | none => rw [hh] at h; simp at h
  | some o =>
    have hlt : 3 < w.heap.size := (Array.getElem?_eq_some_iff.1 hh).1
    rw [hb.block _ (by omega)]
    exact h

/-- A number's text. -/
def decT (n : Int) : ByteArray := ⟨(Lib.itoa n).toArray⟩
theorem decimal_any {n : Int} {w : World} (hT : PTab w) (h0 : -9223372036854775808 ≤ n) (h1 : n ≤ 9223372036854775807) :
    Calls Tryd.prog 51 #[.int .i64 n] w fun e w' => e = .returned (.string (decT n)) ∧ Below w.heap.size w w' := by
  have HC := Lib.hid (Tryd.strconv_FormatInt_10 n h0 h1 w hT)
  go_enter Tryd.func51, Tryd.ntmps51
  go_wp2_with fail
  refine HC.out.mono ?_
  rintro e w1 ⟨rfl, k, os, hw⟩
  have hb1 : Below w.heap.size w w1 := by rw [hw]; exact Lib.below_grow _ w (Nat.le_refl _) k os
  have HB1 := Lib.hid hb1
  clear hb1 hw
  go_wp2
  go_ret
  exact ⟨rfl, HB1.out⟩

def bI (l : List UInt8) : List Int := l.map fun b => (b.toNat : Int)
theorem strOf_bI (l : List UInt8) : strOf (bI l) = ⟨l.toArray⟩ := by
  unfold strOf bI
  rw [foldl_push_byteCells]
  have : ByteArray.empty.data = #[] := rfl
  rw [this]
  simp
theorem decT_str (n : Int) : decT n = strOf (bI (Lib.itoa n)) := (strOf_bI _).symm
theorem bI_len (l : List UInt8) : (bI l).length = l.length := by unfold bI; simp
theorem dig_bI {x : Nat} (h : x < 10) : ((UInt8.ofNat (48 + x)).toNat : Int) = 48 + (x : Int) := by
  rw [UInt8.toNat_ofNat_of_lt' (by show 48 + x < 256; omega)]; omega
/-- Where the digits of n are told down to r: what is told is out. -/
def DigInv (n r : Int) (out : List Int) : Prop := (out = [] ∧ r = n) ∨ (out ≠ [] ∧ bI (Lib.decDigits n.natAbs) = (if r = 0 then [] else bI (Lib.decDigits r.natAbs)) ++ out)
theorem digInv_step {n r : Int} {out : List Int} (h : DigInv n r out) (hr : out = [] ∨ r ≠ 0) : DigInv n (r.tdiv 10) ((48 + ((r.tmod 10).natAbs : Int)) :: out) := by
  have hu : (r.tdiv 10).natAbs = r.natAbs / 10 := by rw [Int.natAbs_tdiv]; rfl
  have hm : (r.tmod 10).natAbs = r.natAbs % 10 := by rw [Int.natAbs_tmod]; rfl
  have hz : r.tdiv 10 = 0 ↔ r.natAbs < 10 := by
    rw [← Int.natAbs_eq_zero, hu]; omega
  right
  refine ⟨by simp, ?_⟩
  have hbase : bI (Lib.decDigits n.natAbs) = bI (Lib.decDigits r.natAbs) ++ out := by
    rcases h with ⟨rfl, rfl⟩ | ⟨ho, h⟩
    · simp
    · rcases hr with e | e
      · exact absurd e ho
      · rw [h, if_neg e]
  rw [hbase, hm]
  by_cases hs : r.natAbs < 10
  · rw [if_pos (hz.2 hs), Lib.decDigits_one hs]
    have : r.natAbs % 10 = r.natAbs := Nat.mod_eq_of_lt hs
    rw [this]
    simp only [bI, List.map_cons, List.map_nil, List.nil_append, dig_bI hs]
    rfl
  · rw [if_neg (fun e => hs (hz.1 e)), hu]
    conv => lhs; rw [Lib.decDigits, dif_neg hs]
    have hd := dig_bI (x := r.natAbs % 10) (by omega)
    simp only [bI, List.map_append, List.map_cons, List.map_nil, hd]
    simp [List.append_assoc]
theorem digInv_done {n : Int} {out : List Int} (h : DigInv n 0 out) (ho : out ≠ []) : out = bI (Lib.decDigits n.natAbs) := by
  rcases h with ⟨e, _⟩ | ⟨_, h⟩
  · exact absurd e ho
  · rw [if_pos rfl] at h; simpa using h.symm
theorem itoa_neg {n : Int} (h : n < 0) : bI (Lib.itoa n) = 45 :: bI (Lib.decDigits n.natAbs) := by
  unfold Lib.itoa; rw [if_pos h]; rfl
theorem itoa_pos {n : Int} (h : ¬ n < 0) : bI (Lib.itoa n) = bI (Lib.decDigits n.natAbs) := by
  unfold Lib.itoa; rw [if_neg h, show n.toNat = n.natAbs by omega]
theorem itoa_len (n : Int) : 1 ≤ (Lib.itoa n).length := by
  unfold Lib.itoa
  split
  · simp
  · rw [Lib.decDigits_length]; unfold Lib.nDigits; split <;> omega
theorem len_ok {r : Int} {k : Nat} (hr : r ≠ 0) (h : r.natAbs * 10 ^ k ≤ 9223372036854775808) : k ≤ 18 := by
  rcases Nat.lt_or_ge k 19 with hk | hk
  · omega
  · have h1 : 10 ^ 19 ≤ 10 ^ k := Nat.pow_le_pow_right (by decide) hk
    have h2 : 1 * 10 ^ k ≤ r.natAbs * 10 ^ k := Nat.mul_le_mul_right _ (by omega)
    have h3 : (10 : Nat) ^ 19 = 10000000000000000000 := by decide
    omega
theorem len_step {r : Int} {k : Nat} (h : r.natAbs * 10 ^ k ≤ 9223372036854775808) : (r.tdiv 10).natAbs * 10 ^ (k + 1) ≤ 9223372036854775808 := by
  have hu : (r.tdiv 10).natAbs = r.natAbs / 10 := by rw [Int.natAbs_tdiv]; rfl
  rw [hu, Nat.pow_succ, Nat.mul_comm (10 ^ k) 10, ← Nat.mul_assoc]
  exact Nat.le_trans (Nat.mul_le_mul_right _ (Nat.div_mul_le_self _ _)) h
def lenOf : Value → Nat
  | .slice _ n _ => n
  | _ => 0

set_option maxHeartbeats 2000000 in
theorem l01Dec_any {n : Int} {w : World} (h0 : -9223372036854775808 ≤ n) (h1 : n ≤ 9223372036854775807) :
    Calls Tryd.prog 48 #[.int .i64 n] w fun e w' => e = .returned (.string (decT n)) ∧ Below w.heap.size w w' := by
  have HSTEP : Hid (∀ r out, DigInv n r out → (out = [] ∨ r ≠ 0) → DigInv n (r.tdiv 10) ((48 + ((r.tmod 10).natAbs : Int)) :: out)) := Lib.hid (fun r out h hr => digInv_step h hr)
  have HDONE : Hid (∀ out, DigInv n 0 out → out ≠ [] → out = bI (Lib.decDigits n.natAbs)) := Lib.hid (fun out h ho => digInv_done h ho)
  have HINI : Hid (DigInv n n []) := Lib.hid (.inl ⟨rfl, rfl⟩)
  obtain ⟨res, hres⟩ : ∃ r, decT n = r := ⟨_, rfl⟩
  have HNEG : Hid (n < 0 → res = strOf (45 :: bI (Lib.decDigits n.natAbs))) := Lib.hid (fun h => by rw [← hres, decT_str, itoa_neg h])
  have HPOS : Hid (¬ n < 0 → res = strOf (bI (Lib.decDigits n.natAbs))) := Lib.hid (fun h => by rw [← hres, decT_str, itoa_pos h])
  rw [hres]
  generalize bI (Lib.decDigits n.natAbs) = DD at HDONE HNEG HPOS
  generalize DigInv n = IV at HSTEP HDONE HINI
  have HB0 := Lib.hid ((Below.refl w.heap.size w).alloc (Nat.le_refl _) (.cells #[] 5))
  have HO0 : Hid (Own (Value.int .u8) 5 (w.alloc (.cells #[] 5)) w.heap.size (some ⟨w.heap.size, 0, none⟩) 0 []) := Lib.hid (own_empty w _ (Nat.le_refl _) rfl)
  clear hres
  go_enter Tryd.func48, Tryd.ntmps48
  go_wp2
  go_loopw [3, 4, 5] (fun oi ri _ wr => ∃ (r : Int) (a : Option Addr) (c : Nat) (out : List Int), ri = .int .i64 r ∧ oi = .slice a out.length c ∧ out.length ≤ 19 ∧ -9223372036854775808 ≤ r ∧ r ≤ 9223372036854775807 ∧ Hid (r.natAbs * 10 ^ out.length ≤ 9223372036854775808) ∧ Hid (IV r out) ∧ Hid (Own (Value.int .u8) 5 wr w.heap.size a c out ∧ Below w.heap.size w wr)) (fun oi ri _ _ => (intOf ri).natAbs + (if lenOf oi = 0 then 1 else 0))
  case atStart => exact ⟨n, _, _, [], rfl, rfl, by simp, h0, h1, Lib.hid (by simp; omega), HINI, Lib.hid ⟨HO0.out, HB0.out⟩⟩
  case round =>
    clear HO0 HB0 HINI
    obtain ⟨r, a, c, out, rfl, rfl, hol, hr0, hr1, HLN, HIV, HI⟩ := hrel
    have hbw : w.heap.size ≤ wr.heap.size := HI.out.2.size
    by_cases he : out = []
    · subst he
      have hst := HSTEP.out r [] HIV.out (.inl rfl)
      have hls := len_step HLN.out
      clear hol HLN HIV
      obtain ⟨q, hq⟩ : ∃ q, r.tdiv 10 = q := ⟨_, rfl⟩
      obtain ⟨dd, hd⟩ : ∃ d, r.tmod 10 = d := ⟨_, rfl⟩
      have hqa : q.natAbs = r.natAbs / 10 := by rw [← hq, Int.natAbs_tdiv]; rfl
      have hda : dd.natAbs = r.natAbs % 10 := by rw [← hd, Int.natAbs_tmod]; rfl
      rw [hq, hd] at hst
      rw [hq] at hls
      have HST := Lib.hid hst
      have HLS := Lib.hid hls
      have HQA := Lib.hid hqa
      have hdb : -10 < dd ∧ dd < 10 := by omega
      have hqb : -9223372036854775808 ≤ q ∧ q ≤ 9223372036854775807 := by omega
      obtain ⟨v, hv⟩ : ∃ v, 48 + (dd.natAbs : Int) = v := ⟨_, rfl⟩
      rw [hv] at HST
      have e1 : IntKind.i64.wrap dd = dd := IntWalk.i64_in _ (by omega)
      have e2 : IntKind.i64.wrap (-dd) = -dd := IntWalk.i64_in _ (by omega)
      have e3 : IntKind.i64.wrap q = q := IntWalk.i64_in _ hqb
      have e5 : IntKind.i64.wrap v = v := IntWalk.i64_in _ (by omega)
      have e6 : IntKind.u8.wrap v = v := by rw [IntKind.wrap_u8']; omega
      clear hst hls hqa hda
      by_cases hneg : dd < 0
      · have hdn : decide (dd < 0) = true := decide_eq_true hneg
        have e4 : (48 : Int) + -dd = v := by omega
        have e4' : (48 : Int) - dd = v := by omega
        clear hv hneg
        go_wp2_with (at_builtin; refine wpl_appendN (f := Value.int .u8) (d := 0) (base := w.heap.size) und_ye info_y (fun _ => rfl) (own_lit wr w.heap.size [v] hbw (by simp [maxLen])) (HI.out.1.alloc _).rd rfl _ _ rfl rfl rfl (by simp) (by simp <;> omega) (by omega) (by simp <;> omega) ?_; intro a3 c3 w3 ho3 hg3; have HO3 := Lib.hid ho3; have HB3 := Lib.hid ((HI.out.2.alloc hbw _).trans (grown_belowOwn (own_lit wr w.heap.size [v] hbw (by simp [maxLen])) hg3 (Nat.le_refl _) (by simp <;> omega))); clear ho3 hg3)
        go_roundw
        case rel => exact ⟨q, a3, c3, v :: [], rfl, by simp <;> omega, by simp <;> omega, hqb.1, hqb.2, HLS, HST, Lib.hid ⟨HO3.out, HB3.out⟩⟩
        case measure => have := HQA.out; simp [intOf, lenOf] <;> omega
      · have hdn : decide (dd < 0) = false := decide_eq_false hneg
        have e4 : (48 : Int) + dd = v := by omega
        clear hv hneg
        go_wp2_with (at_builtin; refine wpl_appendN (f := Value.int .u8) (d := 0) (base := w.heap.size) und_ye info_y (fun _ => rfl) (own_lit wr w.heap.size [v] hbw (by simp [maxLen])) (HI.out.1.alloc _).rd rfl _ _ rfl rfl rfl (by simp) (by simp <;> omega) (by omega) (by simp <;> omega) ?_; intro a3 c3 w3 ho3 hg3; have HO3 := Lib.hid ho3; have HB3 := Lib.hid ((HI.out.2.alloc hbw _).trans (grown_belowOwn (own_lit wr w.heap.size [v] hbw (by simp [maxLen])) hg3 (Nat.le_refl _) (by simp <;> omega))); clear ho3 hg3)
        go_roundw
        case rel => exact ⟨q, a3, c3, v :: [], rfl, by simp <;> omega, by simp <;> omega, hqb.1, hqb.2, HLS, HST, Lib.hid ⟨HO3.out, HB3.out⟩⟩
        case measure => have := HQA.out; simp [intOf, lenOf] <;> omega
    · have hlp : out.length ≠ 0 := fun e => he (List.eq_nil_of_length_eq_zero e)
      have hl0 : ((out.length : Int) == 0) = false := by simp; omega
      by_cases hr : r = 0
      · subst hr
        have HD := Lib.hid (HDONE.out out HIV.out he)
        have hdz : decide (n < 0) = decide (n < 0) := rfl
        have hol1 : 0 < out.length := by omega
        by_cases hn : n < 0
        · have hdn : decide (n < 0) = true := decide_eq_true hn
          have HR : Hid (res = strOf ([45] ++ out)) := Lib.hid (by rw [HNEG.out hn, ← HD.out]; rfl)
          have HCV : Hid (∀ (w' : World) (a' : Option Addr) (c' : Nat), Own (Value.int .u8) 5 w' w.heap.size a' c' ([45] ++ out) → (convert 74 9 (.slice a' (1 + out.length) c')).run Tryd.prog w' = .ok (.string (strOf ([45] ++ out))) w') := Lib.hid (fun w' a' c' ho => by
            have := conv_own ho (by simp)
            rw [List.length_append] at this
            exact this)
          clear hn he hlp
          go_wp2_with (at_builtin; refine wpl_appendN (f := Value.int .u8) (d := 0) (base := w.heap.size) und_ye info_y (fun _ => rfl) (own_lit wr w.heap.size [45] hbw (by simp [maxLen])) (HI.out.1.alloc _).rd rfl _ _ rfl rfl rfl (by simp) (by simp <;> omega) (by omega) (by simp <;> omega) ?_; intro a3 c3 w3 ho3 hg3; have hcv := HCV.out _ _ _ ho3; have HB3 := Lib.hid ((HI.out.2.alloc hbw _).trans (grown_belowOwn (own_lit wr w.heap.size [45] hbw (by simp [maxLen])) hg3 (Nat.le_refl _) (by simp <;> omega))); clear ho3 hg3)
          go_ret
          exact ⟨by rw [HR.out]; rfl, HB3.out⟩
        · have hdn : decide (n < 0) = false := decide_eq_false hn
          have HR : Hid (res = strOf out) := Lib.hid (by rw [HPOS.out (by omega), ← HD.out])
          have hcv := conv_own HI.out.1 hol1
          clear hn he hlp
          go_wp2
          go_ret
          exact ⟨by rw [HR.out]; rfl, HI.out.2⟩
      · have hrz : (r == 0) = false := by simpa using hr
        have hrn : (r != 0) = true := by simpa using hr
        have hlk := len_ok hr HLN.out
        have hst := HSTEP.out r out HIV.out (.inr hr)
        have hls := len_step HLN.out
        clear hol HLN HIV he
        obtain ⟨q, hq⟩ : ∃ q, r.tdiv 10 = q := ⟨_, rfl⟩
        obtain ⟨dd, hd⟩ : ∃ d, r.tmod 10 = d := ⟨_, rfl⟩
        have hqa : q.natAbs = r.natAbs / 10 := by rw [← hq, Int.natAbs_tdiv]; rfl
        have hda : dd.natAbs = r.natAbs % 10 := by rw [← hd, Int.natAbs_tmod]; rfl
        rw [hq, hd] at hst
        rw [hq] at hls
        have HST := Lib.hid hst
        have HLS := Lib.hid hls
        have HQA := Lib.hid hqa
        have hdb : -10 < dd ∧ dd < 10 := by omega
        have hqb : -9223372036854775808 ≤ q ∧ q ≤ 9223372036854775807 := by omega
        obtain ⟨v, hv⟩ : ∃ v, 48 + (dd.natAbs : Int) = v := ⟨_, rfl⟩
        rw [hv] at HST
        have e1 : IntKind.i64.wrap dd = dd := IntWalk.i64_in _ (by omega)
        have e2 : IntKind.i64.wrap (-dd) = -dd := IntWalk.i64_in _ (by omega)
        have e3 : IntKind.i64.wrap q = q := IntWalk.i64_in _ hqb
        have e5 : IntKind.i64.wrap v = v := IntWalk.i64_in _ (by omega)
        have e6 : IntKind.u8.wrap v = v := by rw [IntKind.wrap_u8']; omega
        clear hst hls hqa hda
        by_cases hneg : dd < 0
        · have hdn : decide (dd < 0) = true := decide_eq_true hneg
          have e4 : (48 : Int) + -dd = v := by omega
          have e4' : (48 : Int) - dd = v := by omega
          clear hv hneg
          go_wp2_with (at_builtin; refine wpl_appendN (f := Value.int .u8) (d := 0) (base := w.heap.size) und_ye info_y (fun _ => rfl) (own_lit wr w.heap.size [v] hbw (by simp [maxLen])) (HI.out.1.alloc _).rd rfl _ _ rfl rfl rfl (by simp) (by simp <;> omega) (by omega) (by simp <;> omega) ?_; intro a3 c3 w3 ho3 hg3; have HO3 := Lib.hid ho3; have HB3 := Lib.hid ((HI.out.2.alloc hbw _).trans (grown_belowOwn (own_lit wr w.heap.size [v] hbw (by simp [maxLen])) hg3 (Nat.le_refl _) (by simp <;> omega))); clear ho3 hg3)
          go_roundw
          case rel => exact ⟨q, a3, c3, v :: out, rfl, by simp <;> omega, by simp <;> omega, hqb.1, hqb.2, HLS, HST, Lib.hid ⟨HO3.out, HB3.out⟩⟩
          case measure => have := HQA.out; simp [intOf, lenOf] <;> omega
        · have hdn : decide (dd < 0) = false := decide_eq_false hneg
          have e4 : (48 : Int) + dd = v := by omega
          clear hv hneg
          go_wp2_with (at_builtin; refine wpl_appendN (f := Value.int .u8) (d := 0) (base := w.heap.size) und_ye info_y (fun _ => rfl) (own_lit wr w.heap.size [v] hbw (by simp [maxLen])) (HI.out.1.alloc _).rd rfl _ _ rfl rfl rfl (by simp) (by simp <;> omega) (by omega) (by simp <;> omega) ?_; intro a3 c3 w3 ho3 hg3; have HO3 := Lib.hid ho3; have HB3 := Lib.hid ((HI.out.2.alloc hbw _).trans (grown_belowOwn (own_lit wr w.heap.size [v] hbw (by simp [maxLen])) hg3 (Nat.le_refl _) (by simp <;> omega))); clear ho3 hg3)
          go_roundw
          case rel => exact ⟨q, a3, c3, v :: out, rfl, by simp <;> omega, by simp <;> omega, hqb.1, hqb.2, HLS, HST, Lib.hid ⟨HO3.out, HB3.out⟩⟩
          case measure => have := HQA.out; simp [intOf, lenOf] <;> omega

end Go.Proofs.YtmmpemfhbnkomaaDoor
