/- Lists of numbers as texts, in both texts. Journals: plain. ListText, and what has a text, in both texts. -/
import Derived.Test.YtmmpemfhbnkomaaDoorQRj15
import Derived.Test.YtmmpemfhbnkomaaDoorQRj5
import Derived.Test.YtmmpemfhbnkomaaDoorQRj11
import Derived.Test.YtmmpemfhbnkomaaDoorQRj4
import Derived.Test.YtmmpemfhbnkomaaDoorQRj2
import Derived.Lib.Join
import Derived.Test.YtmmpemfhbnkomaaDoorQRj12
set_option linter.unusedVariables false
set_option linter.unusedSimpArgs false
namespace Go.Proofs.YtmmpemfhbnkomaaDoor
open Go.RowKit

theorem nDigits_le {u k : Nat} (h : u < 10 ^ (k + 1)) : Lib.nDigits u ≤ k + 1 := by
  induction k generalizing u with
  | zero => rw [Lib.nDigits_small (by simpa using h)]; exact Nat.le_refl _
  | succ k ih =>
    by_cases hs : u < 10
    · rw [Lib.nDigits_small hs]; omega
    · rw [Lib.nDigits_big hs]
      have := ih (u := u / 10) (by rw [Nat.div_lt_iff_lt_mul (by decide)]; rw [Nat.pow_succ] at h; exact h)
      omega
theorem decT_size {n : Int} (h0 : -9223372036854775808 ≤ n) (h1 : n ≤ 9223372036854775807) : (decT n).size ≤ 20 := by
  have e : (decT n).size = (Lib.itoa n).length := by
    unfold decT ByteArray.size
    simp
  have hp : (10 : Nat) ^ (18 + 1) = 10000000000000000000 := by decide
  rw [e]
  unfold Lib.itoa
  split
  · rw [List.length_cons, Lib.decDigits_length]
    have := nDigits_le (u := n.natAbs) (k := 18) (by omega)
    omega
  · rw [Lib.decDigits_length]
    have := nDigits_le (u := n.toNat) (k := 18) (by omega)
    omega
theorem toL_append (a b : ByteArray) : toL (a ++ b) = toL a ++ toL b := by
  unfold toL
  rw [ByteArray.data_append]
  simp

/-- Numbers with commas. -/
def jT (xs : List Int) : Nat → ByteArray
  | 0 => ⟨#[]⟩
  | k + 1 => if k = 0 then decT (at0 xs 0) else jT xs k ++ (⟨#[44]⟩ ++ decT (at0 xs k))
def lstT (xs : List Int) : ByteArray := if xs.length = 0 then ⟨#[110, 111, 110, 101]⟩ else jT xs xs.length
theorem jT_one (xs : List Int) : jT xs 1 = decT (at0 xs 0) := rfl
theorem jT_succ {xs : List Int} {k : Nat} (h : k ≠ 0) : jT xs (k + 1) = jT xs k ++ (⟨#[44]⟩ ++ decT (at0 xs k)) := by rw [jT, if_neg h]
def InB (xs : List Int) : Prop := ∀ k, k < xs.length → -9223372036854775808 ≤ at0 xs k ∧ at0 xs k ≤ 9223372036854775807
theorem jT_size {xs : List Int} (hb : InB xs) (k : Nat) (hk : k ≤ xs.length) : (jT xs k).size ≤ 21 * k := by
  induction k with
  | zero => exact Nat.le_refl _
  | succ k ih =>
    have h1 := hb k (by omega)
    by_cases h : k = 0
    · subst h; rw [jT_one]; have := decT_size h1.1 h1.2; omega
    · rw [jT_succ h, ByteArray.size_append, ByteArray.size_append]
      have := decT_size h1.1 h1.2
      have := ih (by omega)
      have e : (⟨#[44]⟩ : ByteArray).size = 1 := rfl
      omega
theorem lstT_size {xs : List Int} (hb : InB xs) : (lstT xs).size ≤ 21 * xs.length + 4 := by
  unfold lstT
  split
  · show 4 ≤ _; omega
  · have := jT_size hb xs.length (Nat.le_refl _); omega
theorem joinTail_snoc (sep : List UInt8) (r : List (List UInt8)) (b : List UInt8) : Lib.joinTail sep (r ++ [b]) = Lib.joinTail sep r ++ (sep ++ b) := by
  unfold Lib.joinTail
  simp
theorem jT_join (x : Int) (r : List Int) (j : Nat) (hj : j ≤ r.length) : toL (jT (x :: r) (j + 1)) = Lib.itoa x ++ Lib.joinTail [44] ((r.take j).map Lib.itoa) := by
  induction j with
  | zero => rw [jT_one]; simp [at0, toL, decT, Lib.joinTail]
  | succ j ih =>
    rw [jT_succ (by omega), toL_append, toL_append, ih (by omega), List.take_add_one, List.getElem?_eq_getElem (by omega)]
    simp only [Option.toList_some, List.map_append, List.map_cons, List.map_nil]
    rw [joinTail_snoc, List.append_assoc]
    have : at0 (x :: r) (j + 1) = r[j] := by simp [at0, show j < r.length by omega]
    rw [this]
    rfl
theorem join_lst {xs : List Int} (h : xs.length ≠ 0) : (⟨(Lib.join ((xs.map decT).map (·.data.toList)) [44]).toArray⟩ : ByteArray) = lstT xs := by
  unfold lstT
  rw [if_neg h]
  apply toL_inj
  cases xs with
  | nil => exact absurd rfl h
  | cons x r =>
    have e : ((x :: r).map decT).map (fun b => b.data.toList) = Lib.itoa x :: r.map Lib.itoa := by
      rw [List.map_map, List.map_cons]
      congr 1
    have := jT_join x r r.length (Nat.le_refl _)
    rw [List.take_length] at this
    rw [e, Lib.join_cons, List.length_cons, this]
    simp [toL]

theorem joined_any {a : Option Addr} {c base : Nat} {xs : List Int} {w : World} (ho : Own Value.string 9 w base a c (xs.map decT)) (hb : InB xs) (hl : xs.length ≤ 1000) :
    Calls Tryd.prog 77 #[.slice a (xs.map decT).length c] w fun e w' => e = .returned (.string (lstT xs)) ∧ Below w.heap.size w w' := by
  by_cases h : xs.length = 0
  · have e : lstT xs = ⟨#[110, 111, 110, 101]⟩ := by unfold lstT; rw [if_pos h]
    rw [e, List.length_map, h]
    go_enter Tryd.func77, Tryd.ntmps77
    go_wp2
    go_ret
    exact ⟨rfl, Below.refl _ _⟩
  · have hr := ho.rd
    have hlm : (xs.map decT).length = xs.length := by simp
    obtain ⟨bk, o, rfl, hbk⟩ := hr.here (by omega)
    have hj := join_lst h
    have hsz : (Lib.join ((xs.map decT).map (·.data.toList)) [44]).length ≤ 140737488355328 := by
      have h1 := lstT_size hb
      rw [← hj] at h1
      have e : (⟨(Lib.join ((xs.map decT).map (·.data.toList)) [44]).toArray⟩ : ByteArray).size = (Lib.join ((xs.map decT).map (·.data.toList)) [44]).length := by unfold ByteArray.size; simp
      omega
    have hc := Tryd.strings_Join bk o c (xs.map decT) ⟨#[44]⟩ w (fun j x hx => by
      have hjl : j < (xs.map decT).length := (List.getElem?_eq_some_iff.1 hx).1
      have h2 := hr.cell j hjl
      rw [elt_some, hx] at h2
      exact h2) hbk (by omega) hr.cap hsz
    have e44 : ((⟨#[44]⟩ : ByteArray).data.toList) = [44] := rfl
    rw [e44, hj, hlm] at hc
    have HC := Lib.hid hc
    have hne : ((xs.length : Int) == 0) = false := beq_eq_false_iff_ne.2 (by omega)
    rw [hlm]
    obtain ⟨t, ht⟩ : ∃ t, lstT xs = t := ⟨_, rfl⟩
    rw [ht] at HC ⊢
    clear hc hj hr ho ht hsz
    go_enter Tryd.func77, Tryd.ntmps77
    go_wp2_with fail
    refine HC.out.mono ?_
    rintro e w1 ⟨rfl, hb1⟩
    have HB1 := Lib.hid hb1
    clear hb1
    go_wp2
    go_ret
    exact ⟨rfl, HB1.out⟩

set_option maxHeartbeats 1000000 in
theorem listText_any {a : Option Addr} {c : Nat} {xs : List Int} {w : World} (hT : PTab w) (hr : Rd (Value.int .i64) w a c xs) (hb : InB xs) (hl : xs.length ≤ 1000) :
    Calls Tryd.prog 58 #[.slice a xs.length c] w fun e w' => e = .returned (.string (lstT xs)) ∧ Below w.heap.size w w' := by
  have HT := Lib.hid hT
  have HBB := Lib.hid hb
  have HB0 := Lib.hid ((Below.refl w.heap.size w).alloc (Nat.le_refl _) (.cells #[] 9))
  have HO0 : Hid (Own Value.string 9 (w.alloc (.cells #[] 9)) w.heap.size (some ⟨w.heap.size, 0, none⟩) 0 []) := Lib.hid (own_empty w _ (Nat.le_refl _) rfl)
  clear hT hb
  obtain ⟨t, ht⟩ : ∃ t, lstT xs = t := ⟨_, rfl⟩
  rw [ht]
  have HTT := Lib.hid ht
  clear ht
  go_enter Tryd.func58, Tryd.ntmps58
  go_wp2
  go_loopw [3, 5, 9] (fun oi _ vi wr => ∃ (k : Nat) (a' : Option Addr) (c' : Nat) (out : List ByteArray), vi = .int .i64 k ∧ k ≤ xs.length ∧ oi = .slice a' out.length c' ∧ out.length ≤ 1000 ∧ Hid (out = (xs.take k).map decT) ∧ Hid (Own Value.string 9 wr w.heap.size a' c' out ∧ Below w.heap.size w wr)) (fun _ _ vi _ => xs.length - (intOf vi).toNat)
  case atStart => exact ⟨0, _, _, [], rfl, Nat.zero_le _, rfl, by simp, Lib.hid (by simp), Lib.hid ⟨HO0.out, HB0.out⟩⟩
  case round =>
    clear HO0 HB0
    obtain ⟨k, a', c', out, rfl, hk, rfl, hol, HE, HI⟩ := hrel
    have hbw : w.heap.size ≤ wr.heap.size := HI.out.2.size
    by_cases hlt : k < xs.length
    · have hltz : (k : Int) < (xs.length : Int) := by omega
      have ewk : IntKind.i64.wrap ((k : Int) + 1) = (k : Int) + 1 := IntWalk.i64_in _ (by omega)
      have hrw := hr.below HI.out.2 (Nat.le_refl _)
      have hix := hrw.idx und_is siz_is
      have hcx := hrw.cell k hlt
      simp only [List.getElem?_eq_getElem hlt, Option.getD_some] at hcx
      have ex : at0 xs k = xs[k] := by simp [at0, hlt]
      have hbd := HBB.out k hlt
      rw [ex] at hbd
      have HE1 : Hid (out ++ [decT xs[k]] = (xs.take (k + 1)).map decT) := Lib.hid (by rw [HE.out, List.take_add_one, List.getElem?_eq_getElem hlt, List.map_append]; rfl)
      have HOL : Hid (out.length = k) := Lib.hid (by rw [HE.out]; simp; omega)
      generalize xs[k] = x at hcx hbd HE1
      clear ex hrw
      go_wp2_with fail
      refine (decimal_any (HT.out.below HI.out.2 (Nat.le_refl _)) hbd.1 hbd.2).mono ?_
      rintro e w1 ⟨rfl, hb1⟩
      obtain ⟨d, hd⟩ : ∃ d, decT x = d := ⟨_, rfl⟩
      rw [hd] at HE1 ⊢
      have HI1 := Lib.hid (And.intro (HI.out.1.below hb1 (Nat.le_refl _)) (HI.out.2.trans (hb1.mono HI.out.2.size)))
      have hbw1 : w.heap.size ≤ w1.heap.size := HI1.out.2.size
      have hol2 : out.length + 1 ≤ 1000 := by have := HOL.out; omega
      clear hb1 hd
      go_wp2_with (at_builtin; refine wpl_append1 (f := Value.string) (d := ⟨#[]⟩) (base := w.heap.size) und_sse info_ss (fun _ => rfl) d HI1.out.1 rfl _ _ rfl rfl rfl (by omega) (by omega) hbw1 ?_; intro a3 c3 w3 ho3 hg3; have HO3 := Lib.hid ho3; have HB3 := Lib.hid (HI1.out.2.trans (grown_belowOwn HI1.out.1 hg3 (Nat.le_refl _) hbw1)); clear ho3 hg3)
      go_roundw
      case rel => exact ⟨k + 1, a3, c3, out ++ [d], by go_num, by omega, by simp, by simp; omega, HE1, Lib.hid ⟨HO3.out, HB3.out⟩⟩
      case measure => simp [intOf]; omega
    · obtain rfl : k = xs.length := by omega
      have hltz : ¬ (xs.length : Int) < (xs.length : Int) := by omega
      have he : out = xs.map decT := by have := HE.out; rwa [List.take_length] at this
      subst he
      have HC := Lib.hid (joined_any HI.out.1 HBB.out hl)
      have HB := Lib.hid HI.out.2
      rw [HTT.out] at HC
      obtain ⟨n, hn⟩ : ∃ n, (xs.map decT).length = n := ⟨_, rfl⟩
      rw [hn] at HC ⊢
      clear HI HE hn
      go_wp2_with fail
      refine HC.out.mono ?_
      rintro e w1 ⟨rfl, hb1⟩
      have HB1 := Lib.hid (HB.out.trans (hb1.mono HB.out.size))
      clear hb1
      go_wp2
      go_ret
      exact ⟨rfl, HB1.out⟩

/-- A list that has a text. -/
def valR (x : Int) : Bool := inR x (-1000000000000000) 1000000000000000
def valsB (xs : List Int) : Bool := xs.all valR && decide (xs.length ≤ 64)
theorem valsB_in {xs : List Int} (h : valsB xs = true) : InB xs ∧ xs.length ≤ 64 := by
  unfold valsB at h
  rw [Bool.and_eq_true, List.all_eq_true, decide_eq_true_eq] at h
  refine ⟨fun k hk => ?_, h.2⟩
  have e : at0 xs k = xs[k] := by simp [at0, hk]
  rw [e]
  have := h.1 _ (List.getElem_mem hk)
  unfold valR at this
  rw [inR_eq] at this
  omega
theorem valsB_no {xs : List Int} {k : Nat} (hk : k < xs.length) (h : valR xs[k] = false) : valsB xs = false := by
  unfold valsB
  have : xs.all valR = false := by rw [List.all_eq_false]; exact ⟨_, List.getElem_mem hk, by rw [h]; simp⟩
  rw [this]; rfl
theorem valsB_yes {xs : List Int} (h : ∀ x ∈ xs, (!valR x) = false) : valsB xs = decide (xs.length ≤ 64) := by
  unfold valsB
  have : xs.all valR = true := by rw [List.all_eq_true]; intro x hx; simpa using h x hx
  rw [this]; rfl

set_option maxHeartbeats 1000000 in
theorem isValue_any {n : Int} {w : World} : Calls Tryd.prog 62 #[.int .i64 n] w fun e w' => e = .returned (.bool (valR n)) ∧ w = w' := by
  obtain ⟨b, hb⟩ : ∃ b, valR n = b := ⟨_, rfl⟩
  have HB : Hid (inR n (-1000000000000000) 1000000000000000 = b) := Lib.hid hb
  rw [hb]
  go_enter Tryd.func62, Tryd.ntmps62
  go_wp2_with fail
  refine (within_any _ _ _ _).mono ?_
  rintro e w1 ⟨rfl, rfl⟩
  rw [HB.out]
  go_wp2
  go_ret
  exact ⟨rfl, rfl⟩

end Go.Proofs.YtmmpemfhbnkomaaDoor

namespace Go.Proofs.YtmmpemfhbnkomaaDoor
open Go.RowKit

def bsT (L : List ByteArray) (k : Nat) : ByteArray := L[k]?.getD ⟨#[]⟩
/-- The check number behind k lines. -/
def jC (L : List ByteArray) : Nat → Int
  | 0 => 0
  | k + 1 => chk (jC L k) (bsT L k) (bsT L k).size
theorem jC_bd (L : List ByteArray) (k : Nat) : 0 ≤ jC L k ∧ jC L k < 65003 := by
  induction k with
  | zero => exact ⟨Int.le_refl _, by show (0 : Int) < 65003; decide⟩
  | succ k ih => exact chk_bd ih _
/-- A line of a journal. -/
def jLine (c : Int) (l : ByteArray) : ByteArray := ((decT c ++ ⟨#[32]⟩) ++ l) ++ ⟨#[10]⟩
/-- The journal of k lines. -/
def jJ (L : List ByteArray) : Nat → ByteArray
  | 0 => ⟨#[]⟩
  | k + 1 => jJ L k ++ jLine (jC L (k + 1)) (bsT L k)
def noNL (s : ByteArray) : Bool := decide (Go.Lib.index (toL s) [10] = -1)
def jOk (L : List ByteArray) : Bool := L.all noNL && decide ((jJ L L.length).size ≤ 16000)
def jR (L : List ByteArray) : ByteArray := if jOk L then jJ L L.length else ⟨#[]⟩
def lnS (L : List ByteArray) : Nat → Nat
  | 0 => 0
  | k + 1 => lnS L k + ((bsT L k).size + 3)
theorem jLine_size {c : Int} (h : 0 ≤ c ∧ c < 65003) (l : ByteArray) : l.size + 3 ≤ (jLine c l).size ∧ (jLine c l).size ≤ l.size + 22 := by
  unfold jLine
  rw [ByteArray.size_append, ByteArray.size_append, ByteArray.size_append]
  have h1 := decT_size (n := c) (by omega) (by omega)
  have h2 : 1 ≤ (decT c).size := by
    have : (decT c).size = (Lib.itoa c).length := by unfold decT ByteArray.size; simp
    rw [this]; exact itoa_len c
  have e1 : (⟨#[32]⟩ : ByteArray).size = 1 := rfl
  have e2 : (⟨#[10]⟩ : ByteArray).size = 1 := rfl
  omega
theorem jJ_mono (L : List ByteArray) {j k : Nat} (h : j ≤ k) : (jJ L j).size ≤ (jJ L k).size := by
  induction k with
  | zero => rw [Nat.le_zero.1 h]; exact Nat.le_refl _
  | succ k ih =>
    rcases Nat.lt_or_ge j (k + 1) with h2 | h2
    · have := ih (by omega)
      rw [jJ, ByteArray.size_append]; omega
    · rw [show j = k + 1 by omega]; exact Nat.le_refl _
theorem lnS_le (L : List ByteArray) (k : Nat) : lnS L k ≤ (jJ L k).size := by
  induction k with
  | zero => exact Nat.zero_le _
  | succ k ih =>
    rw [lnS, jJ, ByteArray.size_append]
    have := (jLine_size (jC_bd L (k + 1)) (bsT L k)).1
    omega
theorem jOk_nl {L : List ByteArray} {k : Nat} (hk : k < L.length) (h : noNL (bsT L k) = false) : jOk L = false := by
  unfold jOk
  have : L.all noNL = false := by
    rw [List.all_eq_false]
    refine ⟨L[k], List.getElem_mem hk, ?_⟩
    have e : bsT L k = L[k] := by simp [bsT, hk]
    rw [← e, h]; simp
  rw [this]; rfl
theorem jOk_big {L : List ByteArray} {k : Nat} (hk : k ≤ L.length) (h : 16000 < (jJ L k).size) : jOk L = false := by
  unfold jOk
  have := jJ_mono L hk
  rw [decide_eq_false (p := (jJ L L.length).size ≤ 16000) (by omega), Bool.and_false]
theorem jOk_ln {L : List ByteArray} {k : Nat} (hk : k ≤ L.length) (h : 16000 < lnS L k) : jOk L = false :=
  jOk_big hk (Nat.lt_of_lt_of_le h (lnS_le L k))
theorem jOk_yes {L : List ByteArray} (h : ∀ k, k < L.length → noNL (bsT L k) = true) : jOk L = decide ((jJ L L.length).size ≤ 16000) := by
  unfold jOk
  have : L.all noNL = true := by
    rw [List.all_eq_true]
    intro x hx
    obtain ⟨k, hk, rfl⟩ := List.mem_iff_getElem.1 hx
    have e : bsT L k = L[k] := by simp [bsT, hk]
    rw [← e]; exact h k hk
  rw [this]; rfl

end Go.Proofs.YtmmpemfhbnkomaaDoor

namespace Go.Proofs.YtmmpemfhbnkomaaDoor
open Go.RowKit

set_option maxHeartbeats 1000000 in
theorem areValues_any {a : Option Addr} {c : Nat} {xs : List Int} {w : World} (hr : Rd (Value.int .i64) w a c xs) :
    Calls Tryd.prog 81 #[.slice a xs.length c] w fun e w' => e = .returned (.bool (valsB xs)) ∧ w = w' := by
  have hln := hr.len
  obtain ⟨b, hb⟩ : ∃ b, valsB xs = b := ⟨_, rfl⟩
  have HB := Lib.hid hb
  rw [hb]
  clear hb
  go_enter Tryd.func81, Tryd.ntmps81
  go_wp2
  go_loopw [4, 7] (fun _ vi wr => ∃ k : Nat, vi = .int .i64 k ∧ k ≤ xs.length ∧ Hid (∀ x ∈ xs.take k, (!valR x) = false) ∧ Hid (w = wr)) (fun _ vi _ => xs.length - (intOf vi).toNat)
  case atStart => exact ⟨0, rfl, Nat.zero_le _, Lib.hid (by simp), Lib.hid rfl⟩
  case round =>
    obtain ⟨k, rfl, hk, HP, HW⟩ := hrel
    obtain rfl := HW.out
    clear HW
    by_cases hlt : k < xs.length
    · have hltz : (k : Int) < (xs.length : Int) := by omega
      have hix := hr.idx und_is siz_is
      have hcx := hr.cell k hlt
      simp only [List.getElem?_eq_getElem hlt, Option.getD_some] at hcx
      have HNO := Lib.hid (valsB_no hlt)
      have HS : Hid (valR xs[k] = true → ∀ x ∈ xs.take (k + 1), (!valR x) = false) := Lib.hid (fun h => snoc_none (p := fun x => !valR x) hlt HP.out (by show (!valR xs[k]) = false; rw [h]; rfl))
      have ewk : IntKind.i64.wrap ((k : Int) + 1) = (k : Int) + 1 := IntWalk.i64_in _ (by omega)
      generalize xs[k] = x at hcx HNO HS
      cases hv : valR x with
      | false =>
        have HE : Hid (b = false) := Lib.hid (by rw [← HB.out]; exact HNO.out hv)
        go_wp2_with fail
        refine isValue_any.mono ?_
        rintro e w1 ⟨rfl, rfl⟩
        rw [hv]
        go_wp2
        go_ret
        exact ⟨ret_bool HE.out.symm, rfl⟩
      | true =>
        have HS1 := Lib.hid (HS.out hv)
        go_wp2_with fail
        refine isValue_any.mono ?_
        rintro e w1 ⟨rfl, rfl⟩
        rw [hv]
        go_wp2
        go_roundw
        case rel => exact ⟨k + 1, by go_num, by omega, HS1, Lib.hid trivial⟩
        case measure => simp [intOf]; omega
    · obtain rfl : k = xs.length := by omega
      have hltz : ¬ (xs.length : Int) < (xs.length : Int) := by omega
      have HE : Hid (b = decide (xs.length ≤ 64)) := Lib.hid (by rw [← HB.out]; exact valsB_yes (fun x hx => HP.out x (by rw [List.take_length]; exact hx)))
      have hd : decide ((xs.length : Int) ≤ 64) = decide (xs.length ≤ 64) := by by_cases h : xs.length ≤ 64 <;> simp [h] <;> omega
      go_wp2
      go_ret
      exact ⟨by rw [HE.out, ← hd]; rfl, rfl⟩

/-- ListText. -/
def ltT (xs : List Int) : ByteArray := if valsB xs then lstT xs else ⟨#[]⟩
theorem ltT_yes {xs : List Int} (h : valsB xs = true) : ltT xs = lstT xs := by unfold ltT; rw [h]; rfl
theorem ltT_no {xs : List Int} (h : valsB xs = false) : ltT xs = ⟨#[]⟩ := by unfold ltT; rw [h]; rfl
theorem implListText_any {a : Option Addr} {c : Nat} {xs : List Int} {w : World} (hT : PTab w) (hr : Rd (Value.int .i64) w a c xs) :
    Calls Tryd.prog 63 #[.slice a xs.length c] w fun e w' => e = .returned (.tuple #[.string (ltT xs), .bool (valsB xs)]) ∧ Below w.heap.size w w' := by
  have HA := Lib.hid (areValues_any hr)
  cases hv : valsB xs with
  | false =>
    rw [ltT_no hv]
    rw [hv] at HA
    clear hr hT
    go_enter Tryd.func63, Tryd.ntmps63
    go_wp2_with fail
    refine HA.out.mono ?_
    rintro e w1 ⟨rfl, rfl⟩
    go_wp2
    go_ret2
    exact ⟨rfl, Below.refl _ _⟩
  | true =>
  rw [ltT_yes hv]
  rw [hv] at HA
  have hin := valsB_in hv
  have HC := Lib.hid (listText_any hT hr hin.1 (by omega))
  obtain ⟨t, ht⟩ : ∃ t, lstT xs = t := ⟨_, rfl⟩
  rw [ht] at HC ⊢
  clear hr hT hin ht
  go_enter Tryd.func63, Tryd.ntmps63
  go_wp2_with fail
  refine HA.out.mono ?_
  rintro e w1 ⟨rfl, rfl⟩
  go_wp2_with fail
  refine HC.out.mono ?_
  rintro e w2 ⟨rfl, hb2⟩
  have HB2 := Lib.hid hb2
  clear hb2
  go_wp2
  go_ret2
  exact ⟨rfl, HB2.out⟩

end Go.Proofs.YtmmpemfhbnkomaaDoor
