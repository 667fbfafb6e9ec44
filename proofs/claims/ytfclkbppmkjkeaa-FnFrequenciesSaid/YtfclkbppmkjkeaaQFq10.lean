/- SignRow: the sum of the numbers with signs, in both texts. Lists of keys, in both texts. SignSketch, both texts. ShrinkVector, both texts. Valid cells in both texts. PlaneBits, both texts. SignRow, both texts. -/
import Derived.Test.YtfclkbppmkjkeaaQFq6
import Derived.Test.YtfclkbppmkjkeaaQFq3
import Derived.Test.YtfclkbppmkjkeaaQFq5
import Derived.Test.YtfclkbppmkjkeaaQFq2
import Derived.Test.YtfclkbppmkjkeaaQFq4
namespace Go.Proofs.Ytfclkbppmkjkeaa
open Go.RowKit

def rowK (xs : List Nat) (s : Int) (k : Nat) : Option Nat :=
  (List.range k).foldl (fun acc (i : Nat) => fbin .add .f32 acc (fbin .mul .f32 (cn .f32 (xs[i]?.getD 0)) (cn .f32 (floatOfInt .f32 (sgn (i : Int) s))))) (some 0)
def rowC (xs : List Nat) (s : Int) : Option Nat := rowK xs s xs.length
theorem rowK_succ (xs : List Nat) (s : Int) (k : Nat) (h : k < xs.length) : rowK xs s (k + 1) = fbin .add .f32 (rowK xs s k) (fbin .mul .f32 (cn .f32 xs[k]) (cn .f32 (floatOfInt .f32 (sgn (k : Int) s)))) := by
  unfold rowK
  rw [List.range_succ, List.foldl_append]
  simp [h]

def isKey (k : Int) : Bool := inR k 0 4294967295
theorem isKey_bd {k : Int} (h : isKey k = true) : 0 ≤ k ∧ k < 4294967296 := by
  have := (inR_eq _ _ _).1 h; omega

theorem implIsKey_any {k : Int} {w : World} : Calls Try.prog 99 #[.int .i64 k] w fun e w' => e = .returned (.bool (isKey k)) ∧ w = w' := by
  go_enter Try.func99, Try.ntmps99
  go_wp2_with fail
  refine (within_any _ _ _ _).mono ?_
  rintro e w1 ⟨rfl, rfl⟩
  go_wp2
  go_ret
  exact ⟨rfl, rfl⟩
set_option maxHeartbeats 800000 in
theorem signRow_any {a1 : Option Addr} {c1 : Nat} {xs : List Nat} {s : Int} {w : World} (hx : Rd (Value.float .f32) w a1 c1 xs) (s0 : 0 ≤ s) (s1 : s < 4294967296) (hn : xs.length ≤ 1048576) :
    Calls Try.prog 92 #[.slice a1 xs.length c1, .int .i64 s] w (RetF w (rowC xs s)) := by
  go_enter Try.func92, Try.ntmps92
  go_wp2
  go_loopw [5, 6, 7, 10] (fun q _ _ i wr => ∃ (k r : Nat), k ≤ xs.length ∧ i = .int .i64 k ∧ q = .float .f32 r ∧ Hid (cn .f32 r = rowK xs s k) ∧ Below w.heap.size w wr) (fun _ _ _ i _ => xs.length - (intOf i).toNat)
  case atStart => exact ⟨0, 0, Nat.zero_le _, rfl, rfl, cn_zero, Below.refl _ _⟩
  case round =>
    obtain ⟨k, r, hk, rfl, rfl, HR, hb⟩ := hrel
    by_cases hlt : k < xs.length
    · have hxr := hx.below hb (Nat.le_refl _)
      have hcx := hxr.cell k hlt
      have hix := hxr.idx und_fs siz_fs
      have HS := Lib.hid (rowK_succ xs s k hlt)
      simp only [List.getElem?_eq_getElem hlt, Option.getD_some] at hcx
      go_wp2_with fail
      refine (sign_any (by omega) (by omega) s0 s1).mono ?_
      rintro e w1 ⟨rfl, rfl⟩
      go_wp2_with (refine wpl_fbin rfl _ _ _ _ _ rfl rfl .f32 _ _ rfl rfl ?_; rintro q w' ⟨n, rfl⟩ hq)
      rename_i q1 n1 hq1
      go_roundw
      case rel => exact ⟨k + 1, q, by omega, by go_num, rfl, by show _ = _; rw [HS.out, hq, hq1, HR.out], hb.trans (below_of_drewN _ _ _)⟩
      case measure => simp [intOf]; omega
    · obtain rfl : k = xs.length := by omega
      go_wp2
      go_ret
      exact ⟨r, rfl, HR.out, hb⟩

theorem isVec_len {xs : List Nat} (h : isVec xs = true) : xs.length ≤ 32 := by simp [isVec] at h; exact h.1.2

end Go.Proofs.Ytfclkbppmkjkeaa

namespace Go.Proofs.Ytfclkbppmkjkeaa
open Go.RowKit

def keysB (xs : List Int) : Bool := xs.all isKey
def saltsB (xs : List Int) : Bool := decide (1 ≤ xs.length) && decide (xs.length ≤ 32) && keysB xs
theorem saltsB_len {xs : List Int} (h : saltsB xs = true) : xs.length ≤ 32 := by simp [saltsB] at h; exact h.1.2
theorem keysB_get {xs : List Int} (h : keysB xs = true) (k : Nat) (hk : k < xs.length) : 0 ≤ xs[k] ∧ xs[k] < 4294967296 :=
  isKey_bd ((List.all_eq_true.1 h) _ (List.getElem_mem hk))
theorem saltsB_keys {xs : List Int} (h : saltsB xs = true) : keysB xs = true := by simp [saltsB] at h; exact h.2

theorem areAllKeys1_any {x : Int} {w : World} : Calls Try.prog 177 #[.int .i64 x] w fun e w' => e = .returned (.bool (!isKey x)) ∧ Below w.heap.size w w' := by
  go_enter Try.func177, Try.ntmps177
  go_wp2_with fail
  refine implIsKey_any.mono ?_
  rintro e w1 ⟨rfl, rfl⟩
  go_wp2
  go_ret
  exact ⟨rfl, Below.refl _ _⟩

theorem call_areAllKeys1 (vs : Array Value) (w : World) : (callFunc 177 vs).run Try.prog w = .ok (.enter 177 vs) w := by kernel_rfl

theorem areAllKeys_any {a : Option Addr} {c : Nat} {xs : List Int} {w : World} (hr : Rd (Value.int .i64) w a c xs) :
    Calls Try.prog 138 #[.slice a xs.length c] w fun e w' => e = .returned (.bool (keysB xs)) ∧ Below w.heap.size w w' := by
  have HC := Lib.hid (containsFunci_any a c xs w 177 #[] (fun x => !isKey x) call_areAllKeys1 hr (fun k h wr hb => by simpa using areAllKeys1_any))
  go_enter Try.func138, Try.ntmps138
  go_wp2_with fail
  refine HC.out.mono ?_
  rintro e w1 ⟨rfl, hb1⟩
  go_wp2
  go_ret
  refine ⟨ret_bool ?_, hb1⟩
  rw [Bool.eq_iff_iff]; simp [keysB, List.all_eq_true, List.any_eq_true]

theorem areSalts_any {a : Option Addr} {c : Nat} {xs : List Int} {w : World} (hr : Rd (Value.int .i64) w a c xs) :
    Calls Try.prog 91 #[.slice a xs.length c] w fun e w' => e = .returned (.bool (saltsB xs)) ∧ Below w.heap.size w w' := by
  have hln := hr.len
  by_cases h1 : 1 ≤ xs.length
  · by_cases h2 : xs.length ≤ 32
    · go_enter Try.func91, Try.ntmps91
      go_wp2_with fail
      refine (areAllKeys_any hr).mono ?_
      rintro e w1 ⟨rfl, hb1⟩
      go_wp2
      go_ret
      exact ⟨ret_bool (by simp [saltsB, h1, h2]), hb1⟩
    · have h3 : decide ((xs.length : Int) ≤ 32) = false := by simp; omega
      go_enter Try.func91, Try.ntmps91
      go_wp2
      go_ret
      exact ⟨ret_bool (by simp [saltsB, h2]), Below.refl _ _⟩
  · have h3 : decide ((1 : Int) ≤ (xs.length : Int)) = false := by simp; omega
    go_enter Try.func91, Try.ntmps91
    go_wp2
    go_ret
    exact ⟨ret_bool (by simp [saltsB, h1]), Below.refl _ _⟩

end Go.Proofs.Ytfclkbppmkjkeaa

namespace Go.Proofs.Ytfclkbppmkjkeaa
open Go.RowKit

/-- The rows, as far as the floats' bits are told. -/
def rowsM (v : List Nat) (ss : List Int) : List (Option Nat) := ss.map (rowC v)
def finM (l : List (Option Nat)) : Bool := l.all (fin .f32)
theorem fins_finM {O : List Nat} {l : List (Option Nat)} (h : O.map (cn .f32) = l) : fins O = finM l := by
  subst h
  simp [fins, finM, List.all_map, Function.comp_def]
theorem fin_some {o : Option Nat} (h : fin .f32 o = true) : ∃ b, o = some b := by
  cases o with
  | none => simp [fin] at h
  | some b => exact ⟨b, rfl⟩
/-- Finite numbers: their bits are told whole. -/
theorem finM_get {O : List Nat} {l : List (Option Nat)} (h : O.map (cn .f32) = l) (hf : finM l = true) : O = l.map (·.getD 0) := by
  subst h
  rw [List.map_map]
  have : ∀ x ∈ O, ((·.getD 0) ∘ cn .f32) x = x := by
    intro x hx
    have h1 : fin .f32 (cn .f32 x) = true := (List.all_eq_true.1 hf) _ (List.mem_map_of_mem hx)
    obtain ⟨b, hb⟩ := fin_some h1
    show (cn .f32 x).getD 0 = x
    rw [hb, Option.getD_some]
    exact ((cn_some hb).1).symm
  symm
  calc O.map ((·.getD 0) ∘ cn .f32) = O.map id := List.map_congr_left this
    _ = O := by simp

def skOk (v : List Nat) (ss : List Int) : Bool := isVec v && saltsB ss
def skB (v : List Nat) (ss : List Int) : Bool := skOk v ss && finM (rowsM v ss)
def skR (v : List Nat) (ss : List Int) : List Nat := if skB v ss then (rowsM v ss).map (·.getD 0) else []
theorem skR_len (v : List Nat) (ss : List Int) : (skR v ss).length ≤ 32 := by
  unfold skR
  split
  · rename_i h
    simp only [skB, skOk, Bool.and_eq_true] at h
    have := saltsB_len h.1.2
    simpa [rowsM] using this
  · simp
theorem skR_no {v : List Nat} {ss : List Int} (h : skB v ss = false) : skR v ss = [] := by simp [skR, h]
theorem rowsM_snoc {v : List Nat} {ss : List Int} {k : Nat} (h : k < ss.length) {O : List Nat} {r : Nat} (hO : O.map (cn .f32) = rowsM v (ss.take k)) (hr : cn .f32 r = rowC v ss[k]) :
    (O ++ [r]).map (cn .f32) = rowsM v (ss.take (k + 1)) := by
  unfold rowsM at hO ⊢
  rw [List.take_add_one, List.map_append, List.map_append, hO, List.getElem?_eq_getElem h]
  simp [hr]

theorem ifAllFinite_any {a : Option Addr} {c : Nat} {xs : List Nat} {w : World} (hr : Rd (Value.float .f32) w a c xs) :
    Calls Try.prog 93 #[.slice a xs.length c] w fun e w' => e = .returned (.tuple #[if fins xs then .slice a xs.length c else .slice none 0 0, .bool (fins xs)]) ∧ Below w.heap.size w w' := by
  cases h : fins xs with
  | false =>
    go_enter Try.func93, Try.ntmps93
    go_wp2_with fail
    refine (areFinite_any hr).mono ?_
    rintro e w1 ⟨rfl, hb1⟩
    go_wp2
    go_ret2
    exact ⟨rfl, hb1⟩
  | true =>
    go_enter Try.func93, Try.ntmps93
    go_wp2_with fail
    refine (areFinite_any hr).mono ?_
    rintro e w1 ⟨rfl, hb1⟩
    go_wp2
    go_ret2
    exact ⟨rfl, hb1⟩

set_option maxRecDepth 4000 in
set_option maxHeartbeats 2000000 in
theorem implSk_any {a1 a2 : Option Addr} {c1 c2 : Nat} {v : List Nat} {ss : List Int} {w : World} (hv : Rd (Value.float .f32) w a1 c1 v) (hs : Rd (Value.int .i64) w a2 c2 ss) :
    Calls Try.prog 34 #[.slice a1 v.length c1, .slice a2 ss.length c2] w (RetSB (Value.float .f32) 28 w (skR v ss) (skB v ss)) := by
  cases h1 : isVec v with
  | false =>
    have e2 : skB v ss = false := by simp [skB, skOk, h1]
    rw [skR_no e2, e2]
    clear e2
    go_enter Try.func34, Try.ntmps34
    go_wp2_with fail
    refine (isVector_any hv).mono ?_
    rintro e w1 ⟨rfl, hb1⟩
    go_wp2
    go_ret2
    exact retSB_no hb1
  | true =>
    cases h2 : saltsB ss with
    | false =>
      have e2 : skB v ss = false := by simp [skB, skOk, h2]
      rw [skR_no e2, e2]
      clear e2
      go_enter Try.func34, Try.ntmps34
      go_wp2_with fail
      refine (isVector_any hv).mono ?_
      rintro e w1 ⟨rfl, hb1⟩
      go_wp2_with fail
      refine (areSalts_any (hs.below hb1 (Nat.le_refl _))).mono ?_
      rintro e w2 ⟨rfl, hb2⟩
      go_wp2
      go_ret2
      exact retSB_no (hb1.trans (hb2.mono hb1.size))
    | true =>
      have hl32 := saltsB_len h2
      have hv32 := isVec_len h1
      have HK := Lib.hid (keysB_get (saltsB_keys h2))
      have H1 := Lib.hid h1
      have H2 := Lib.hid h2
      go_enter Try.func34, Try.ntmps34
      go_wp2_with fail
      refine (isVector_any hv).mono ?_
      rintro e w1 ⟨rfl, hb1⟩
      rw [h1]
      go_wp2_with fail
      refine (areSalts_any (hs.below hb1 (Nat.le_refl _))).mono ?_
      rintro e w2 ⟨rfl, hb2⟩
      rw [h2]
      have hbB := hb1.trans (hb2.mono hb1.size)
      clear hb1 hb2 h1 h2
      go_wp2_with fail
      go_loopw [6, 8, 20] (fun o _ i wr => ∃ (k : Nat) (a : Option Addr) (c : Nat) (O : List Nat), k ≤ ss.length ∧ i = .int .i64 k ∧ o = .slice a O.length c ∧ Own (Value.float .f32) 28 wr w.heap.size a c O ∧ Hid (O.map (cn .f32) = rowsM v (ss.take k)) ∧ O.length = k ∧ Below w.heap.size w wr) (fun _ _ i _ => ss.length - (intOf i).toNat)
      case atStart => exact ⟨0, _, _, [], Nat.zero_le _, rfl, rfl, own_empty w2 _ hbB.size rfl, by show _ = _; rfl, rfl, hbB.alloc hbB.size _⟩
      case round =>
        obtain ⟨k, a, c, O, hk, rfl, rfl, ho, HM, hOl, hb⟩ := hrel
        have HO := Lib.hid ho
        have HOL := Lib.hid hOl
        have hOk : O.length ≤ 32 := by omega
        have hz := hb.size
        clear ho hOl
        by_cases hlt : k < ss.length
        · have hsr := hs.below hb (Nat.le_refl _)
          have hix := hsr.idx und_is siz_is
          have hcx := hsr.cell k hlt
          simp only [List.getElem?_eq_getElem hlt, Option.getD_some] at hcx
          obtain ⟨s, hss⟩ : ∃ s, ss[k] = s := ⟨_, rfl⟩
          have hsb := HK.out k hlt
          rw [hss] at hcx hsb
          have HS := Lib.hid hss
          clear hss
          go_wp2_with fail
          refine (signRow_any (hv.below hb (Nat.le_refl _)) hsb.1 hsb.2 (by omega)).mono ?_
          rintro e w3 ⟨r, rfl, hr, hb3⟩
          have HR := Lib.hid hr
          have hb4 := hb.trans (hb3.mono hz)
          have ho4 := HO.out.below hb3 (Nat.le_refl _)
          have HO4 := Lib.hid ho4
          clear hr hb3 ho4
          have hz4 := hb4.size
          go_wp2_with (at_builtin; refine wpl_append1 (f := Value.float .f32) (d := 0) (base := w.heap.size) und_fse info_f (fun _ => rfl) _ HO4.out rfl _ _ rfl rfl rfl (by omega) (by omega) hz4 ?_; intro a3 c3 w5 ho3 hg3)
          have hb5 := hb4.trans (grown_belowOwn HO4.out hg3 (Nat.le_refl _) hz4)
          go_roundw
          case rel => exact ⟨k + 1, a3, c3, _, by omega, by go_num, by rw [List.length_append]; rfl, ho3, rowsM_snoc hlt HM.out (by rw [HS.out]; exact HR.out), by simp [HOL.out], hb5⟩
          case measure => simp [intOf]; omega
        · obtain rfl : k = ss.length := by omega
          have hM := HM.out
          rw [List.take_length] at hM
          have HF := Lib.hid (fins_finM hM)
          have HG := Lib.hid (finM_get hM)
          clear hM
          go_wp2_with fail
          refine (ifAllFinite_any HO.out.rd).mono ?_
          rintro e w3 ⟨rfl, hb3⟩
          have hb4 := hb.trans (hb3.mono hz)
          have HO4 := Lib.hid (HO.out.below hb3 (Nat.le_refl _))
          cases hf : fins O with
          | false =>
            have e2 : skB v ss = false := by simp [skB, ← HF.out, hf]
            go_wp2
            go_ret2
            rw [skR_no e2, e2]
            exact retSB_no hb4
          | true =>
            have hf2 : finM (rowsM v ss) = true := by rw [← HF.out, hf]
            have e2 : skB v ss = true := by simp [skB, skOk, H1.out, H2.out, hf2]
            have e1 : skR v ss = O := by rw [skR, if_pos e2, HG.out hf2]
            have E1 := Lib.hid e1
            have E2 := Lib.hid e2
            clear e1 e2 hf2
            go_wp2
            go_ret2
            rw [E1.out, E2.out]
            exact ⟨a, c, rfl, HO4.out, hb4⟩

end Go.Proofs.Ytfclkbppmkjkeaa

namespace Go.Proofs.Ytfclkbppmkjkeaa
open Go.RowKit

def byC (n : Nat) : Option Nat := fbin .quo .f32 (some 1065353216) (rootC (cn .f32 (floatOfInt .f32 (n : Int))))
theorem cn_one : cn .f32 1065353216 = some 1065353216 := by kernel_rfl
def shF (b : Option Nat) (x : Nat) : Option Nat := fbin .mul .f32 (cn .f32 x) b
def shM (v : List Nat) (ss : List Int) : List (Option Nat) := (skR v ss).map (shF (byC ss.length))
def shB (v : List Nat) (ss : List Int) : Bool := skB v ss && finM (shM v ss)
def shR (v : List Nat) (ss : List Int) : List Nat := if shB v ss then (shM v ss).map (·.getD 0) else []
theorem shR_len (v : List Nat) (ss : List Int) : (shR v ss).length ≤ 32 := by
  have := skR_len v ss
  unfold shR
  split
  · simpa [shM] using this
  · simp
theorem shR_no {v : List Nat} {ss : List Int} (h : shB v ss = false) : shR v ss = [] := by simp [shR, h]
theorem shF_snoc {L : List Nat} {b : Option Nat} {k : Nat} (h : k < L.length) {Q : List Nat} {r : Nat} (hQ : Q.map (cn .f32) = (L.take k).map (shF b)) (hr : cn .f32 r = shF b L[k]) :
    (Q ++ [r]).map (cn .f32) = (L.take (k + 1)).map (shF b) := by
  rw [List.take_add_one, List.map_append, List.map_append, hQ, List.getElem?_eq_getElem h]
  simp [hr]
theorem set_mid {L Q : List Nat} {k : Nat} (hk : k < L.length) (hQ : Q.length = k) (r : Nat) : (Q ++ L.drop k).set k r = (Q ++ [r]) ++ L.drop (k + 1) := by
  subst hQ
  rw [List.set_append_right _ _ (Nat.le_refl _), Nat.sub_self, List.drop_eq_getElem_cons hk, List.set_cons_zero]
  simp

set_option maxRecDepth 4000 in
set_option maxHeartbeats 2000000 in
theorem implSh_any {a1 a2 : Option Addr} {c1 c2 : Nat} {v : List Nat} {ss : List Int} {w : World} (hv : Rd (Value.float .f32) w a1 c1 v) (hs : Rd (Value.int .i64) w a2 c2 ss) :
    Calls Try.prog 43 #[.slice a1 v.length c1, .slice a2 ss.length c2] w (RetSB (Value.float .f32) 28 w (shR v ss) (shB v ss)) := by
  have hls := hs.len
  obtain ⟨L, hL⟩ : ∃ L, skR v ss = L := ⟨_, rfl⟩
  obtain ⟨b, hB⟩ : ∃ b, skB v ss = b := ⟨_, rfl⟩
  have hl : L.length ≤ 32 := by rw [← hL]; exact skR_len v ss
  have HN : b = false → L = [] := by intro h; rw [← hL]; exact skR_no (hB.trans h)
  have HLL := Lib.hid hL
  have HBB := Lib.hid hB
  have HN := Lib.hid HN
  clear hL hB
  go_enter Try.func43, Try.ntmps43
  go_wp2_with fail
  refine (implSk_any hv hs).mono ?_
  rintro e w1 ⟨a, c, rfl, ho, hb⟩
  rw [HLL.out] at ho
  rw [HLL.out, HBB.out]
  cases b with
  | false =>
    obtain rfl := HN.out rfl
    have e2 : shB v ss = false := by simp [shB, HBB.out]
    go_wp2
    go_ret2
    rw [shR_no e2, e2]
    exact retSB_no hb
  | true =>
    have HO := Lib.hid ho
    have hsz := hb.size
    clear ho
    go_wp2_with fail
    refine rootNumber_any.mono ?_
    rintro e w2 ⟨r, rfl, hr, hb2⟩
    have HR := Lib.hid hr
    have HB2 := Lib.hid (hb.trans (hb2.mono hb.size))
    have HO2 := Lib.hid (HO.out.below hb2 (Nat.le_refl _))
    clear hr hb hb2 HO hsz
    go_wp2_with (refine wpl_fbin rfl _ _ _ _ _ rfl rfl .f32 _ _ rfl rfl ?_; rintro q w' ⟨n, rfl⟩ hq)
    have HQ : Hid (cn .f32 q = byC ss.length) := by
      show _ = _
      rw [hq, HR.out, cn_one]; rfl
    have HB3 := Lib.hid (HB2.out.trans (below_of_drewN w2 n _))
    have HO3 := Lib.hid (HO2.out.drewN n)
    clear hq HR HB2 HO2
    generalize w2.drewN n = w3 at HB3 HO3 ⊢
    obtain ⟨bq, hbq⟩ : ∃ z, byC ss.length = z := ⟨_, rfl⟩
    have HBQ := Lib.hid hbq
    rw [hbq] at HQ
    clear hbq
    have hsf := @run_store_fl Try.prog
    go_wp2_with fail
    go_loopw [9, 25] (fun _ i wr => ∃ (k : Nat) (Q : List Nat), k ≤ L.length ∧ i = .int .i64 k ∧ Q.length = k ∧ Hid (Q.map (cn .f32) = (L.take k).map (shF bq)) ∧ Own (Value.float .f32) 28 wr w.heap.size a c (Q ++ L.drop k) ∧ Below w.heap.size w wr) (fun _ i _ => L.length - (intOf i).toNat)
    case atStart => exact ⟨0, [], Nat.zero_le _, rfl, rfl, by show _ = _; rfl, HO3.out, HB3.out⟩
    case round =>
      obtain ⟨k, Q, hk, rfl, hQl, HM, ho, hbr⟩ := hrel
      have hln : (Q ++ L.drop k).length = L.length := by simp; omega
      by_cases hlt : k < L.length
      · have hio := ho.idx und_fs siz_fs
        rw [hln] at hio
        have hcs := ho.cell k (by omega)
        have hfz := ho.free k (by omega)
        have e1 : (Q ++ L.drop k)[k]'(by omega) = L[k] := by
          rw [List.getElem_append_right (by omega)]
          simp [hQl]
        rw [e1] at hcs
        obtain ⟨x, hx⟩ : ∃ x, L[k] = x := ⟨_, rfl⟩
        rw [hx] at hcs
        have HX := Lib.hid hx
        have HOO := Lib.hid ho
        have HLN := Lib.hid hln
        have HQL := Lib.hid hQl
        clear hx ho hln hQl e1
        go_wp2_with (refine wpl_fbin rfl _ _ _ _ _ rfl rfl .f32 _ _ rfl rfl ?_; rintro q2 w' ⟨n2, rfl⟩ hq2)
        have hst := (HOO.out.drewN n2).set k (by rw [HLN.out]; exact hlt) q2
        rw [set_mid hlt HQL.out] at hst
        have HG := Lib.hid (grown_belowOwn (HOO.out.drewN n2) hst.2 (Nat.le_refl _) (by simpa using hbr.size))
        have HS := Lib.hid hst.1
        clear hst
        go_roundw
        case rel => exact ⟨k + 1, Q ++ [q2], by omega, by go_num, by simp [HQL.out], shF_snoc hlt HM.out (by rw [hq2, HQ.out, HX.out]; rfl), HS.out, (hbr.trans (below_of_drewN _ _ _)).trans HG.out⟩
        case measure => simp [intOf]; omega
      · obtain rfl : k = L.length := by omega
        have hO : Own (Value.float .f32) 28 wr w.heap.size a c Q := ho.cast (by simp)
        have hM := HM.out
        rw [List.take_length] at hM
        have hM2 : Q.map (cn .f32) = shM v ss := by rw [hM, shM, HLL.out, HBQ.out]
        have HF := Lib.hid (fins_finM hM2)
        have HG := Lib.hid (finM_get hM2)
        have HOO := Lib.hid hO
        have HQL := Lib.hid hQl
        have hz := hbr.size
        clear hM hM2 ho hO hln hQl
        go_wp2_with fail
        rw [← HQL.out]
        refine (ifAllFinite_any HOO.out.rd).mono ?_
        rintro e w4 ⟨rfl, hb4⟩
        have hb5 := hbr.trans (hb4.mono hz)
        have HO5 := Lib.hid (HOO.out.below hb4 (Nat.le_refl _))
        cases hf : fins Q with
        | false =>
          have e2 : shB v ss = false := by simp [shB, ← HF.out, hf]
          go_wp2
          go_ret2
          rw [shR_no e2, e2]
          exact retSB_no hb5
        | true =>
          have hf2 : finM (shM v ss) = true := by rw [← HF.out, hf]
          have e2 : shB v ss = true := by simp [shB, HBB.out, hf2]
          have e1 : shR v ss = Q := by rw [shR, if_pos e2, HG.out hf2]
          have E1 := Lib.hid e1
          have E2 := Lib.hid e2
          clear e1 e2 hf2
          go_wp2
          go_ret2
          rw [E1.out, E2.out]
          exact ⟨a, c, rfl, HO5.out, hb5⟩

end Go.Proofs.Ytfclkbppmkjkeaa

namespace Go.Proofs.Ytfclkbppmkjkeaa
open Go.RowKit

theorem quiet_same {P : Program} {f : FuncId} {args : Array Value} {w : World} {n : Nat} {v : Value} (h : Calls P f args (w.drewN n) fun e w' => e = .returned v ∧ w.drewN n = w') : Calls P f args (w.drewN n) fun e w'' => e = .returned v ∧ ∃ m, w'' = w.drewN m :=
  h.mono fun _ _ ⟨he, hw⟩ => ⟨he, n, hw.symm⟩

def cellR (x : Int) : Bool := inR x (-1000000000000) 1000000000000
def cellsB (W D S : Int) (cs : List Int) : Bool := inR W 2 64 && inR D 1 6 && isKey S && decide ((cs.length : Int) = W * D) && cs.all cellR
theorem prod_bd {W D : Int} (h1 : inR W 2 64 = true) (h2 : inR D 1 6 = true) : 0 ≤ W * D ∧ W * D ≤ 384 := by
  rw [inR_eq] at h1 h2
  constructor
  · exact Int.mul_nonneg (by omega) (by omega)
  · have := Int.mul_le_mul h1.2 h2.2 (by omega) (by omega)
    omega

theorem validCells_all {a : Option Addr} {c : Nat} {cs : List Int} {w : World} (hr : Rd (Value.int .i64) w a c cs) :
    Calls Try.prog 125 #[.slice a cs.length c, .int .i64 (-1000000000000), .int .i64 1000000000000] w fun e w' => e = .returned (.bool (cs.all cellR)) ∧ Below w.heap.size w w' := areWithin_any a c cs _ _ w hr

end Go.Proofs.Ytfclkbppmkjkeaa

namespace Go.Proofs.Ytfclkbppmkjkeaa
open Go.RowKit

def geB (x : Nat) : Bool := FloatKind.f32.format.order x 0 == some .gt || FloatKind.f32.format.order x 0 == some .eq
def plR (v : List Nat) (ss : List Int) : List Bool := (skR v ss).map geB
theorem plR_len (v : List Nat) (ss : List Int) : (plR v ss).length ≤ 32 := by
  have := skR_len v ss
  simpa [plR] using this
theorem map_snoc {α β : Type} (f : α → β) {xs : List α} {k : Nat} (h : k < xs.length) {x : α} (hx : xs[k] = x) {ys : List β} (hy : ys = (xs.take k).map f) : ys ++ [f x] = (xs.take (k + 1)).map f := by
  rw [List.take_add_one, List.map_append, List.getElem?_eq_getElem h, hx, hy]; simp

set_option maxRecDepth 4000 in
set_option maxHeartbeats 2000000 in
theorem implPl_any {a1 a2 : Option Addr} {c1 c2 : Nat} {v : List Nat} {ss : List Int} {w : World} (hv : Rd (Value.float .f32) w a1 c1 v) (hs : Rd (Value.int .i64) w a2 c2 ss) :
    Calls Try.prog 44 #[.slice a1 v.length c1, .slice a2 ss.length c2] w (RetSB Value.bool 4 w (plR v ss) (skB v ss)) := by
  obtain ⟨L, hL⟩ : ∃ L, skR v ss = L := ⟨_, rfl⟩
  obtain ⟨b, hB⟩ : ∃ b, skB v ss = b := ⟨_, rfl⟩
  have hl : L.length ≤ 32 := by rw [← hL]; exact skR_len v ss
  have HN : b = false → L = [] := by intro h; rw [← hL]; exact skR_no (hB.trans h)
  have e1 : plR v ss = L.map geB := by rw [plR, hL]
  rw [e1, hB]
  have HLL := Lib.hid hL
  have HBB := Lib.hid hB
  have HN := Lib.hid HN
  clear e1 hL hB
  go_enter Try.func44, Try.ntmps44
  go_wp2_with fail
  refine (implSk_any hv hs).mono ?_
  rintro e w1 ⟨a, c, rfl, ho, hb⟩
  rw [HLL.out] at ho
  rw [HLL.out, HBB.out]
  cases b with
  | false =>
    obtain rfl := HN.out rfl
    go_wp2
    go_ret2
    exact retSB_no hb
  | true =>
    have HO := Lib.hid ho
    have hsz := hb.size
    clear ho
    go_wp2_with fail
    go_loopw [8, 10, 22] (fun o _ i wr => ∃ (k : Nat) (a' : Option Addr) (c' : Nat) (O : List Bool), k ≤ L.length ∧ i = .int .i64 k ∧ o = .slice a' O.length c' ∧ Own Value.bool 4 wr w1.heap.size a' c' O ∧ Hid (O = (L.take k).map geB) ∧ Below w1.heap.size w1 wr) (fun _ _ i _ => L.length - (intOf i).toNat)
    case atStart => exact ⟨0, _, _, [], Nat.zero_le _, rfl, rfl, own_empty w1 _ (Nat.le_refl _) rfl, by show _ = _; rfl, (Below.refl _ _).alloc (Nat.le_refl _) _⟩
    case round =>
      obtain ⟨k, a', c', O, hk, rfl, rfl, ho, HM, hbr⟩ := hrel
      have HOO := Lib.hid ho
      have hz := hbr.size
      have hr := HO.out.rd.below hbr (Nat.le_refl _)
      clear ho
      have hOl : O.length ≤ 32 := by rw [HM.out]; simp; omega
      by_cases hlt : k < L.length
      · have hix := hr.idx und_fs siz_fs
        have hcx := hr.cell k hlt
        simp only [List.getElem?_eq_getElem hlt, Option.getD_some] at hcx
        obtain ⟨x, hx⟩ : ∃ x, L[k] = x := ⟨_, rfl⟩
        rw [hx] at hcx
        have HX := Lib.hid hx
        clear hx
        go_wp2_with (at_builtin; refine wpl_append1 (f := Value.bool) (d := false) (base := w1.heap.size) und_bse info_b (fun _ => rfl) _ HOO.out rfl _ _ rfl rfl rfl (by omega) (by omega) hz ?_; intro a3 c3 w5 ho3 hg3)
        have hb5 := hbr.trans (grown_belowOwn HOO.out hg3 (Nat.le_refl _) hz)
        go_roundw
        case rel => exact ⟨k + 1, a3, c3, _, by omega, by go_num, by rw [List.length_append]; rfl, ho3, map_snoc geB hlt HX.out HM.out, hb5⟩
        case measure => simp [intOf]; omega
      · obtain rfl : k = L.length := by omega
        go_wp2
        go_ret2
        have h := HM.out
        rw [List.take_length] at h
        rw [← h]
        exact ⟨a', c', rfl, HOO.out.mono hsz, hb.trans (hbr.mono hsz)⟩

end Go.Proofs.Ytfclkbppmkjkeaa

namespace Go.Proofs.Ytfclkbppmkjkeaa
open Go.RowKit

def signRowOk (xs : List Nat) (s : Int) : Bool := isVec xs && isKey s
def signRowR (xs : List Nat) (s : Int) : Option Nat := if signRowOk xs s then ifFin (rowC xs s) else some 0
def signRowB (xs : List Nat) (s : Int) : Bool := signRowOk xs s && fin .f32 (rowC xs s)

set_option maxHeartbeats 400000 in
theorem implSignRow_any {a1 : Option Addr} {c1 : Nat} {xs : List Nat} {s : Int} {w : World} (hx : Rd (Value.float .f32) w a1 c1 xs) :
    Calls Try.prog 41 #[.slice a1 xs.length c1, .int .i64 s] w (RetFB w (signRowR xs s) (signRowB xs s)) := by
  cases h1 : isVec xs with
  | false =>
    go_enter Try.func41, Try.ntmps41
    go_wp2_with fail
    refine (isVector_any hx).mono ?_
    rintro e w1 ⟨rfl, hb1⟩
    go_wp2
    go_ret2
    exact ⟨0, by simp [signRowB, signRowOk, h1], by simp [signRowR, signRowOk, h1, cn_zero], hb1⟩
  | true =>
    cases h2 : isKey s with
    | false =>
      go_enter Try.func41, Try.ntmps41
      go_wp2_with fail
      refine (isVector_any hx).mono ?_
      rintro e w1 ⟨rfl, hb1⟩
      go_wp2_with fail
      refine implIsKey_any.mono ?_
      rintro e w2 ⟨rfl, rfl⟩
      go_wp2
      go_ret2
      exact ⟨0, by simp [signRowB, signRowOk, h2], by simp [signRowR, signRowOk, h2, cn_zero], hb1⟩
    | true =>
      go_enter Try.func41, Try.ntmps41
      go_wp2_with fail
      refine (isVector_any hx).mono ?_
      rintro e w1 ⟨rfl, hb1⟩
      go_wp2_with fail
      refine implIsKey_any.mono ?_
      rintro e w2 ⟨rfl, rfl⟩
      go_wp2_with fail
      refine (signRow_any (hx.below hb1 (Nat.le_refl _)) (isKey_bd h2).1 (isKey_bd h2).2 (by have := isVec_len h1; omega)).mono ?_
      rintro e w2 ⟨r, rfl, hr, hb2⟩
      have B2 : Below w.heap.size w w2 := hb1.trans (hb2.mono hb1.size)
      have HR := Lib.hid hr
      clear hr hb1 hb2
      go_wp2_with fail
      refine ifFinite_any.mono ?_
      rintro e w4 ⟨p, rfl, hp, hb4⟩
      have HP := Lib.hid hp
      clear hp
      go_wp2
      go_ret2
      refine ⟨p, ?_, ?_, B2.trans (hb4.mono B2.size)⟩
      · rw [HR.out]; simp [signRowB, signRowOk, h1, h2]
      · rw [HP.out, HR.out]; simp [signRowR, signRowOk, h1, h2]

end Go.Proofs.Ytfclkbppmkjkeaa
