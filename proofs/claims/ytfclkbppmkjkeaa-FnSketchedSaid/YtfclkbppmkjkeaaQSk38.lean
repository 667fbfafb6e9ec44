/- A list of quarters that a source draws; the distance of two doubles: the helpers of the laws. What is told of sketches of small numbers: plain; SameNumber of a number and itself. -/
import Derived.Test.YtfclkbppmkjkeaaQSk37
import Derived.Test.YtfclkbppmkjkeaaQSk30
import Derived.Test.YtfclkbppmkjkeaaQSk5
import Derived.Test.YtfclkbppmkjkeaaQSk20
import Derived.Test.YtfclkbppmkjkeaaQSk10
import Derived.Test.YtfclkbppmkjkeaaQSk33
import Derived.Test.YtfclkbppmkjkeaaQSk4
import Derived.Test.YtfclkbppmkjkeaaQSk17
import Derived.Laws.BitsAllLaws
import Derived.Laws.Externs
namespace Go.Proofs.Ytfclkbppmkjkeaa
open Go.RowKit
attribute [local go_sem ↓] Go.wp_at_zero Go.wp_at_succ

set_option maxRecDepth 20000 in
set_option maxHeartbeats 4000000 in
theorem b10List_any {a : Option Addr} {c : Nat} {xs : List Int} {n : Nat} {w : World} (hr : Rd (Value.int .u8) w a c xs) (hb : ∀ x ∈ xs, 0 ≤ x ∧ x < 256) (hn : n ≤ 1024) :
    Calls Try.prog 33 #[.slice a xs.length c, .int .i64 (n : Int)] w fun e w' => ∃ a' c' fs zs, e = .returned (.slice a' n c') ∧ fs.length = n ∧ DyL 2 fs zs ∧ (∀ z ∈ zs, z.natAbs ≤ 16) ∧ Own (Value.float .f32) 28 w' w.heap.size a' c' fs ∧ Below w.heap.size w w' := by
  have HS := Lib.hid (src_new hr hb)
  have HH : Hid (0 < xs.length → ∀ p, a = some p → p.block < w.heap.size) := Lib.hid (fun h0 p hp => by obtain ⟨g, o, e, hlt⟩ := hr.here h0; rw [e] at hp; simp at hp; subst hp; exact hlt)
  have HB0 := Lib.hid ((Below.refl w.heap.size w).alloc (Nat.le_refl _) (.cells #[.slice a xs.length c, .int .i64 0, .int .u64 0] 127))
  have hsz : (w.alloc (.cells #[.slice a xs.length c, .int .i64 0, .int .u64 0] 127)).heap.size = w.heap.size + 1 := Array.size_push _
  clear hr hb
  go_enter Try.func33, Try.ntmps33
  go_wp2_with fail
  refine l00From_any.mono ?_
  rintro e w1 ⟨rfl, rfl⟩
  generalize w.alloc (.cells #[.slice a xs.length c, .int .i64 0, .int .u64 0] 127) = w1 at *
  have HE := Lib.hid (own_empty (f := Value.float .f32) (e := 28) (α := Nat) w1 (by_ := 0) (w.heap.size + 1) (by omega) rfl)
  have HB1 := Lib.hid (HB0.out.alloc (by omega) (.cells #[] 28))
  have HS1 := Lib.hid (HS.out.below ((Below.refl w1.heap.size w1).alloc (Nat.le_refl _) (.cells #[] 28)) (Nat.le_refl _))
  clear HS HB0 hsz
  go_wp2_with fail
  go_loopw [1, 6] (fun nv ov wr => ∃ (k : Nat) (b : Option Addr) (cc : Nat) (fs : List Nat) (zs : List Int), k ≤ n ∧ nv = .int .i64 ((n - k : Nat) : Int) ∧ ov = .slice b k cc ∧ fs.length = k ∧ Hid (DyL 2 fs zs) ∧ Hid (∀ z ∈ zs, z.natAbs ≤ 16) ∧ Hid (Own (Value.float .f32) 28 wr (w.heap.size + 1) b cc fs) ∧ Hid (Src wr w.heap.size a c xs k) ∧ Hid (Below w.heap.size w wr)) (fun nv _ _ => (intOf nv).toNat)
  case atStart => exact ⟨0, _, _, [], [], by omega, rfl, rfl, rfl, Lib.hid ⟨rfl, fun i hi => absurd hi (Nat.not_lt_zero _)⟩, Lib.hid (by simp), HE, HS1, HB1⟩
  case round =>
    clear HE HB1 HS1
    obtain ⟨k, b, cc, fs, zs, hk, rfl, rfl, hzl, HD, HZ, HO, HS, HB⟩ := hrel
    by_cases hlt : k < n
    · obtain ⟨wi, rfl⟩ : ∃ wi : World, wi = wr := ⟨_, rfl⟩
      have z1 : (0 : Int) < ((n - k : Nat) : Int) := by omega
      have ewn : IntKind.i64.wrap (((n - k : Nat) : Int) - 1) = ((n - (k + 1) : Nat) : Int) := by rw [IntWalk.i64_in _ (by omega)]; omega
      go_wp2_with fail
      refine (pick_any (n := 33) HS.out (by omega) (by omega) (by omega)).mono ?_
      rintro e w2 ⟨v, rfl, hv, hs2, hg2⟩
      have HO2 := Lib.hid (HO.out.kept hg2 (fun g hg p hp => by
        have h1 := HO.out.blk p hp
        simp only [Option.some.injEq] at hg
        omega))
      have HB2 := Lib.hid (HB.out.grown hg2 HB.out.size (fun k hk => by simp only [Option.some.injEq] at hk; omega))
      have HS2 := Lib.hid hs2
      have hz2 : w.heap.size + 1 ≤ w2.heap.size := by have := hs2.lt; omega
      clear hs2 hg2 HO HB HS
      have ewv : IntKind.i64.wrap ((v : Int) - 16) = (v : Int) - 16 := IntWalk.i64_in _ (by omega)
      have hcv : ∀ w' : World, (convert 2 28 (.int .i64 ((v : Int) - 16))).run Try.prog w' = .ok (.float .f32 (floatOfInt .f32 ((v : Int) - 16))) w' := fun w' => run_convert_int_float w' _ _ _ _ _ (by kernel_rfl) und_f32k
      have hq := dy_quo4 (dy_int (z := (v : Int) - 16) (by omega)) (by omega)
      have ha := ar3 hq.1 28
      have e4 : cFour = 1082130432 := rfl
      have HX := Lib.hid hq.2
      generalize fo3 .quo (floatOfInt .f32 ((v : Int) - 16)) cFour = y at ha HX
      rw [e4] at ha
      generalize floatOfInt .f32 ((v : Int) - 16) = fv at ha hcv
      clear hq e4
      subst hzl
      go_wp2_with (at_builtin; refine wpl_append1 (f := Value.float .f32) (d := 0) (base := w.heap.size + 1) und_fse info_f (fun _ => rfl) y HO2.out rfl _ _ rfl rfl rfl (by omega) (by omega) hz2 ?_; intro a4 c4 w4 ho4 hg4)
      go_roundw
      case rel =>
        refine ⟨fs.length + 1, a4, c4, fs ++ [y], zs ++ [(v : Int) - 16], by omega, by first | rfl | (congr 1), by simp, by simp, Lib.hid (HD.out.snoc HX.out), Lib.hid (fun z hz => ?_), Lib.hid ho4, Lib.hid (HS2.out.kept hg4 ?_ ?_), Lib.hid (HB2.out.trans (grown_belowOwn HO2.out hg4 (by omega) (by omega)))⟩
        · rcases List.mem_append.1 hz with h | h
          · exact HZ.out z h
          · simp at h; omega
        · intro e
          cases b with
          | none => simp at e
          | some p =>
            have h1 := HO2.out.blk p rfl
            simp only [Option.map_some, Option.some.injEq] at e
            omega
        · intro h0 p hp e
          have h2 := HH.out h0 p hp
          cases b with
          | none => simp at e
          | some q =>
            have h1 := HO2.out.blk q rfl
            simp only [Option.map_some, Option.some.injEq] at e
            omega
      case measure => simp [intOf]; omega
    · obtain rfl : k = n := by omega
      have z1 : ¬ (0 : Int) < ((k - k : Nat) : Int) := by omega
      go_wp2
      go_ret
      exact ⟨b, cc, rfl, fs, hzl, zs, HD.out, HZ.out, HO.out.mono (by omega), HB.out⟩

/-! ### The distance -/
def gapT (a b : Nat) : Nat := if val .f64 a < val .f64 b then fo .sub b a else fo .sub a b
theorem gapT_val {a b : Nat} (ha : isN .f64 a) (hb : isN .f64 b) (h1 : -1024 ≤ val .f64 a - val .f64 b) (h2 : val .f64 a - val .f64 b ≤ 1024) : GapOk a b ∧ isN .f64 (gapT a b) ∧ (∀ V, Rep .f64 V → val .f64 a - val .f64 b ≤ V → val .f64 b - val .f64 a ≤ V → val .f64 (gapT a b) ≤ V) := by
  have d := fo_sub ha hb h1 h2
  have e := fo_sub hb ha (by grind) (by grind)
  refine ⟨⟨d.1, e.1, d.2.1, e.2.1⟩, ?_, ?_⟩
  · unfold gapT; split
    · exact e.2.1
    · exact d.2.1
  · intro V hV v1 v2
    unfold gapT; split
    · exact e.2.2.up V hV v2
    · exact d.2.2.up V hV v1
theorem rep64m (n : Int) (h : n.natAbs ≤ 1099511627776) : Rep .f64 ((n : Rat) * tp (-20)) := ⟨n, -20, by show n.natAbs ≤ 2 ^ 53; omega, by decide, rfl⟩
/-- Small: not greater than 0.001, less than it. -/
theorem gapT_small {a b : Nat} (ha : isN .f64 a) (hb : isN .f64 b) (h1 : -(8 / 10000) ≤ val .f64 a - val .f64 b) (h2 : val .f64 a - val .f64 b ≤ 8 / 10000) : GapOk a b ∧ (FloatKind.f64.format.order (gapT a b) c001 == some .gt) = false ∧ FloatKind.f64.format.order (gapT a b) c001 = some .lt := by
  obtain ⟨g, n, u⟩ := gapT_val ha hb (by grind) (by grind)
  have hV := u _ (rep64m 900 (by decide)) (by rw [tp_m20]; grind) (by rw [tp_m20]; grind)
  rw [tp_m20] at hV
  have hc := v_c001
  have ho := (ord_is n n_c001).1 (by grind)
  refine ⟨g, by rw [ho]; rfl, ho⟩
theorem b10Gap_any {a b : Nat} {w : World} (ha : isN .f64 a) (hb : isN .f64 b) (h : GapOk a b) : Calls Try.prog 40 #[.float .f64 a, .float .f64 b] w fun e w' => e = .returned (.float .f64 (gapT a b)) ∧ w = w' := by
  have a1 := ar h.d 34
  have a2 := ar h.e 34
  by_cases hlt : val .f64 a < val .f64 b
  · have ho : FloatKind.f64.format.order a b = some .lt := (ord_is ha hb).1 hlt
    have e : gapT a b = fo .sub b a := if_pos hlt
    rw [e]
    clear e hlt h ha hb
    generalize fo .sub a b = d at *
    generalize fo .sub b a = e at *
    go_enter Try.func40, Try.ntmps40
    go_wp2
    go_ret
    exact ⟨rfl, rfl⟩
  · obtain ⟨o, ho, hol⟩ : ∃ o, FloatKind.f64.format.order a b = some o ∧ (some o == some Ordering.lt) = false := by
      refine ⟨_, order_val ha hb, ?_⟩
      rw [if_neg hlt]
      split <;> rfl
    have e : gapT a b = fo .sub a b := if_neg hlt
    rw [e]
    clear e hlt h ha hb
    generalize fo .sub a b = d at *
    generalize fo .sub b a = e at *
    go_enter Try.func40, Try.ntmps40
    go_wp2
    go_ret
    exact ⟨rfl, rfl⟩

end Go.Proofs.Ytfclkbppmkjkeaa

namespace Go.Proofs.Ytfclkbppmkjkeaa
open Go.RowKit
attribute [local go_sem ↓] Go.wp_at_zero Go.wp_at_succ

theorem l01Bits_any {x : Nat} {w : World} (h : FloatKind.f32.format.order x x = some .eq) : Calls Try.prog 142 #[.float .f32 x] w fun e w' => e = .returned (.int .i64 (wrap64 (x : Int))) ∧ w = w' := by
  have h1 : ∀ w' : World, (callFunc 183 #[.float .f32 x]).run Try.prog w' = .ok (.value (.int .u32 (x : Int))) w' := fun w' => by
    rw [run_callFunc_extern Try.func183 (by kernel_rfl) (by kernel_rfl) (by kernel_rfl) (e := Extern.MathFloatBits.float32bits) (by kernel_rfl)]; rfl
  go_enter Try.func142, Try.ntmps142
  go_wp2
  go_ret
  exact ⟨rfl, rfl⟩
theorem sameNumber_any {x : Nat} {w : World} (h : FloatKind.f32.format.order x x = some .eq) : Calls Try.prog 42 #[.float .f32 x, .float .f32 x] w fun e w' => e = .returned (.bool true) ∧ w = w' := by
  have HC : Hid (∀ w : World, Calls Try.prog 100 #[.float .f32 x, .float .f32 x] w fun e w' => e = .returned (.bool true) ∧ w = w') := Lib.hid (fun w => by
    have HB := Lib.hid (fun w : World => l01Bits_any (w := w) h)
    generalize wrap64 (x : Int) = m at HB
    have hm : (m == m) = true := beq_self_eq_true m
    clear h
    go_enter Try.func100, Try.ntmps100
    go_wp2_with fail
    refine (HB.out _).mono ?_
    rintro e w1 ⟨rfl, rfl⟩
    go_wp2_with fail
    refine (HB.out _).mono ?_
    rintro e w1 ⟨rfl, rfl⟩
    go_wp2
    go_ret
    exact ⟨rfl, rfl⟩)
  clear h
  go_enter Try.func42, Try.ntmps42
  go_wp2_with fail
  refine (HC.out _).mono ?_
  rintro e w1 ⟨rfl, rfl⟩
  go_wp2
  go_ret
  exact ⟨rfl, rfl⟩

/-! ### A vector of one number -/
def oneZ (n at_ : Nat) (k : Int) : List Int := (List.replicate n 0).set at_ k
theorem at0_oneZ {n a : Nat} {k : Int} (i : Nat) : at0 (oneZ n a k) i = if i = a ∧ i < n then k else 0 := by
  unfold at0 oneZ
  rw [List.getElem?_set]
  simp only [List.length_replicate, List.getElem?_replicate]
  by_cases h1 : i = a
  · subst h1
    by_cases h2 : i < n
    · simp [h2]
    · simp [h2]
  · have : ¬ a = i := fun e => h1 e.symm
    by_cases h2 : i < n
    · simp [h1, this, h2]
    · simp [h1, this, h2]
theorem rowZ_one {n a : Nat} {k : Int} (s : Int) (ha : a < n) : ∀ j, j ≤ n → rowZ (oneZ n a k) s j = if a < j then k * sgn (a : Int) s else 0
  | 0, _ => by simp [rowZ]
  | j + 1, hj => by
    have e : rowZ (oneZ n a k) s (j + 1) = rowZ (oneZ n a k) s j + at0 (oneZ n a k) j * sgn (j : Int) s := rfl
    rw [e, rowZ_one s ha j (by omega), at0_oneZ]
    by_cases h1 : j = a
    · subst h1
      rw [if_neg (by omega), if_pos ⟨rfl, by omega⟩, if_pos (by omega), Int.zero_add]
    · rw [if_neg (show ¬ (j = a ∧ j < n) from fun h => h1 h.1), Int.zero_mul, Int.add_zero]
      by_cases h2 : a < j
      · rw [if_pos h2, if_pos (by omega)]
      · rw [if_neg h2, if_neg (by omega)]
theorem rowZ_one_all {n a : Nat} {k : Int} (s : Int) (ha : a < n) : rowZ (oneZ n a k) s n = k * sgn (a : Int) s := by
  rw [rowZ_one s ha n (Nat.le_refl _), if_pos ha]
theorem one_dyL {n a : Nat} {k : Int} {xs : List Nat} {y : Nat} (hx : xs = (List.replicate n 0).set a y) (hy : Dy 2 y k) : DyL 2 xs (oneZ n a k) := by
  subst hx
  refine ⟨by simp [oneZ], fun i hi => ?_⟩
  simp only [List.length_set, List.length_replicate] at hi
  rw [at0_oneZ, List.getElem?_set]
  by_cases h1 : a = i
  · subst h1
    simp only [List.length_replicate, hi, if_true, and_self, Option.getD_some]
    exact hy
  · rw [if_neg h1, if_neg (fun h => h1 h.1.symm), List.getElem?_replicate, if_pos hi]
    exact dy_zero 2
theorem oneZ_bd {n a : Nat} {k : Int} {B : Nat} (h : k.natAbs ≤ B) (i : Nat) : (at0 (oneZ n a k) i).natAbs ≤ B := by
  rw [at0_oneZ]; split
  · exact h
  · simp
theorem oneZ_len (n a : Nat) (k : Int) : (oneZ n a k).length = n := by simp [oneZ]
/-- Its rows. -/
def oneR (n a : Nat) (k : Int) (ss : List Int) : List Int := ss.map fun s => rowZ (oneZ n a k) s n
theorem oneR_pm {n a : Nat} {k : Int} {ss : List Int} (ha : a < n) : Pm k (oneR n a k ss) := by
  intro z hz
  obtain ⟨s, _, rfl⟩ := List.mem_map.1 hz
  rw [rowZ_one_all s ha]
  rcases sgn_cases (a : Int) s with g | g <;> rw [g] <;> omega

/-! ### Bits of planes -/
theorem geB_dy {s x : Nat} {e : Int} (h : Dy s x e) : geB x = decide (0 ≤ e) := by
  have hz : isN .f32 0 := v32_0.1
  have ho : FloatKind.f32.format.order x 0 = _ := order_val h.N hz
  have hp := tp_pos (-(s : Int))
  unfold geB
  rw [ho, v32_0.2, h.v]
  by_cases h0 : 0 ≤ e
  · have h1 : (0 : Rat) ≤ (e : Rat) * tp (-(s : Int)) := Rat.mul_nonneg (Rat.intCast_le_intCast (a := 0).2 h0) (Rat.le_of_lt hp)
    rw [if_neg (Rat.not_lt.2 h1), decide_eq_true h0]
    split <;> rfl
  · have h1 : (e : Rat) * tp (-(s : Int)) < 0 := by
      have h2 : (e : Rat) < 0 := Rat.intCast_lt_intCast (b := 0).2 (by omega)
      have := Rat.mul_lt_mul_of_pos_right h2 hp
      rwa [Rat.zero_mul] at this
    rw [if_pos h1, decide_eq_false h0]
    rfl
theorem plR_dy {v : List Nat} {ss : List Int} {zs : List Int} (h : DyL 2 (skR v ss) zs) : plR v ss = zs.map fun z => decide (0 ≤ z) := by
  unfold plR
  refine List.ext_getElem (by simp [h.len]) fun i h1 h2 => ?_
  simp only [List.length_map] at h1 h2
  rw [List.getElem_map, List.getElem_map, geB_dy (h.get h1)]
  congr 1
  unfold at0
  rw [List.getElem?_eq_getElem h2, Option.getD_some]
theorem diffs_self (xs : List Bool) : diffs xs xs = 0 := by
  unfold diffs
  rw [List.length_eq_zero_iff, List.filter_eq_nil_iff]
  intro p hp
  rw [List.zip_eq_zipWith, List.zipWith_self] at hp
  obtain ⟨x, _, rfl⟩ := List.mem_map.1 hp
  simp
theorem diffs_not : ∀ (xs : List Bool), diffs xs (xs.map (!·)) = xs.length
  | [] => rfl
  | x :: xs => by
    have h := diffs_not xs
    unfold diffs at h ⊢
    rw [List.map_cons, List.zip_cons_cons, List.filter_cons]
    have : (x != !x) = true := by cases x <;> rfl
    rw [if_pos this, List.length_cons, h, List.length_cons]
theorem plane_opp {n a : Nat} {k : Int} {ss : List Int} (ha : a < n) (hk : 1 ≤ k) : ((oneR n a (-k) ss).map fun z => decide (0 ≤ z)) = ((oneR n a k ss).map fun z => decide (0 ≤ z)).map (!·) := by
  unfold oneR
  rw [List.map_map, List.map_map, List.map_map]
  refine List.map_congr_left fun s _ => ?_
  show decide (0 ≤ rowZ (oneZ n a (-k)) s n) = !decide (0 ≤ rowZ (oneZ n a k) s n)
  rw [rowZ_one_all s ha, rowZ_one_all s ha]
  rcases sgn_cases (a : Int) s with g | g <;> rw [g]
  · rw [decide_eq_false (by omega), decide_eq_true (by omega)]; rfl
  · rw [decide_eq_true (by omega), decide_eq_false (by omega)]; rfl
/-- Half a turn; none. -/
def cHalfB : Nat := 1056964608
theorem angle_half {xs : List Bool} (h1 : 1 ≤ xs.length) (h2 : xs.length ≤ 16) : ∃ r, angleOk xs (xs.map (!·)) = true ∧ angleR xs (xs.map (!·)) = some r ∧ FloatKind.f32.format.order r cHalfB = some .eq := by
  have hok : angleOk xs (xs.map (!·)) = true := by simp [angleOk]; omega
  obtain ⟨a1, a2⟩ := fY_ok (z := (xs.length : Int)) (by omega)
  obtain ⟨b1, b2⟩ := fY_ok (z := 2 * (xs.length : Int)) (by omega)
  have hL : (1 : Rat) ≤ (xs.length : Rat) := Rat.natCast_le_natCast (a := 1).2 h1
  rw [Rat.intCast_natCast] at a2
  rw [Rat.intCast_mul, Rat.intCast_natCast] at b2
  have e2 : ((2 : Int) : Rat) = 2 := rfl
  rw [e2] at b2
  have q := fo3_quo (a := floatOfInt .f32 (xs.length : Int)) (b := floatOfInt .f32 (2 * (xs.length : Int))) (x := 1 / 2) a1 b1 (by show val .f32 (fY _) ≠ 0; rw [b2]; grind) (by show _ * val .f32 (fY _) = val .f32 (fY _); rw [a2, b2]; grind) (by decide +kernel) (by decide +kernel)
  have hv := q.2.2.exact ⟨1, -1, by decide, by decide, by decide +kernel⟩
  refine ⟨fo3 .quo (floatOfInt .f32 (xs.length : Int)) (floatOfInt .f32 (2 * (xs.length : Int))), hok, ?_, ?_⟩
  · unfold angleR
    rw [if_pos hok, diffs_not, cn_ofInt, cn_ofInt]
    exact q.1
  · exact ord_same3 q.2.1 (isN_of (by decide +kernel)) (by rw [hv]; decide +kernel)
theorem angle_none {xs : List Bool} (h1 : 1 ≤ xs.length) (h2 : xs.length ≤ 16) : ∃ r, angleOk xs xs = true ∧ angleR xs xs = some r ∧ FloatKind.f32.format.order r 0 = some .eq := by
  have hok : angleOk xs xs = true := by simp [angleOk]; omega
  obtain ⟨a1, a2⟩ := fY_ok (z := 0) (by omega)
  obtain ⟨b1, b2⟩ := fY_ok (z := 2 * (xs.length : Int)) (by omega)
  have hL : (1 : Rat) ≤ (xs.length : Rat) := Rat.natCast_le_natCast (a := 1).2 h1
  rw [Rat.intCast_mul, Rat.intCast_natCast] at b2
  have e2 : ((2 : Int) : Rat) = 2 := rfl
  rw [e2] at b2
  have q := fo3_quo (a := floatOfInt .f32 0) (b := floatOfInt .f32 (2 * (xs.length : Int))) (x := 0) a1 b1 (by show val .f32 (fY _) ≠ 0; rw [b2]; grind) (by show _ * val .f32 (fY _) = val .f32 (fY _); rw [a2, Rat.zero_mul]; rfl) (by decide +kernel) (by decide +kernel)
  have hv := q.2.2.exact (rep_zero _)
  refine ⟨fo3 .quo (floatOfInt .f32 0) (floatOfInt .f32 (2 * (xs.length : Int))), hok, ?_, ?_⟩
  · unfold angleR
    rw [if_pos hok, diffs_self, cn_ofInt, cn_ofInt]
    exact q.1
  · exact ord_same3 q.2.1 v32_0.1 (by rw [hv, v32_0.2])

/-! ### Gaps that are small -/
theorem wid_ok {b : Nat} (h : isN .f32 b) : isN .f64 (wid b) ∧ val .f64 (wid b) = val .f32 b := ⟨(wid_val h).1, (wid_val h).2.1⟩
/-- What is told of a gap. -/
structure GapS (a b : Nat) : Prop where
  n1 : isN .f64 a
  n2 : isN .f64 b
  g : GapOk a b
  no : (FloatKind.f64.format.order (gapT a b) c001 == some .gt) = false
  lt : FloatKind.f64.format.order (gapT a b) c001 = some .lt
theorem gapS_of {a b : Nat} (ha : isN .f64 a) (hb : isN .f64 b) (h1 : -(8 / 10000) ≤ val .f64 a - val .f64 b) (h2 : val .f64 a - val .f64 b ≤ 8 / 10000) : GapS a b := by
  obtain ⟨g1, g2, g3⟩ := gapT_small ha hb h1 h2
  exact ⟨ha, hb, g1, g2, g3⟩
theorem gap_norm {nb sb : Nat} {k : Int} (h1 : Dy 2 nb k) (h2 : Dy 2 sb k) : GapS (wid nb) (wid sb) := by
  obtain ⟨a1, a2⟩ := wid_ok h1.N
  obtain ⟨b1, b2⟩ := wid_ok h2.N
  have e : val .f64 (wid nb) - val .f64 (wid sb) = 0 := by rw [a2, b2, h1.v, h2.v]; grind
  exact gapS_of a1 b1 (by rw [e]; decide +kernel) (by rw [e]; decide +kernel)
theorem dy_val_bd {s b : Nat} {n : Int} (h : Dy s b n) {M : Nat} (hn : n.natAbs ≤ M * 2 ^ s) : -(M : Rat) ≤ val .f32 b ∧ val .f32 b ≤ (M : Rat) := by rw [h.v]; exact dy_bd hn
theorem gap_dot {db sb : Nat} {k : Int} (h1 : Dy 4 db (k * k)) (h2 : Dy 2 sb k) (k1 : 1 ≤ k) (k2 : k ≤ 16) :
    fbin .mul .f64 (some (wid sb)) (some (wid sb)) = some (fo .mul (wid sb) (wid sb)) ∧ GapS (wid db) (fo .mul (wid sb) (wid sb)) := by
  obtain ⟨a1, a2⟩ := wid_ok h1.N
  obtain ⟨b1, b2⟩ := wid_ok h2.N
  have e4 : tp (-((4 : Nat) : Int)) = tp (-((2 : Nat) : Int)) * tp (-((2 : Nat) : Int)) := by rw [tp_sq]; rfl
  have hv : val .f64 (wid db) = val .f64 (wid sb) * val .f64 (wid sb) := by rw [a2, b2, h1.v, h2.v, e4, Rat.intCast_mul]; grind
  obtain ⟨s1, s2⟩ := dy_val_bd h2 (M := 4) (by omega)
  have c : ((4 : Nat) : Rat) = 4 := rfl
  rw [c, ← b2] at s1 s2
  have u : val .f64 (wid sb) * val .f64 (wid sb) ≤ 16 ∧ 0 ≤ val .f64 (wid sb) * val .f64 (wid sb) := by
    rcases Rat.le_total (a := 0) (b := val .f64 (wid sb)) with h | h
    · exact ⟨by have := sq_le_of h s2; grind, Rat.mul_nonneg h h⟩
    · have h' : 0 ≤ -val .f64 (wid sb) := by grind
      have := sq_le_of h' (show -val .f64 (wid sb) ≤ 4 by grind)
      have := Rat.mul_nonneg h' h'
      exact ⟨by grind, by grind⟩
  have m := fo_mul b1 b1 (by grind) (by grind)
  have n := m.2.2.near64 (by grind) (by grind)
  exact ⟨m.1, gapS_of a1 m.2.1 (by rw [hv]; grind) (by rw [hv]; grind)⟩
theorem RN.near64w {x y : Rat} (h : RN .f64 x y) (h1 : -1024 ≤ x) (h2 : x ≤ 1024) : x - 1 / 4398046511104 ≤ y ∧ y ≤ x + 1 / 4398046511104 := by
  have hg : tp (-42) = 1 / 4398046511104 := by decide +kernel
  have hs : ((2 ^ fB .f64 : Nat) : Rat) * tp (-42) = 1024 := by rw [p52, hg]; decide +kernel
  have := h.near (g := -42) (by decide) (by rw [hs]; exact h1) (by rw [hs]; exact h2)
  rwa [hg] at this
/-- The square of the norm against the sum of the squares. -/
structure NearOk (r b : Nat) : Prop where
  m : fbin .mul .f64 (some (wid r)) (some (wid r)) = some (fo .mul (wid r) (wid r))
  mN : isN .f64 (fo .mul (wid r) (wid r))
  bN : isN .f64 (wid b)
  g : GapOk (fo .mul (wid r) (wid r)) (wid b)
  a : fbin .add .f64 (some c1) (some (wid b)) = some (fo .add c1 (wid b))
  p : fbin .mul .f64 (some c001) (some (fo .add c1 (wid b))) = some (fo .mul c001 (fo .add c1 (wid b)))
  no : (FloatKind.f64.format.order (gapT (fo .mul (wid r) (wid r)) (wid b)) (fo .mul c001 (fo .add c1 (wid b))) == some .gt) = false
theorem nearOk_of {r b : Nat} (hr : isN .f32 r) (hb : isN .f32 b) (r0 : 0 ≤ val .f32 r) (r1 : val .f32 r ≤ 15) (b0 : 0 ≤ val .f32 b) (b1 : val .f32 b ≤ 192) (h1 : val .f32 b - 1 / 10000 ≤ val .f32 r * val .f32 r) (h2 : val .f32 r * val .f32 r ≤ val .f32 b + 1 / 10000) : NearOk r b := by
  obtain ⟨a1, a2⟩ := wid_ok hr
  obtain ⟨c1', c2⟩ := wid_ok hb
  rw [← a2] at r0 r1 h1 h2
  rw [← c2] at b0 b1 h1 h2
  have m := fo_mul a1 a1 (by grind) (by grind)
  have mn := m.2.2.near64w (by grind) (by grind)
  obtain ⟨g, gn, gu⟩ := gapT_val m.2.1 c1' (by grind) (by grind)
  have hV := gu _ (rep64m 200 (by decide)) (by rw [tp_m20]; grind) (by rw [tp_m20]; grind)
  rw [tp_m20] at hV
  have a := fo_add n_1 c1' (by rw [v_1]; grind) (by rw [v_1]; grind)
  rw [v_1] at a
  have an := a.2.2.near64w (by grind) (by grind)
  have l1 := v_c001
  have l2 : val .f64 c001 < 1 / 100 := by decide +kernel
  have w1 := Rat.mul_le_mul_of_nonneg_right (Rat.le_of_lt l1) (show 0 ≤ val .f64 (fo .add c1 (wid b)) by grind)
  have w2 := Rat.mul_le_mul_of_nonneg_right (Rat.le_of_lt l2) (show 0 ≤ val .f64 (fo .add c1 (wid b)) by grind)
  have p := fo_mul n_c001 a.2.1 (by grind) (by grind)
  have pn := p.2.2.near64 (by grind) (by grind)
  have ho := (ord_is gn p.2.1).1 (by grind)
  exact ⟨m.1, m.2.1, c1', g, a.1, p.1, by show (FloatKind.f64.format.order _ (fo .mul c001 (fo .add c1 (wid b))) == _) = false; rw [ho]; rfl⟩
/-- Rows of a sum. -/
theorem gap_sum {x y z : Nat} {p q : Int} (hx : Dy 2 x p) (hy : Dy 2 y q) (hz : Dy 2 z (p + q)) (h1 : p.natAbs ≤ 1024) (h2 : q.natAbs ≤ 1024) :
    fbin .add .f64 (some (wid x)) (some (wid y)) = some (fo .add (wid x) (wid y)) ∧ GapS (fo .add (wid x) (wid y)) (wid z) := by
  obtain ⟨a1, a2⟩ := wid_ok hx.N
  obtain ⟨b1, b2⟩ := wid_ok hy.N
  obtain ⟨c1', c2⟩ := wid_ok hz.N
  have e : val .f64 (wid x) + val .f64 (wid y) = val .f64 (wid z) := by rw [a2, b2, c2, hx.v, hy.v, hz.v, Rat.intCast_add]; grind
  obtain ⟨s1, s2⟩ := dy_val_bd hz (M := 512) (by omega)
  have c : ((512 : Nat) : Rat) = 512 := rfl
  rw [c, ← c2] at s1 s2
  have a := fo_add a1 b1 (by rw [e]; grind) (by rw [e]; grind)
  rw [e] at a
  have n := a.2.2.near64w (by grind) (by grind)
  exact ⟨a.1, gapS_of a.2.1 c1' (by grind) (by grind)⟩
theorem rowZ_add {us vs ws : List Int} (h : ∀ i, at0 us i = at0 vs i + at0 ws i) (s : Int) : ∀ k, rowZ us s k = rowZ vs s k + rowZ ws s k
  | 0 => rfl
  | k + 1 => by
    have e : ∀ zs, rowZ zs s (k + 1) = rowZ zs s k + at0 zs k * sgn (k : Int) s := fun _ => rfl
    rw [e, e, e, rowZ_add h s k, h k, Int.add_mul]
    omega
/-- The norm of the shrunk vector. -/
theorem gap_shrink {r sb : Nat} {k : Int} (hr : isN .f32 r) (h : Dy 2 sb k) (h1 : (k : Rat) / 4 - 7 / 10000 ≤ val .f32 r) (h2 : val .f32 r ≤ (k : Rat) / 4 + 7 / 10000) : GapS (wid r) (wid sb) := by
  obtain ⟨a1, a2⟩ := wid_ok hr
  obtain ⟨b1, b2⟩ := wid_ok h.N
  have t2 : tp (-((2 : Nat) : Int)) = 1 / 4 := by decide +kernel
  have e : val .f64 (wid sb) = (k : Rat) / 4 := by rw [b2, h.v, t2]; grind
  exact gapS_of a1 b1 (by rw [a2, e]; grind) (by rw [a2, e]; grind)

/-! ### The contracts, for lists of lengths that have names -/
theorem sk_dy {a1 a2 : Option Addr} {c1 c2 L : Nat} {v : List Nat} {vz ss : List Int} {w : World} (hv : Rd (Value.float .f32) w a1 c1 v) (hs : Rd (Value.int .i64) w a2 c2 ss) (hd : DyL 2 v vz) (hb : ∀ i, (at0 vz i).natAbs ≤ 64) (hl : v.length = L) (h1 : 1 ≤ L) (h2 : L ≤ 32) (hsa : saltsB ss = true) :
    Calls Try.prog 34 #[.slice a1 L c1, .slice a2 ss.length c2] w fun e w' => ∃ a c, e = .returned (.tuple #[.slice a ss.length c, .bool true]) ∧ Rd (Value.float .f32) w' a c (skR v ss) ∧ Below w.heap.size w w' := by
  subst hl
  have hB := skB_dy hd hb h1 h2 hsa
  refine (implSk_any hv hs).mono ?_
  rw [hB]
  rintro e w' ⟨a, c, rfl, ho, hb'⟩
  rw [skR_length hB]
  exact ⟨a, c, rfl, ho.rd, hb'⟩
theorem normAbout_L {a1 : Option Addr} {c1 g s L : Nat} {xs : List Nat} {zs : List Int} {k : Int} {w : World} (hr : Rd (Value.float .f32) w a1 c1 xs) (hd : DyL 2 xs zs) (hz : Pm k zs) (h1 : 1 ≤ k) (h2 : k ≤ 16) (hxl : xs.length = L) (hl : L = g * s) (hg : 1 ≤ g) (hs : 1 ≤ s) (hn : L ≤ 16) :
    Calls Try.prog 35 #[.slice a1 L c1, .int .i64 (g : Int)] w fun e w' => ∃ b, e = .returned (.tuple #[.float .f32 b, .bool true]) ∧ Dy 2 b k ∧ Below w.heap.size w w' := by
  subst hxl; exact implNormAbout_dy hr hd hz h1 h2 hl hg hs hn
theorem dotAbout_L {a1 : Option Addr} {c1 g s L : Nat} {xs : List Nat} {zs : List Int} {k : Int} {w : World} (hr : Rd (Value.float .f32) w a1 c1 xs) (hd : DyL 2 xs zs) (hz : Pm k zs) (h1 : 1 ≤ k) (h2 : k ≤ 16) (hxl : xs.length = L) (hl : L = g * s) (hg : 1 ≤ g) (hs : 1 ≤ s) (hn : L ≤ 16) :
    Calls Try.prog 36 #[.slice a1 L c1, .slice a1 L c1, .int .i64 (g : Int)] w fun e w' => ∃ b, e = .returned (.tuple #[.float .f32 b, .bool true]) ∧ Dy 4 b (k * k) ∧ Below w.heap.size w w' := by
  subst hxl; exact implDotAbout_dy hr hd hz h1 h2 hl hg hs hn
/-- What NormOf and DotOf answer of a small vector. -/
theorem norm_dot {xs : List Nat} {zs : List Int} (h : DyL 2 xs zs) (hb : ∀ i, (at0 zs i).natAbs ≤ 16) (h1 : 1 ≤ xs.length) (h2 : xs.length ≤ 12) :
    ∃ r b, normR xs = some r ∧ normB xs = true ∧ dotR xs xs = some b ∧ dotB xs xs = true ∧ isN .f32 r ∧ isN .f32 b ∧ NearOk r b := by
  obtain ⟨b, r, e1, bN, b0, b1, e2, rN, r0, r1, g1, g2⟩ := norm_near h hb h1 h2
  have hv := h.vec h1 (by omega)
  refine ⟨r, b, ?_, ?_, ?_, ?_, rN, bN, nearOk_of rN bN r0 r1 b0 b1 g1 g2⟩
  · unfold normR ifFin; rw [if_pos hv, e1, e2, finIsN rN, if_pos rfl]
  · unfold normB; rw [hv, e1, e2, finIsN rN]; rfl
  · unfold dotR ifFin dotOk; rw [hv, e1, finIsN bN]; simp
  · unfold dotB dotOk; rw [hv, e1, finIsN bN]; simp
theorem normOf_L {a1 : Option Addr} {c1 L r : Nat} {xs : List Nat} {w : World} (hr : Rd (Value.float .f32) w a1 c1 xs) (hl : xs.length = L) (h1 : normR xs = some r) (h2 : normB xs = true) :
    Calls Try.prog 37 #[.slice a1 L c1] w fun e w' => e = .returned (.tuple #[.float .f32 r, .bool true]) ∧ Below w.heap.size w w' := by
  subst hl
  refine (implNormOf_any hr).mono ?_
  rw [h1, h2]
  rintro e w' ⟨q, rfl, hq, hb⟩
  obtain rfl := (cn_some hq).1
  exact ⟨rfl, hb⟩
theorem dotOf_L {a1 : Option Addr} {c1 L b : Nat} {xs : List Nat} {w : World} (hr : Rd (Value.float .f32) w a1 c1 xs) (hl : xs.length = L) (h1 : dotR xs xs = some b) (h2 : dotB xs xs = true) :
    Calls Try.prog 38 #[.slice a1 L c1, .slice a1 L c1] w fun e w' => e = .returned (.tuple #[.float .f32 b, .bool true]) ∧ Below w.heap.size w w' := by
  subst hl
  refine (implDotOf_any hr hr).mono ?_
  rw [h1, h2]
  rintro e w' ⟨q, rfl, hq, hb⟩
  obtain rfl := (cn_some hq).1
  exact ⟨rfl, hb⟩
theorem isVec_L {a1 : Option Addr} {c1 L : Nat} {xs : List Nat} {w : World} (hr : Rd (Value.float .f32) w a1 c1 xs) (hl : xs.length = L) (h : isVec xs = true) :
    Calls Try.prog 39 #[.slice a1 L c1] w fun e w' => e = .returned (.bool true) ∧ Below w.heap.size w w' := by
  subst hl
  have := isVector_any hr
  rwa [h] at this
/-- SignRow's answer is the sketch's number. -/
theorem signRow_L {a1 : Option Addr} {c1 L r : Nat} {s : Int} {xs : List Nat} {w : World} (hr : Rd (Value.float .f32) w a1 c1 xs) (hl : xs.length = L) (hv : isVec xs = true) (hs : isKey s = true) (h : rowC xs s = some r) (hN : isN .f32 r) :
    Calls Try.prog 41 #[.slice a1 L c1, .int .i64 s] w fun e w' => e = .returned (.tuple #[.float .f32 r, .bool true]) ∧ Below w.heap.size w w' := by
  subst hl
  have hok : signRowOk xs s = true := by unfold signRowOk; rw [hv, hs]; rfl
  have e1 : signRowR xs s = some r := by unfold signRowR ifFin; rw [hok, h, finIsN hN]; simp
  have e2 : signRowB xs s = true := by unfold signRowB; rw [hok, h, finIsN hN]; rfl
  refine (implSignRow_any hr).mono ?_
  rw [e1, e2]
  rintro e w' ⟨q, rfl, hq, hb⟩
  obtain rfl := (cn_some hq).1
  exact ⟨rfl, hb⟩
theorem shrink_L {a1 a2 : Option Addr} {c1 c2 L : Nat} {v : List Nat} {ss : List Int} {w : World} (hv : Rd (Value.float .f32) w a1 c1 v) (hs : Rd (Value.int .i64) w a2 c2 ss) (hl : v.length = L) (h1 : shB v ss = true) (h2 : (shR v ss).length = ss.length) :
    Calls Try.prog 43 #[.slice a1 L c1, .slice a2 ss.length c2] w fun e w' => ∃ a c, e = .returned (.tuple #[.slice a ss.length c, .bool true]) ∧ Rd (Value.float .f32) w' a c (shR v ss) ∧ Below w.heap.size w w' := by
  subst hl
  refine (implSh_any hv hs).mono ?_
  rw [h1]
  rintro e w' ⟨a, c, rfl, ho, hb'⟩
  rw [h2]
  exact ⟨a, c, rfl, ho.rd, hb'⟩
theorem plane_L {a1 a2 : Option Addr} {c1 c2 L : Nat} {v : List Nat} {ss : List Int} {bs : List Bool} {w : World} (hv : Rd (Value.float .f32) w a1 c1 v) (hs : Rd (Value.int .i64) w a2 c2 ss) (hl : v.length = L) (h1 : skB v ss = true) (h2 : plR v ss = bs) (h3 : bs.length = ss.length) :
    Calls Try.prog 44 #[.slice a1 L c1, .slice a2 ss.length c2] w fun e w' => ∃ a c, e = .returned (.tuple #[.slice a ss.length c, .bool true]) ∧ Rd Value.bool w' a c bs ∧ Below w.heap.size w w' := by
  subst hl
  refine (implPl_any hv hs).mono ?_
  rw [h1, h2]
  rintro e w' ⟨a, c, rfl, ho, hb'⟩
  rw [h3]
  exact ⟨a, c, rfl, ho.rd, hb'⟩
theorem angle_L {a1 a2 : Option Addr} {c1 c2 L r : Nat} {xs ys : List Bool} {w : World} (hx : Rd Value.bool w a1 c1 xs) (hy : Rd Value.bool w a2 c2 ys) (h1 : xs.length = L) (h2 : ys.length = L) (h3 : angleR xs ys = some r) (h4 : angleOk xs ys = true) :
    Calls Try.prog 45 #[.slice a1 L c1, .slice a2 L c2] w fun e w' => e = .returned (.tuple #[.float .f32 r, .bool true]) ∧ Below w.heap.size w w' := by
  have := implAngle_any hx hy
  rw [h1, h2, h3, h4] at this
  refine this.mono ?_
  rintro e w' ⟨q, rfl, hq, hb⟩
  obtain rfl := (cn_some hq).1
  exact ⟨rfl, hb⟩
/-- The number of the opposite. -/
def qN (k : Nat) : Nat := fo3 .quo (floatOfInt .f32 (k : Int)) cFour
theorem neg_quarter {k : Nat} (h : k ≤ 16) : Dy 2 (Op.negFloat .f32 (qN k)) (-(k : Int)) := by
  have hall : ∀ k : Fin 17, (match FloatKind.f32.decode (Op.negFloat .f32 (qN k.val)) with | .number .. => true | _ => false) = true ∧ val .f32 (Op.negFloat .f32 (qN k.val)) = ((-(k.val : Int) : Int) : Rat) * tp (-((2 : Nat) : Int)) := by decide +kernel
  obtain ⟨h1, h2⟩ := hall ⟨k, by omega⟩
  exact ⟨isN_of h1, h2⟩

end Go.Proofs.Ytfclkbppmkjkeaa
