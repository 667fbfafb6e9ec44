/- A list of quarters that a source draws; the distance of two doubles: the helpers of the laws. What is told of sketches of small numbers: plain; SameNumber of a number and itself. Lines and what leads back from them, against the table: plain. Lines, what leads back from them, and lines that slide: nearly: plain. Lines of a small vector, what leads back from them: nearly: plain. The way back, and lines that slide: nearly: plain. Lines that slide; the length of a complex number: nearly: plain. The length of a complex number that is small: plain, and both texts' LongOf; SameComplex; cmp.Compare of float32s. -/
import Derived.Test.YtfclkbppmkjkeaaQFq49
import Derived.Test.YtfclkbppmkjkeaaQFq42
import Derived.Test.YtfclkbppmkjkeaaQFq5
import Derived.Test.YtfclkbppmkjkeaaQFq31
import Derived.Test.YtfclkbppmkjkeaaQFq10
import Derived.Test.YtfclkbppmkjkeaaQFq45
import Derived.Test.YtfclkbppmkjkeaaQFq4
import Derived.Test.YtfclkbppmkjkeaaQFq20
import Derived.Laws.BitsAllLaws
import Derived.Laws.Externs
import Derived.Test.YtfclkbppmkjkeaaQFq23
namespace Go.Proofs.Ytfclkbppmkjkeaa
open Go.RowKit
attribute [local go_sem ↓] Go.wp_at_zero Go.wp_at_succ

set_option maxRecDepth 20000 in
set_option maxHeartbeats 4000000 in
theorem b10List_any {a : Option Addr} {c : Nat} {xs : List Int} {n : Nat} {w : World} (hr : Rd (Value.int .u8) w a c xs) (hb : ∀ x ∈ xs, 0 ≤ x ∧ x < 256) (hn : n ≤ 1024) :
    Calls Try.prog 33 #[.slice a xs.length c, .int .i64 (n : Int)] w fun e w' => ∃ a' c' fs zs, e = .returned (.slice a' n c') ∧ fs.length = n ∧ DyL 2 fs zs ∧ (∀ z ∈ zs, z.natAbs ≤ 16) ∧ Own (Value.float .f32) 28 w' w.heap.size a' c' fs ∧ Below w.heap.size w w' := by
  have HS := Lib.hid (src_new hr hb)
  have HH : Hid (0 < xs.length → ∀ p, a = some p → p.block < w.heap.size) := Lib.hid (fun h0 p hp => by obtain ⟨g, o, e, hlt⟩ := hr.here h0; rw [e] at hp; simp at hp; subst hp; exact hlt)
  have HB0 := Lib.hid ((Below.refl w.heap.size w).alloc (Nat.le_refl _) (.cells #[.slice a xs.length c, .int .i64 0, .int .u64 0] 127))
  have hsz : (w.alloc (.cells #[.slice a xs.length c, .int .i64 0, .int .u64 0] 127)).heap.size = w.heap.size + 1 := Array.size_push _
  clear hr hb
  go_enter Try.func33, Try.ntmps33
  go_wp2_with fail
  refine l00From_any.mono ?_
  rintro e w1 ⟨rfl, rfl⟩
  generalize w.alloc (.cells #[.slice a xs.length c, .int .i64 0, .int .u64 0] 127) = w1 at *
  have HE := Lib.hid (own_empty (f := Value.float .f32) (e := 28) (α := Nat) w1 (by_ := 0) (w.heap.size + 1) (by omega) rfl)
  have HB1 := Lib.hid (HB0.out.alloc (by omega) (.cells #[] 28))
  have HS1 := Lib.hid (HS.out.below ((Below.refl w1.heap.size w1).alloc (Nat.le_refl _) (.cells #[] 28)) (Nat.le_refl _))
  clear HS HB0 hsz
  go_wp2_with fail
  go_loopw [1, 6] (fun nv ov wr => ∃ (k : Nat) (b : Option Addr) (cc : Nat) (fs : List Nat) (zs : List Int), k ≤ n ∧ nv = .int .i64 ((n - k : Nat) : Int) ∧ ov = .slice b k cc ∧ fs.length = k ∧ Hid (DyL 2 fs zs) ∧ Hid (∀ z ∈ zs, z.natAbs ≤ 16) ∧ Hid (Own (Value.float .f32) 28 wr (w.heap.size + 1) b cc fs) ∧ Hid (Src wr w.heap.size a c xs k) ∧ Hid (Below w.heap.size w wr)) (fun nv _ _ => (intOf nv).toNat)
  case atStart => exact ⟨0, _, _, [], [], by omega, rfl, rfl, rfl, Lib.hid ⟨rfl, fun i hi => absurd hi (Nat.not_lt_zero _)⟩, Lib.hid (by simp), HE, HS1, HB1⟩
  case round =>
    clear HE HB1 HS1
    obtain ⟨k, b, cc, fs, zs, hk, rfl, rfl, hzl, HD, HZ, HO, HS, HB⟩ := hrel
    by_cases hlt : k < n
    · obtain ⟨wi, rfl⟩ : ∃ wi : World, wi = wr := ⟨_, rfl⟩
      have z1 : (0 : Int) < ((n - k : Nat) : Int) := by omega
      have ewn : IntKind.i64.wrap (((n - k : Nat) : Int) - 1) = ((n - (k + 1) : Nat) : Int) := by rw [IntWalk.i64_in _ (by omega)]; omega
      go_wp2_with fail
      refine (pick_any (n := 33) HS.out (by omega) (by omega) (by omega)).mono ?_
      rintro e w2 ⟨v, rfl, hv, hs2, hg2⟩
      have HO2 := Lib.hid (HO.out.kept hg2 (fun g hg p hp => by
        have h1 := HO.out.blk p hp
        simp only [Option.some.injEq] at hg
        omega))
      have HB2 := Lib.hid (HB.out.grown hg2 HB.out.size (fun k hk => by simp only [Option.some.injEq] at hk; omega))
      have HS2 := Lib.hid hs2
      have hz2 : w.heap.size + 1 ≤ w2.heap.size := by have := hs2.lt; omega
      clear hs2 hg2 HO HB HS
      have ewv : IntKind.i64.wrap ((v : Int) - 16) = (v : Int) - 16 := IntWalk.i64_in _ (by omega)
      have hcv : ∀ w' : World, (convert 2 28 (.int .i64 ((v : Int) - 16))).run Try.prog w' = .ok (.float .f32 (floatOfInt .f32 ((v : Int) - 16))) w' := fun w' => run_convert_int_float w' _ _ _ _ _ (by kernel_rfl) und_f32k
      have hq := dy_quo4 (dy_int (z := (v : Int) - 16) (by omega)) (by omega)
      have ha := ar3 hq.1 28
      have e4 : cFour = 1082130432 := rfl
      have HX := Lib.hid hq.2
      generalize fo3 .quo (floatOfInt .f32 ((v : Int) - 16)) cFour = y at ha HX
      rw [e4] at ha
      generalize floatOfInt .f32 ((v : Int) - 16) = fv at ha hcv
      clear hq e4
      subst hzl
      go_wp2_with (at_builtin; refine wpl_append1 (f := Value.float .f32) (d := 0) (base := w.heap.size + 1) und_fse info_f (fun _ => rfl) y HO2.out rfl _ _ rfl rfl rfl (by omega) (by omega) hz2 ?_; intro a4 c4 w4 ho4 hg4)
      go_roundw
      case rel =>
        refine ⟨fs.length + 1, a4, c4, fs ++ [y], zs ++ [(v : Int) - 16], by omega, by first | rfl | (congr 1), by simp, by simp, Lib.hid (HD.out.snoc HX.out), Lib.hid (fun z hz => ?_), Lib.hid ho4, Lib.hid (HS2.out.kept hg4 ?_ ?_), Lib.hid (HB2.out.trans (grown_belowOwn HO2.out hg4 (by omega) (by omega)))⟩
        · rcases List.mem_append.1 hz with h | h
          · exact HZ.out z h
          · simp at h; omega
        · intro e
          cases b with
          | none => simp at e
          | some p =>
            have h1 := HO2.out.blk p rfl
            simp only [Option.map_some, Option.some.injEq] at e
            omega
        · intro h0 p hp e
          have h2 := HH.out h0 p hp
          cases b with
          | none => simp at e
          | some q =>
            have h1 := HO2.out.blk q rfl
            simp only [Option.map_some, Option.some.injEq] at e
            omega
      case measure => simp [intOf]; omega
    · obtain rfl : k = n := by omega
      have z1 : ¬ (0 : Int) < ((k - k : Nat) : Int) := by omega
      go_wp2
      go_ret
      exact ⟨b, cc, rfl, fs, hzl, zs, HD.out, HZ.out, HO.out.mono (by omega), HB.out⟩

/-! ### The distance -/
def gapT (a b : Nat) : Nat := if val .f64 a < val .f64 b then fo .sub b a else fo .sub a b
theorem gapT_val {a b : Nat} (ha : isN .f64 a) (hb : isN .f64 b) (h1 : -1024 ≤ val .f64 a - val .f64 b) (h2 : val .f64 a - val .f64 b ≤ 1024) : GapOk a b ∧ isN .f64 (gapT a b) ∧ (∀ V, Rep .f64 V → val .f64 a - val .f64 b ≤ V → val .f64 b - val .f64 a ≤ V → val .f64 (gapT a b) ≤ V) := by
  have d := fo_sub ha hb h1 h2
  have e := fo_sub hb ha (by grind) (by grind)
  refine ⟨⟨d.1, e.1, d.2.1, e.2.1⟩, ?_, ?_⟩
  · unfold gapT; split
    · exact e.2.1
    · exact d.2.1
  · intro V hV v1 v2
    unfold gapT; split
    · exact e.2.2.up V hV v2
    · exact d.2.2.up V hV v1
theorem rep64m (n : Int) (h : n.natAbs ≤ 1099511627776) : Rep .f64 ((n : Rat) * tp (-20)) := ⟨n, -20, by show n.natAbs ≤ 2 ^ 53; omega, by decide, rfl⟩
/-- Small: not greater than 0.001, less than it. -/
theorem gapT_small {a b : Nat} (ha : isN .f64 a) (hb : isN .f64 b) (h1 : -(8 / 10000) ≤ val .f64 a - val .f64 b) (h2 : val .f64 a - val .f64 b ≤ 8 / 10000) : GapOk a b ∧ (FloatKind.f64.format.order (gapT a b) c001 == some .gt) = false ∧ FloatKind.f64.format.order (gapT a b) c001 = some .lt := by
  obtain ⟨g, n, u⟩ := gapT_val ha hb (by grind) (by grind)
  have hV := u _ (rep64m 900 (by decide)) (by rw [tp_m20]; grind) (by rw [tp_m20]; grind)
  rw [tp_m20] at hV
  have hc := v_c001
  have ho := (ord_is n n_c001).1 (by grind)
  refine ⟨g, by rw [ho]; rfl, ho⟩
theorem b10Gap_any {a b : Nat} {w : World} (ha : isN .f64 a) (hb : isN .f64 b) (h : GapOk a b) : Calls Try.prog 40 #[.float .f64 a, .float .f64 b] w fun e w' => e = .returned (.float .f64 (gapT a b)) ∧ w = w' := by
  have a1 := ar h.d 34
  have a2 := ar h.e 34
  by_cases hlt : val .f64 a < val .f64 b
  · have ho : FloatKind.f64.format.order a b = some .lt := (ord_is ha hb).1 hlt
    have e : gapT a b = fo .sub b a := if_pos hlt
    rw [e]
    clear e hlt h ha hb
    generalize fo .sub a b = d at *
    generalize fo .sub b a = e at *
    go_enter Try.func40, Try.ntmps40
    go_wp2
    go_ret
    exact ⟨rfl, rfl⟩
  · obtain ⟨o, ho, hol⟩ : ∃ o, FloatKind.f64.format.order a b = some o ∧ (some o == some Ordering.lt) = false := by
      refine ⟨_, order_val ha hb, ?_⟩
      rw [if_neg hlt]
      split <;> rfl
    have e : gapT a b = fo .sub a b := if_neg hlt
    rw [e]
    clear e hlt h ha hb
    generalize fo .sub a b = d at *
    generalize fo .sub b a = e at *
    go_enter Try.func40, Try.ntmps40
    go_wp2
    go_ret
    exact ⟨rfl, rfl⟩

end Go.Proofs.Ytfclkbppmkjkeaa

namespace Go.Proofs.Ytfclkbppmkjkeaa
open Go.RowKit
attribute [local go_sem ↓] Go.wp_at_zero Go.wp_at_succ

theorem l01Bits_any {x : Nat} {w : World} (h : FloatKind.f32.format.order x x = some .eq) : Calls Try.prog 142 #[.float .f32 x] w fun e w' => e = .returned (.int .i64 (wrap64 (x : Int))) ∧ w = w' := by
  have h1 : ∀ w' : World, (callFunc 183 #[.float .f32 x]).run Try.prog w' = .ok (.value (.int .u32 (x : Int))) w' := fun w' => by
    rw [run_callFunc_extern Try.func183 (by kernel_rfl) (by kernel_rfl) (by kernel_rfl) (e := Extern.MathFloatBits.float32bits) (by kernel_rfl)]; rfl
  go_enter Try.func142, Try.ntmps142
  go_wp2
  go_ret
  exact ⟨rfl, rfl⟩
theorem sameNumber_any {x : Nat} {w : World} (h : FloatKind.f32.format.order x x = some .eq) : Calls Try.prog 42 #[.float .f32 x, .float .f32 x] w fun e w' => e = .returned (.bool true) ∧ w = w' := by
  have HC : Hid (∀ w : World, Calls Try.prog 100 #[.float .f32 x, .float .f32 x] w fun e w' => e = .returned (.bool true) ∧ w = w') := Lib.hid (fun w => by
    have HB := Lib.hid (fun w : World => l01Bits_any (w := w) h)
    generalize wrap64 (x : Int) = m at HB
    have hm : (m == m) = true := beq_self_eq_true m
    clear h
    go_enter Try.func100, Try.ntmps100
    go_wp2_with fail
    refine (HB.out _).mono ?_
    rintro e w1 ⟨rfl, rfl⟩
    go_wp2_with fail
    refine (HB.out _).mono ?_
    rintro e w1 ⟨rfl, rfl⟩
    go_wp2
    go_ret
    exact ⟨rfl, rfl⟩)
  clear h
  go_enter Try.func42, Try.ntmps42
  go_wp2_with fail
  refine (HC.out _).mono ?_
  rintro e w1 ⟨rfl, rfl⟩
  go_wp2
  go_ret
  exact ⟨rfl, rfl⟩

/-! ### A vector of one number -/
def oneZ (n at_ : Nat) (k : Int) : List Int := (List.replicate n 0).set at_ k
theorem at0_oneZ {n a : Nat} {k : Int} (i : Nat) : at0 (oneZ n a k) i = if i = a ∧ i < n then k else 0 := by
  unfold at0 oneZ
  rw [List.getElem?_set]
  simp only [List.length_replicate, List.getElem?_replicate]
  by_cases h1 : i = a
  · subst h1
    by_cases h2 : i < n
    · simp [h2]
    · simp [h2]
  · have : ¬ a = i := fun e => h1 e.symm
    by_cases h2 : i < n
    · simp [h1, this, h2]
    · simp [h1, this, h2]
theorem rowZ_one {n a : Nat} {k : Int} (s : Int) (ha : a < n) : ∀ j, j ≤ n → rowZ (oneZ n a k) s j = if a < j then k * sgn (a : Int) s else 0
  | 0, _ => by simp [rowZ]
  | j + 1, hj => by
    have e : rowZ (oneZ n a k) s (j + 1) = rowZ (oneZ n a k) s j + at0 (oneZ n a k) j * sgn (j : Int) s := rfl
    rw [e, rowZ_one s ha j (by omega), at0_oneZ]
    by_cases h1 : j = a
    · subst h1
      rw [if_neg (by omega), if_pos ⟨rfl, by omega⟩, if_pos (by omega), Int.zero_add]
    · rw [if_neg (show ¬ (j = a ∧ j < n) from fun h => h1 h.1), Int.zero_mul, Int.add_zero]
      by_cases h2 : a < j
      · rw [if_pos h2, if_pos (by omega)]
      · rw [if_neg h2, if_neg (by omega)]
theorem rowZ_one_all {n a : Nat} {k : Int} (s : Int) (ha : a < n) : rowZ (oneZ n a k) s n = k * sgn (a : Int) s := by
  rw [rowZ_one s ha n (Nat.le_refl _), if_pos ha]
theorem one_dyL {n a : Nat} {k : Int} {xs : List Nat} {y : Nat} (hx : xs = (List.replicate n 0).set a y) (hy : Dy 2 y k) : DyL 2 xs (oneZ n a k) := by
  subst hx
  refine ⟨by simp [oneZ], fun i hi => ?_⟩
  simp only [List.length_set, List.length_replicate] at hi
  rw [at0_oneZ, List.getElem?_set]
  by_cases h1 : a = i
  · subst h1
    simp only [List.length_replicate, hi, if_true, and_self, Option.getD_some]
    exact hy
  · rw [if_neg h1, if_neg (fun h => h1 h.1.symm), List.getElem?_replicate, if_pos hi]
    exact dy_zero 2
theorem oneZ_bd {n a : Nat} {k : Int} {B : Nat} (h : k.natAbs ≤ B) (i : Nat) : (at0 (oneZ n a k) i).natAbs ≤ B := by
  rw [at0_oneZ]; split
  · exact h
  · simp
theorem oneZ_len (n a : Nat) (k : Int) : (oneZ n a k).length = n := by simp [oneZ]
/-- Its rows. -/
def oneR (n a : Nat) (k : Int) (ss : List Int) : List Int := ss.map fun s => rowZ (oneZ n a k) s n
theorem oneR_pm {n a : Nat} {k : Int} {ss : List Int} (ha : a < n) : Pm k (oneR n a k ss) := by
  intro z hz
  obtain ⟨s, _, rfl⟩ := List.mem_map.1 hz
  rw [rowZ_one_all s ha]
  rcases sgn_cases (a : Int) s with g | g <;> rw [g] <;> omega

/-! ### Bits of planes -/
theorem geB_dy {s x : Nat} {e : Int} (h : Dy s x e) : geB x = decide (0 ≤ e) := by
  have hz : isN .f32 0 := v32_0.1
  have ho : FloatKind.f32.format.order x 0 = _ := order_val h.N hz
  have hp := tp_pos (-(s : Int))
  unfold geB
  rw [ho, v32_0.2, h.v]
  by_cases h0 : 0 ≤ e
  · have h1 : (0 : Rat) ≤ (e : Rat) * tp (-(s : Int)) := Rat.mul_nonneg (Rat.intCast_le_intCast (a := 0).2 h0) (Rat.le_of_lt hp)
    rw [if_neg (Rat.not_lt.2 h1), decide_eq_true h0]
    split <;> rfl
  · have h1 : (e : Rat) * tp (-(s : Int)) < 0 := by
      have h2 : (e : Rat) < 0 := Rat.intCast_lt_intCast (b := 0).2 (by omega)
      have := Rat.mul_lt_mul_of_pos_right h2 hp
      rwa [Rat.zero_mul] at this
    rw [if_pos h1, decide_eq_false h0]
    rfl
theorem plR_dy {v : List Nat} {ss : List Int} {zs : List Int} (h : DyL 2 (skR v ss) zs) : plR v ss = zs.map fun z => decide (0 ≤ z) := by
  unfold plR
  refine List.ext_getElem (by simp [h.len]) fun i h1 h2 => ?_
  simp only [List.length_map] at h1 h2
  rw [List.getElem_map, List.getElem_map, geB_dy (h.get h1)]
  congr 1
  unfold at0
  rw [List.getElem?_eq_getElem h2, Option.getD_some]
theorem diffs_self (xs : List Bool) : diffs xs xs = 0 := by
  unfold diffs
  rw [List.length_eq_zero_iff, List.filter_eq_nil_iff]
  intro p hp
  rw [List.zip_eq_zipWith, List.zipWith_self] at hp
  obtain ⟨x, _, rfl⟩ := List.mem_map.1 hp
  simp
theorem diffs_not : ∀ (xs : List Bool), diffs xs (xs.map (!·)) = xs.length
  | [] => rfl
  | x :: xs => by
    have h := diffs_not xs
    unfold diffs at h ⊢
    rw [List.map_cons, List.zip_cons_cons, List.filter_cons]
    have : (x != !x) = true := by cases x <;> rfl
    rw [if_pos this, List.length_cons, h, List.length_cons]
theorem plane_opp {n a : Nat} {k : Int} {ss : List Int} (ha : a < n) (hk : 1 ≤ k) : ((oneR n a (-k) ss).map fun z => decide (0 ≤ z)) = ((oneR n a k ss).map fun z => decide (0 ≤ z)).map (!·) := by
  unfold oneR
  rw [List.map_map, List.map_map, List.map_map]
  refine List.map_congr_left fun s _ => ?_
  show decide (0 ≤ rowZ (oneZ n a (-k)) s n) = !decide (0 ≤ rowZ (oneZ n a k) s n)
  rw [rowZ_one_all s ha, rowZ_one_all s ha]
  rcases sgn_cases (a : Int) s with g | g <;> rw [g]
  · rw [decide_eq_false (by omega), decide_eq_true (by omega)]; rfl
  · rw [decide_eq_true (by omega), decide_eq_false (by omega)]; rfl
/-- Half a turn; none. -/
def cHalfB : Nat := 1056964608
theorem angle_half {xs : List Bool} (h1 : 1 ≤ xs.length) (h2 : xs.length ≤ 16) : ∃ r, angleOk xs (xs.map (!·)) = true ∧ angleR xs (xs.map (!·)) = some r ∧ FloatKind.f32.format.order r cHalfB = some .eq := by
  have hok : angleOk xs (xs.map (!·)) = true := by simp [angleOk]; omega
  obtain ⟨a1, a2⟩ := fY_ok (z := (xs.length : Int)) (by omega)
  obtain ⟨b1, b2⟩ := fY_ok (z := 2 * (xs.length : Int)) (by omega)
  have hL : (1 : Rat) ≤ (xs.length : Rat) := Rat.natCast_le_natCast (a := 1).2 h1
  rw [Rat.intCast_natCast] at a2
  rw [Rat.intCast_mul, Rat.intCast_natCast] at b2
  have e2 : ((2 : Int) : Rat) = 2 := rfl
  rw [e2] at b2
  have q := fo3_quo (a := floatOfInt .f32 (xs.length : Int)) (b := floatOfInt .f32 (2 * (xs.length : Int))) (x := 1 / 2) a1 b1 (by show val .f32 (fY _) ≠ 0; rw [b2]; grind) (by show _ * val .f32 (fY _) = val .f32 (fY _); rw [a2, b2]; grind) (by decide +kernel) (by decide +kernel)
  have hv := q.2.2.exact ⟨1, -1, by decide, by decide, by decide +kernel⟩
  refine ⟨fo3 .quo (floatOfInt .f32 (xs.length : Int)) (floatOfInt .f32 (2 * (xs.length : Int))), hok, ?_, ?_⟩
  · unfold angleR
    rw [if_pos hok, diffs_not, cn_ofInt, cn_ofInt]
    exact q.1
  · exact ord_same3 q.2.1 (isN_of (by decide +kernel)) (by rw [hv]; decide +kernel)
theorem angle_none {xs : List Bool} (h1 : 1 ≤ xs.length) (h2 : xs.length ≤ 16) : ∃ r, angleOk xs xs = true ∧ angleR xs xs = some r ∧ FloatKind.f32.format.order r 0 = some .eq := by
  have hok : angleOk xs xs = true := by simp [angleOk]; omega
  obtain ⟨a1, a2⟩ := fY_ok (z := 0) (by omega)
  obtain ⟨b1, b2⟩ := fY_ok (z := 2 * (xs.length : Int)) (by omega)
  have hL : (1 : Rat) ≤ (xs.length : Rat) := Rat.natCast_le_natCast (a := 1).2 h1
  rw [Rat.intCast_mul, Rat.intCast_natCast] at b2
  have e2 : ((2 : Int) : Rat) = 2 := rfl
  rw [e2] at b2
  have q := fo3_quo (a := floatOfInt .f32 0) (b := floatOfInt .f32 (2 * (xs.length : Int))) (x := 0) a1 b1 (by show val .f32 (fY _) ≠ 0; rw [b2]; grind) (by show _ * val .f32 (fY _) = val .f32 (fY _); rw [a2, Rat.zero_mul]; rfl) (by decide +kernel) (by decide +kernel)
  have hv := q.2.2.exact (rep_zero _)
  refine ⟨fo3 .quo (floatOfInt .f32 0) (floatOfInt .f32 (2 * (xs.length : Int))), hok, ?_, ?_⟩
  · unfold angleR
    rw [if_pos hok, diffs_self, cn_ofInt, cn_ofInt]
    exact q.1
  · exact ord_same3 q.2.1 v32_0.1 (by rw [hv, v32_0.2])

/-! ### Gaps that are small -/
theorem wid_ok {b : Nat} (h : isN .f32 b) : isN .f64 (wid b) ∧ val .f64 (wid b) = val .f32 b := ⟨(wid_val h).1, (wid_val h).2.1⟩
/-- What is told of a gap. -/
structure GapS (a b : Nat) : Prop where
  n1 : isN .f64 a
  n2 : isN .f64 b
  g : GapOk a b
  no : (FloatKind.f64.format.order (gapT a b) c001 == some .gt) = false
  lt : FloatKind.f64.format.order (gapT a b) c001 = some .lt
theorem gapS_of {a b : Nat} (ha : isN .f64 a) (hb : isN .f64 b) (h1 : -(8 / 10000) ≤ val .f64 a - val .f64 b) (h2 : val .f64 a - val .f64 b ≤ 8 / 10000) : GapS a b := by
  obtain ⟨g1, g2, g3⟩ := gapT_small ha hb h1 h2
  exact ⟨ha, hb, g1, g2, g3⟩
theorem gap_norm {nb sb : Nat} {k : Int} (h1 : Dy 2 nb k) (h2 : Dy 2 sb k) : GapS (wid nb) (wid sb) := by
  obtain ⟨a1, a2⟩ := wid_ok h1.N
  obtain ⟨b1, b2⟩ := wid_ok h2.N
  have e : val .f64 (wid nb) - val .f64 (wid sb) = 0 := by rw [a2, b2, h1.v, h2.v]; grind
  exact gapS_of a1 b1 (by rw [e]; decide +kernel) (by rw [e]; decide +kernel)
theorem dy_val_bd {s b : Nat} {n : Int} (h : Dy s b n) {M : Nat} (hn : n.natAbs ≤ M * 2 ^ s) : -(M : Rat) ≤ val .f32 b ∧ val .f32 b ≤ (M : Rat) := by rw [h.v]; exact dy_bd hn
theorem gap_dot {db sb : Nat} {k : Int} (h1 : Dy 4 db (k * k)) (h2 : Dy 2 sb k) (k1 : 1 ≤ k) (k2 : k ≤ 16) :
    fbin .mul .f64 (some (wid sb)) (some (wid sb)) = some (fo .mul (wid sb) (wid sb)) ∧ GapS (wid db) (fo .mul (wid sb) (wid sb)) := by
  obtain ⟨a1, a2⟩ := wid_ok h1.N
  obtain ⟨b1, b2⟩ := wid_ok h2.N
  have e4 : tp (-((4 : Nat) : Int)) = tp (-((2 : Nat) : Int)) * tp (-((2 : Nat) : Int)) := by rw [tp_sq]; rfl
  have hv : val .f64 (wid db) = val .f64 (wid sb) * val .f64 (wid sb) := by rw [a2, b2, h1.v, h2.v, e4, Rat.intCast_mul]; grind
  obtain ⟨s1, s2⟩ := dy_val_bd h2 (M := 4) (by omega)
  have c : ((4 : Nat) : Rat) = 4 := rfl
  rw [c, ← b2] at s1 s2
  have u : val .f64 (wid sb) * val .f64 (wid sb) ≤ 16 ∧ 0 ≤ val .f64 (wid sb) * val .f64 (wid sb) := by
    rcases Rat.le_total (a := 0) (b := val .f64 (wid sb)) with h | h
    · exact ⟨by have := sq_le_of h s2; grind, Rat.mul_nonneg h h⟩
    · have h' : 0 ≤ -val .f64 (wid sb) := by grind
      have := sq_le_of h' (show -val .f64 (wid sb) ≤ 4 by grind)
      have := Rat.mul_nonneg h' h'
      exact ⟨by grind, by grind⟩
  have m := fo_mul b1 b1 (by grind) (by grind)
  have n := m.2.2.near64 (by grind) (by grind)
  exact ⟨m.1, gapS_of a1 m.2.1 (by rw [hv]; grind) (by rw [hv]; grind)⟩
theorem RN.near64w {x y : Rat} (h : RN .f64 x y) (h1 : -1024 ≤ x) (h2 : x ≤ 1024) : x - 1 / 4398046511104 ≤ y ∧ y ≤ x + 1 / 4398046511104 := by
  have hg : tp (-42) = 1 / 4398046511104 := by decide +kernel
  have hs : ((2 ^ fB .f64 : Nat) : Rat) * tp (-42) = 1024 := by rw [p52, hg]; decide +kernel
  have := h.near (g := -42) (by decide) (by rw [hs]; exact h1) (by rw [hs]; exact h2)
  rwa [hg] at this
/-- The square of the norm against the sum of the squares. -/
structure NearOk (r b : Nat) : Prop where
  m : fbin .mul .f64 (some (wid r)) (some (wid r)) = some (fo .mul (wid r) (wid r))
  mN : isN .f64 (fo .mul (wid r) (wid r))
  bN : isN .f64 (wid b)
  g : GapOk (fo .mul (wid r) (wid r)) (wid b)
  a : fbin .add .f64 (some c1) (some (wid b)) = some (fo .add c1 (wid b))
  p : fbin .mul .f64 (some c001) (some (fo .add c1 (wid b))) = some (fo .mul c001 (fo .add c1 (wid b)))
  no : (FloatKind.f64.format.order (gapT (fo .mul (wid r) (wid r)) (wid b)) (fo .mul c001 (fo .add c1 (wid b))) == some .gt) = false
theorem nearOk_of {r b : Nat} (hr : isN .f32 r) (hb : isN .f32 b) (r0 : 0 ≤ val .f32 r) (r1 : val .f32 r ≤ 15) (b0 : 0 ≤ val .f32 b) (b1 : val .f32 b ≤ 192) (h1 : val .f32 b - 1 / 10000 ≤ val .f32 r * val .f32 r) (h2 : val .f32 r * val .f32 r ≤ val .f32 b + 1 / 10000) : NearOk r b := by
  obtain ⟨a1, a2⟩ := wid_ok hr
  obtain ⟨c1', c2⟩ := wid_ok hb
  rw [← a2] at r0 r1 h1 h2
  rw [← c2] at b0 b1 h1 h2
  have m := fo_mul a1 a1 (by grind) (by grind)
  have mn := m.2.2.near64w (by grind) (by grind)
  obtain ⟨g, gn, gu⟩ := gapT_val m.2.1 c1' (by grind) (by grind)
  have hV := gu _ (rep64m 200 (by decide)) (by rw [tp_m20]; grind) (by rw [tp_m20]; grind)
  rw [tp_m20] at hV
  have a := fo_add n_1 c1' (by rw [v_1]; grind) (by rw [v_1]; grind)
  rw [v_1] at a
  have an := a.2.2.near64w (by grind) (by grind)
  have l1 := v_c001
  have l2 : val .f64 c001 < 1 / 100 := by decide +kernel
  have w1 := Rat.mul_le_mul_of_nonneg_right (Rat.le_of_lt l1) (show 0 ≤ val .f64 (fo .add c1 (wid b)) by grind)
  have w2 := Rat.mul_le_mul_of_nonneg_right (Rat.le_of_lt l2) (show 0 ≤ val .f64 (fo .add c1 (wid b)) by grind)
  have p := fo_mul n_c001 a.2.1 (by grind) (by grind)
  have pn := p.2.2.near64 (by grind) (by grind)
  have ho := (ord_is gn p.2.1).1 (by grind)
  exact ⟨m.1, m.2.1, c1', g, a.1, p.1, by show (FloatKind.f64.format.order _ (fo .mul c001 (fo .add c1 (wid b))) == _) = false; rw [ho]; rfl⟩
/-- Rows of a sum. -/
theorem gap_sum {x y z : Nat} {p q : Int} (hx : Dy 2 x p) (hy : Dy 2 y q) (hz : Dy 2 z (p + q)) (h1 : p.natAbs ≤ 1024) (h2 : q.natAbs ≤ 1024) :
    fbin .add .f64 (some (wid x)) (some (wid y)) = some (fo .add (wid x) (wid y)) ∧ GapS (fo .add (wid x) (wid y)) (wid z) := by
  obtain ⟨a1, a2⟩ := wid_ok hx.N
  obtain ⟨b1, b2⟩ := wid_ok hy.N
  obtain ⟨c1', c2⟩ := wid_ok hz.N
  have e : val .f64 (wid x) + val .f64 (wid y) = val .f64 (wid z) := by rw [a2, b2, c2, hx.v, hy.v, hz.v, Rat.intCast_add]; grind
  obtain ⟨s1, s2⟩ := dy_val_bd hz (M := 512) (by omega)
  have c : ((512 : Nat) : Rat) = 512 := rfl
  rw [c, ← c2] at s1 s2
  have a := fo_add a1 b1 (by rw [e]; grind) (by rw [e]; grind)
  rw [e] at a
  have n := a.2.2.near64w (by grind) (by grind)
  exact ⟨a.1, gapS_of a.2.1 c1' (by grind) (by grind)⟩
theorem rowZ_add {us vs ws : List Int} (h : ∀ i, at0 us i = at0 vs i + at0 ws i) (s : Int) : ∀ k, rowZ us s k = rowZ vs s k + rowZ ws s k
  | 0 => rfl
  | k + 1 => by
    have e : ∀ zs, rowZ zs s (k + 1) = rowZ zs s k + at0 zs k * sgn (k : Int) s := fun _ => rfl
    rw [e, e, e, rowZ_add h s k, h k, Int.add_mul]
    omega
/-- The norm of the shrunk vector. -/
theorem gap_shrink {r sb : Nat} {k : Int} (hr : isN .f32 r) (h : Dy 2 sb k) (h1 : (k : Rat) / 4 - 7 / 10000 ≤ val .f32 r) (h2 : val .f32 r ≤ (k : Rat) / 4 + 7 / 10000) : GapS (wid r) (wid sb) := by
  obtain ⟨a1, a2⟩ := wid_ok hr
  obtain ⟨b1, b2⟩ := wid_ok h.N
  have t2 : tp (-((2 : Nat) : Int)) = 1 / 4 := by decide +kernel
  have e : val .f64 (wid sb) = (k : Rat) / 4 := by rw [b2, h.v, t2]; grind
  exact gapS_of a1 b1 (by rw [a2, e]; grind) (by rw [a2, e]; grind)

/-! ### The contracts, for lists of lengths that have names -/
theorem sk_dy {a1 a2 : Option Addr} {c1 c2 L : Nat} {v : List Nat} {vz ss : List Int} {w : World} (hv : Rd (Value.float .f32) w a1 c1 v) (hs : Rd (Value.int .i64) w a2 c2 ss) (hd : DyL 2 v vz) (hb : ∀ i, (at0 vz i).natAbs ≤ 64) (hl : v.length = L) (h1 : 1 ≤ L) (h2 : L ≤ 32) (hsa : saltsB ss = true) :
    Calls Try.prog 34 #[.slice a1 L c1, .slice a2 ss.length c2] w fun e w' => ∃ a c, e = .returned (.tuple #[.slice a ss.length c, .bool true]) ∧ Rd (Value.float .f32) w' a c (skR v ss) ∧ Below w.heap.size w w' := by
  subst hl
  have hB := skB_dy hd hb h1 h2 hsa
  refine (implSk_any hv hs).mono ?_
  rw [hB]
  rintro e w' ⟨a, c, rfl, ho, hb'⟩
  rw [skR_length hB]
  exact ⟨a, c, rfl, ho.rd, hb'⟩
theorem normAbout_L {a1 : Option Addr} {c1 g s L : Nat} {xs : List Nat} {zs : List Int} {k : Int} {w : World} (hr : Rd (Value.float .f32) w a1 c1 xs) (hd : DyL 2 xs zs) (hz : Pm k zs) (h1 : 1 ≤ k) (h2 : k ≤ 16) (hxl : xs.length = L) (hl : L = g * s) (hg : 1 ≤ g) (hs : 1 ≤ s) (hn : L ≤ 16) :
    Calls Try.prog 35 #[.slice a1 L c1, .int .i64 (g : Int)] w fun e w' => ∃ b, e = .returned (.tuple #[.float .f32 b, .bool true]) ∧ Dy 2 b k ∧ Below w.heap.size w w' := by
  subst hxl; exact implNormAbout_dy hr hd hz h1 h2 hl hg hs hn
theorem dotAbout_L {a1 : Option Addr} {c1 g s L : Nat} {xs : List Nat} {zs : List Int} {k : Int} {w : World} (hr : Rd (Value.float .f32) w a1 c1 xs) (hd : DyL 2 xs zs) (hz : Pm k zs) (h1 : 1 ≤ k) (h2 : k ≤ 16) (hxl : xs.length = L) (hl : L = g * s) (hg : 1 ≤ g) (hs : 1 ≤ s) (hn : L ≤ 16) :
    Calls Try.prog 36 #[.slice a1 L c1, .slice a1 L c1, .int .i64 (g : Int)] w fun e w' => ∃ b, e = .returned (.tuple #[.float .f32 b, .bool true]) ∧ Dy 4 b (k * k) ∧ Below w.heap.size w w' := by
  subst hxl; exact implDotAbout_dy hr hd hz h1 h2 hl hg hs hn
/-- What NormOf and DotOf answer of a small vector. -/
theorem norm_dot {xs : List Nat} {zs : List Int} (h : DyL 2 xs zs) (hb : ∀ i, (at0 zs i).natAbs ≤ 16) (h1 : 1 ≤ xs.length) (h2 : xs.length ≤ 12) :
    ∃ r b, normR xs = some r ∧ normB xs = true ∧ dotR xs xs = some b ∧ dotB xs xs = true ∧ isN .f32 r ∧ isN .f32 b ∧ NearOk r b := by
  obtain ⟨b, r, e1, bN, b0, b1, e2, rN, r0, r1, g1, g2⟩ := norm_near h hb h1 h2
  have hv := h.vec h1 (by omega)
  refine ⟨r, b, ?_, ?_, ?_, ?_, rN, bN, nearOk_of rN bN r0 r1 b0 b1 g1 g2⟩
  · unfold normR ifFin; rw [if_pos hv, e1, e2, finIsN rN, if_pos rfl]
  · unfold normB; rw [hv, e1, e2, finIsN rN]; rfl
  · unfold dotR ifFin dotOk; rw [hv, e1, finIsN bN]; simp
  · unfold dotB dotOk; rw [hv, e1, finIsN bN]; simp
theorem normOf_L {a1 : Option Addr} {c1 L r : Nat} {xs : List Nat} {w : World} (hr : Rd (Value.float .f32) w a1 c1 xs) (hl : xs.length = L) (h1 : normR xs = some r) (h2 : normB xs = true) :
    Calls Try.prog 37 #[.slice a1 L c1] w fun e w' => e = .returned (.tuple #[.float .f32 r, .bool true]) ∧ Below w.heap.size w w' := by
  subst hl
  refine (implNormOf_any hr).mono ?_
  rw [h1, h2]
  rintro e w' ⟨q, rfl, hq, hb⟩
  obtain rfl := (cn_some hq).1
  exact ⟨rfl, hb⟩
theorem dotOf_L {a1 : Option Addr} {c1 L b : Nat} {xs : List Nat} {w : World} (hr : Rd (Value.float .f32) w a1 c1 xs) (hl : xs.length = L) (h1 : dotR xs xs = some b) (h2 : dotB xs xs = true) :
    Calls Try.prog 38 #[.slice a1 L c1, .slice a1 L c1] w fun e w' => e = .returned (.tuple #[.float .f32 b, .bool true]) ∧ Below w.heap.size w w' := by
  subst hl
  refine (implDotOf_any hr hr).mono ?_
  rw [h1, h2]
  rintro e w' ⟨q, rfl, hq, hb⟩
  obtain rfl := (cn_some hq).1
  exact ⟨rfl, hb⟩
theorem isVec_L {a1 : Option Addr} {c1 L : Nat} {xs : List Nat} {w : World} (hr : Rd (Value.float .f32) w a1 c1 xs) (hl : xs.length = L) (h : isVec xs = true) :
    Calls Try.prog 39 #[.slice a1 L c1] w fun e w' => e = .returned (.bool true) ∧ Below w.heap.size w w' := by
  subst hl
  have := isVector_any hr
  rwa [h] at this
/-- SignRow's answer is the sketch's number. -/
theorem signRow_L {a1 : Option Addr} {c1 L r : Nat} {s : Int} {xs : List Nat} {w : World} (hr : Rd (Value.float .f32) w a1 c1 xs) (hl : xs.length = L) (hv : isVec xs = true) (hs : isKey s = true) (h : rowC xs s = some r) (hN : isN .f32 r) :
    Calls Try.prog 41 #[.slice a1 L c1, .int .i64 s] w fun e w' => e = .returned (.tuple #[.float .f32 r, .bool true]) ∧ Below w.heap.size w w' := by
  subst hl
  have hok : signRowOk xs s = true := by unfold signRowOk; rw [hv, hs]; rfl
  have e1 : signRowR xs s = some r := by unfold signRowR ifFin; rw [hok, h, finIsN hN]; simp
  have e2 : signRowB xs s = true := by unfold signRowB; rw [hok, h, finIsN hN]; rfl
  refine (implSignRow_any hr).mono ?_
  rw [e1, e2]
  rintro e w' ⟨q, rfl, hq, hb⟩
  obtain rfl := (cn_some hq).1
  exact ⟨rfl, hb⟩
theorem shrink_L {a1 a2 : Option Addr} {c1 c2 L : Nat} {v : List Nat} {ss : List Int} {w : World} (hv : Rd (Value.float .f32) w a1 c1 v) (hs : Rd (Value.int .i64) w a2 c2 ss) (hl : v.length = L) (h1 : shB v ss = true) (h2 : (shR v ss).length = ss.length) :
    Calls Try.prog 43 #[.slice a1 L c1, .slice a2 ss.length c2] w fun e w' => ∃ a c, e = .returned (.tuple #[.slice a ss.length c, .bool true]) ∧ Rd (Value.float .f32) w' a c (shR v ss) ∧ Below w.heap.size w w' := by
  subst hl
  refine (implSh_any hv hs).mono ?_
  rw [h1]
  rintro e w' ⟨a, c, rfl, ho, hb'⟩
  rw [h2]
  exact ⟨a, c, rfl, ho.rd, hb'⟩
theorem plane_L {a1 a2 : Option Addr} {c1 c2 L : Nat} {v : List Nat} {ss : List Int} {bs : List Bool} {w : World} (hv : Rd (Value.float .f32) w a1 c1 v) (hs : Rd (Value.int .i64) w a2 c2 ss) (hl : v.length = L) (h1 : skB v ss = true) (h2 : plR v ss = bs) (h3 : bs.length = ss.length) :
    Calls Try.prog 44 #[.slice a1 L c1, .slice a2 ss.length c2] w fun e w' => ∃ a c, e = .returned (.tuple #[.slice a ss.length c, .bool true]) ∧ Rd Value.bool w' a c bs ∧ Below w.heap.size w w' := by
  subst hl
  refine (implPl_any hv hs).mono ?_
  rw [h1, h2]
  rintro e w' ⟨a, c, rfl, ho, hb'⟩
  rw [h3]
  exact ⟨a, c, rfl, ho.rd, hb'⟩
theorem angle_L {a1 a2 : Option Addr} {c1 c2 L r : Nat} {xs ys : List Bool} {w : World} (hx : Rd Value.bool w a1 c1 xs) (hy : Rd Value.bool w a2 c2 ys) (h1 : xs.length = L) (h2 : ys.length = L) (h3 : angleR xs ys = some r) (h4 : angleOk xs ys = true) :
    Calls Try.prog 45 #[.slice a1 L c1, .slice a2 L c2] w fun e w' => e = .returned (.tuple #[.float .f32 r, .bool true]) ∧ Below w.heap.size w w' := by
  have := implAngle_any hx hy
  rw [h1, h2, h3, h4] at this
  refine this.mono ?_
  rintro e w' ⟨q, rfl, hq, hb⟩
  obtain rfl := (cn_some hq).1
  exact ⟨rfl, hb⟩
/-- The number of the opposite. -/
def qN (k : Nat) : Nat := fo3 .quo (floatOfInt .f32 (k : Int)) cFour
theorem neg_quarter {k : Nat} (h : k ≤ 16) : Dy 2 (Op.negFloat .f32 (qN k)) (-(k : Int)) := by
  have hall : ∀ k : Fin 17, (match FloatKind.f32.decode (Op.negFloat .f32 (qN k.val)) with | .number .. => true | _ => false) = true ∧ val .f32 (Op.negFloat .f32 (qN k.val)) = ((-(k.val : Int) : Int) : Rat) * tp (-((2 : Nat) : Int)) := by decide +kernel
  obtain ⟨h1, h2⟩ := hall ⟨k, by omega⟩
  exact ⟨isN_of h1, h2⟩

end Go.Proofs.Ytfclkbppmkjkeaa

namespace Go.Proofs.Ytfclkbppmkjkeaa
open Go.RowKit

/-! ### The table -/
def eT : Rat := 1 / 8388608
def cP (n t : Nat) : Rat := (tC n (t % n) : Rat) * tp (-40)
def sP (n t : Nat) : Rat := (tS n (t % n) : Rat) * tp (-40)
def cN (n t : Nat) : Rat := (tC n ((n - t % n) % n) : Rat) * tp (-40)
def sN (n t : Nat) : Rat := (tS n ((n - t % n) % n) : Rat) * tp (-40)
theorem bothB_val {t n : Nat} (h : bothB t n = true) :
    ((-(1 / 8388608) ≤ val .f32 (narP (phaRe (quoT t n))) - cP n t ∧ val .f32 (narP (phaRe (quoT t n))) - cP n t ≤ 1 / 8388608) ∧ (-(1 / 8388608) ≤ val .f32 (narP (phaIm (quoT t n))) - sP n t ∧ val .f32 (narP (phaIm (quoT t n))) - sP n t ≤ 1 / 8388608)) ∧
    ((-(1 / 8388608) ≤ val .f32 (narP (phaRe (negT t n))) - cN n t ∧ val .f32 (narP (phaRe (negT t n))) - cN n t ≤ 1 / 8388608) ∧ (-(1 / 8388608) ≤ val .f32 (narP (phaIm (negT t n))) - sN n t ∧ val .f32 (narP (phaIm (negT t n))) - sN n t ≤ 1 / 8388608)) := by
  simpa [bothB, posB, negB, nearTab, cP, sP, cN, sN] using h

/-- Each point is on the unit circle, nearly: what is needed of it. -/
theorem tab_unit : ∀ n : Fin 13, ∀ r : Fin 12, r.val < n.val → (tC n.val r.val).natAbs ≤ 2 ^ 40 ∧ (tS n.val r.val).natAbs ≤ 2 ^ 40 ∧ (tC n.val r.val).natAbs + (tS n.val r.val).natAbs ≤ 1561000000000 := by decide +kernel
/-- The points' sums. -/
def ortI (n i j : Nat) : Nat → Int
  | 0 => 0
  | k + 1 => ortI n i j k + (tC n ((n - (i * k) % n) % n) * tC n ((j * k) % n) - tS n ((n - (i * k) % n) % n) * tS n ((j * k) % n))
theorem tab_ort : ∀ n : Fin 13, ∀ i : Fin 12, ∀ j : Fin 12, i.val < n.val → j.val < n.val → (ortI n.val i.val j.val n.val - (if i.val = j.val then (n.val : Int) * 2 ^ 80 else 0)).natAbs ≤ 2 ^ 50 := by decide +kernel
/-- A turn by one. -/
theorem tab_shift : ∀ n : Fin 13, ∀ j : Fin 12, ∀ k : Fin 12, j.val + 1 < n.val → k.val < n.val →
    ((tC n.val ((n.val - ((j.val + 1) * k.val) % n.val) % n.val) * tC n.val (k.val % n.val) - tS n.val ((n.val - ((j.val + 1) * k.val) % n.val) % n.val) * tS n.val (k.val % n.val)) - tC n.val ((n.val - (j.val * k.val) % n.val) % n.val) * 2 ^ 40).natAbs ≤ 2 ^ 50 ∧
    ((tC n.val ((n.val - ((j.val + 1) * k.val) % n.val) % n.val) * tS n.val (k.val % n.val) + tS n.val ((n.val - ((j.val + 1) * k.val) % n.val) % n.val) * tC n.val (k.val % n.val)) - tS n.val ((n.val - (j.val * k.val) % n.val) % n.val) * 2 ^ 40).natAbs ≤ 2 ^ 50 := by decide +kernel
theorem tab_last : ∀ n : Fin 13, ∀ k : Fin 12, k.val < n.val → tC n.val ((n.val - ((n.val - 1) * k.val) % n.val) % n.val) = tC n.val (k.val % n.val) ∧ tS n.val ((n.val - ((n.val - 1) * k.val) % n.val) % n.val) = tS n.val (k.val % n.val) := by decide +kernel
theorem tab_zero : ∀ n : Fin 13, 0 < n.val → tC n.val 0 = 2 ^ 40 ∧ tS n.val 0 = 0 := by decide +kernel

end Go.Proofs.Ytfclkbppmkjkeaa

namespace Go.Proofs.Ytfclkbppmkjkeaa
open Go.RowKit

theorem RN.nearG32 {x y : Rat} {g : Int} {M E : Rat} (h : RN .f32 x y) (hg : -149 ≤ g) (hM : 8388608 * tp g = M) (hE : tp g = E) (h1 : -M ≤ x) (h2 : x ≤ M) : x - E ≤ y ∧ y ≤ x + E := by
  have hs : ((2 ^ fB .f32 : Nat) : Rat) * tp g = M := by rw [p23]; exact hM
  have := h.near (g := g) hg (by rw [hs]; exact h1) (by rw [hs]; exact h2)
  rwa [hE] at this
theorem RN.n64 {x y : Rat} (h : RN .f32 x y) (h1 : -64 ≤ x) (h2 : x ≤ 64) : x - 1 / 131072 ≤ y ∧ y ≤ x + 1 / 131072 := h.nearG32 (g := -17) (by decide) (by decide +kernel) (by decide +kernel) h1 h2
theorem RN.n128 {x y : Rat} (h : RN .f32 x y) (h1 : -128 ≤ x) (h2 : x ≤ 128) : x - 1 / 65536 ≤ y ∧ y ≤ x + 1 / 65536 := h.nearG32 (g := -16) (by decide) (by decide +kernel) (by decide +kernel) h1 h2
theorem RN.n1024 {x y : Rat} (h : RN .f32 x y) (h1 : -1024 ≤ x) (h2 : x ≤ 1024) : x - 1 / 8192 ≤ y ∧ y ≤ x + 1 / 8192 := h.nearG32 (g := -13) (by decide) (by decide +kernel) (by decide +kernel) h1 h2

/-! ### The table's numbers -/
theorem tab_q {z : Int} {B : Nat} (h : z.natAbs ≤ B) : -((B : Rat) * (1 / 1099511627776)) ≤ (z : Rat) * tp (-40) ∧ (z : Rat) * tp (-40) ≤ (B : Rat) * (1 / 1099511627776) := by
  have v40 : tp (-40) = 1 / 1099511627776 := by decide +kernel
  have h1 : (z : Rat) ≤ ((B : Int) : Rat) := Rat.intCast_le_intCast.2 (by omega)
  have h2 : ((-(B : Int) : Int) : Rat) ≤ (z : Rat) := Rat.intCast_le_intCast.2 (by omega)
  rw [Rat.intCast_neg] at h2
  rw [Rat.intCast_natCast] at h1 h2
  rw [v40]
  constructor <;> grind
/-- Two numbers of the table for one angle. -/
structure UnitT (c s : Rat) : Prop where
  c1 : -1 ≤ c
  c2 : c ≤ 1
  s1 : -1 ≤ s
  s2 : s ≤ 1
  pp : c + s ≤ 142 / 100
  pm : c - s ≤ 142 / 100
  mp : -c + s ≤ 142 / 100
  mm : -c - s ≤ 142 / 100
theorem unit_of {n r : Nat} (hn : n ≤ 12) (hr : r < n) : UnitT ((tC n r : Rat) * tp (-40)) ((tS n r : Rat) * tp (-40)) := by
  obtain ⟨h1, h2, h3⟩ := tab_unit ⟨n, by omega⟩ ⟨r, by omega⟩ hr
  simp only at h1 h2 h3
  have e1 : (((2 ^ 40 : Nat) : Rat)) * (1 / 1099511627776) = 1 := by decide +kernel
  have e2 : ((1561000000000 : Nat) : Rat) * (1 / 1099511627776) ≤ 142 / 100 := by decide +kernel
  obtain ⟨a1, a2⟩ := tab_q h1
  obtain ⟨b1, b2⟩ := tab_q h2
  rw [e1] at a1 a2 b1 b2
  obtain ⟨p1, p2⟩ := tab_q (z := tC n r + tS n r) (B := 1561000000000) (by omega)
  obtain ⟨m1, m2⟩ := tab_q (z := tC n r - tS n r) (B := 1561000000000) (by omega)
  rw [Rat.intCast_add] at p1 p2
  rw [Rat.intCast_sub] at m1 m2
  exact ⟨a1, a2, b1, b2, by grind, by grind, by grind, by grind⟩
theorem unitP {n : Nat} (hn1 : 1 ≤ n) (hn : n ≤ 12) (t : Nat) : UnitT (cP n t) (sP n t) := unit_of hn (Nat.mod_lt _ (by omega))
theorem unitN {n : Nat} (hn1 : 1 ≤ n) (hn : n ≤ 12) (t : Nat) : UnitT (cN n t) (sN n t) := unit_of hn (Nat.mod_lt _ (by omega))
/-- A product with such a pair. -/
theorem unit_mul {a b c s M : Rat} (u : UnitT c s) (hM : 0 ≤ M) (a1 : -M ≤ a) (a2 : a ≤ M) (b1 : -M ≤ b) (b2 : b ≤ M) : -(M * (142 / 100)) ≤ a * c - b * s ∧ a * c - b * s ≤ M * (142 / 100) ∧ -(M * (142 / 100)) ≤ a * s + b * c ∧ a * s + b * c ≤ M * (142 / 100) := by
  have hpp := Rat.mul_le_mul_of_nonneg_left u.pp hM
  have hpm := Rat.mul_le_mul_of_nonneg_left u.pm hM
  have hmp := Rat.mul_le_mul_of_nonneg_left u.mp hM
  have hmm := Rat.mul_le_mul_of_nonneg_left u.mm hM
  rcases Rat.le_total (a := 0) (b := c) with hc | hc <;> rcases Rat.le_total (a := 0) (b := s) with hs | hs
  · have x1 := Rat.mul_le_mul_of_nonneg_right a1 hc
    have x2 := Rat.mul_le_mul_of_nonneg_right a2 hc
    have x3 := Rat.mul_le_mul_of_nonneg_right b1 hs
    have x4 := Rat.mul_le_mul_of_nonneg_right b2 hs
    have x5 := Rat.mul_le_mul_of_nonneg_right a1 hs
    have x6 := Rat.mul_le_mul_of_nonneg_right a2 hs
    have x7 := Rat.mul_le_mul_of_nonneg_right b1 hc
    have x8 := Rat.mul_le_mul_of_nonneg_right b2 hc
    refine ⟨?_, ?_, ?_, ?_⟩ <;> grind
  · have hs' : 0 ≤ -s := by grind
    have x1 := Rat.mul_le_mul_of_nonneg_right a1 hc
    have x2 := Rat.mul_le_mul_of_nonneg_right a2 hc
    have x3 := Rat.mul_le_mul_of_nonneg_right b1 hs'
    have x4 := Rat.mul_le_mul_of_nonneg_right b2 hs'
    have x5 := Rat.mul_le_mul_of_nonneg_right a1 hs'
    have x6 := Rat.mul_le_mul_of_nonneg_right a2 hs'
    have x7 := Rat.mul_le_mul_of_nonneg_right b1 hc
    have x8 := Rat.mul_le_mul_of_nonneg_right b2 hc
    refine ⟨?_, ?_, ?_, ?_⟩ <;> grind
  · have hc' : 0 ≤ -c := by grind
    have x1 := Rat.mul_le_mul_of_nonneg_right a1 hc'
    have x2 := Rat.mul_le_mul_of_nonneg_right a2 hc'
    have x3 := Rat.mul_le_mul_of_nonneg_right b1 hs
    have x4 := Rat.mul_le_mul_of_nonneg_right b2 hs
    have x5 := Rat.mul_le_mul_of_nonneg_right a1 hs
    have x6 := Rat.mul_le_mul_of_nonneg_right a2 hs
    have x7 := Rat.mul_le_mul_of_nonneg_right b1 hc'
    have x8 := Rat.mul_le_mul_of_nonneg_right b2 hc'
    refine ⟨?_, ?_, ?_, ?_⟩ <;> grind
  · have hc' : 0 ≤ -c := by grind
    have hs' : 0 ≤ -s := by grind
    have x1 := Rat.mul_le_mul_of_nonneg_right a1 hc'
    have x2 := Rat.mul_le_mul_of_nonneg_right a2 hc'
    have x3 := Rat.mul_le_mul_of_nonneg_right b1 hs'
    have x4 := Rat.mul_le_mul_of_nonneg_right b2 hs'
    have x5 := Rat.mul_le_mul_of_nonneg_right a1 hs'
    have x6 := Rat.mul_le_mul_of_nonneg_right a2 hs'
    have x7 := Rat.mul_le_mul_of_nonneg_right b1 hc'
    have x8 := Rat.mul_le_mul_of_nonneg_right b2 hc'
    refine ⟨?_, ?_, ?_, ?_⟩ <;> grind

/-! ### A product of complex numbers -/
theorem nar_RN {b : Nat} (hb : isN .f64 b) (h1 : -1024 ≤ val .f64 b) (h2 : val .f64 b ≤ 1024) : isN .f32 (narP b) ∧ RN .f32 (val .f64 b) (val .f32 (narP b)) ∧ floatToFloatBits .f64 b .f32 = some (narP b) := by
  obtain ⟨_, r, e, n, rn⟩ := narrow_RN hb (inT32_of h1 h2)
  have er : narP b = r := by
    have : narrow (some b) = some (narP b) := rfl
    rw [this] at e
    exact Option.some.inj e
  have hx : (1024 : Rat) ≤ 16777215 * tp 104 := by decide +kernel
  rw [er]
  exact ⟨n, rn, by have := (narP_max hb (by grind) (by grind)).2; rwa [er] at this⟩
structure MulV (a b c d : Nat) : Prop where
  M : MulOk (wid a) (wid b) (wid c) (wid d)
  rN : isN .f32 (narP (mRe (wid a) (wid b) (wid c) (wid d)))
  iN : isN .f32 (narP (mIm (wid a) (wid b) (wid c) (wid d)))
  re : ∃ X : Rat, RN .f32 X (val .f32 (narP (mRe (wid a) (wid b) (wid c) (wid d)))) ∧ val .f32 a * val .f32 c - val .f32 b * val .f32 d - 1 / 1099511627776 ≤ X ∧ X ≤ val .f32 a * val .f32 c - val .f32 b * val .f32 d + 1 / 1099511627776
  im : ∃ X : Rat, RN .f32 X (val .f32 (narP (mIm (wid a) (wid b) (wid c) (wid d)))) ∧ val .f32 a * val .f32 d + val .f32 b * val .f32 c - 1 / 1099511627776 ≤ X ∧ X ≤ val .f32 a * val .f32 d + val .f32 b * val .f32 c + 1 / 1099511627776
theorem mulV_of {a b c d : Nat} (ha : isN .f32 a) (hb : isN .f32 b) (hc : isN .f32 c) (hd : isN .f32 d) (a1 : -64 ≤ val .f32 a) (a2 : val .f32 a ≤ 64) (b1 : -64 ≤ val .f32 b) (b2 : val .f32 b ≤ 64) (c1 : -1 ≤ val .f32 c) (c2 : val .f32 c ≤ 1) (d1 : -1 ≤ val .f32 d) (d2 : val .f32 d ≤ 1) : MulV a b c d := by
  obtain ⟨wa1, wa2⟩ := wid_ok ha
  obtain ⟨wb1, wb2⟩ := wid_ok hb
  obtain ⟨wc1, wc2⟩ := wid_ok hc
  obtain ⟨wd1, wd2⟩ := wid_ok hd
  obtain ⟨q1, q2⟩ := abs_mul a1 a2 c1 c2
  obtain ⟨q3, q4⟩ := abs_mul b1 b2 d1 d2
  obtain ⟨q5, q6⟩ := abs_mul a1 a2 d1 d2
  obtain ⟨q7, q8⟩ := abs_mul b1 b2 c1 c2
  have m1 := fo_mul wa1 wc1 (by rw [wa2, wc2]; grind) (by rw [wa2, wc2]; grind)
  have m2 := fo_mul wb1 wd1 (by rw [wb2, wd2]; grind) (by rw [wb2, wd2]; grind)
  have m3 := fo_mul wa1 wd1 (by rw [wa2, wd2]; grind) (by rw [wa2, wd2]; grind)
  have m4 := fo_mul wb1 wc1 (by rw [wb2, wc2]; grind) (by rw [wb2, wc2]; grind)
  rw [wa2, wc2] at m1
  rw [wb2, wd2] at m2
  rw [wa2, wd2] at m3
  rw [wb2, wc2] at m4
  have n1 := m1.2.2.near64w (by grind) (by grind)
  have n2 := m2.2.2.near64w (by grind) (by grind)
  have n3 := m3.2.2.near64w (by grind) (by grind)
  have n4 := m4.2.2.near64w (by grind) (by grind)
  have s1 := fo_sub m1.2.1 m2.2.1 (by grind) (by grind)
  have s2 := fo_add m3.2.1 m4.2.1 (by grind) (by grind)
  have k1 := s1.2.2.near64w (by grind) (by grind)
  have k2 := s2.2.2.near64w (by grind) (by grind)
  have r1 : isN .f64 (mRe (wid a) (wid b) (wid c) (wid d)) := s1.2.1
  have r2 : isN .f64 (mIm (wid a) (wid b) (wid c) (wid d)) := s2.2.1
  have e1 : val .f64 (mRe (wid a) (wid b) (wid c) (wid d)) = val .f64 (fo .sub (fo .mul (wid a) (wid c)) (fo .mul (wid b) (wid d))) := rfl
  have e2 : val .f64 (mIm (wid a) (wid b) (wid c) (wid d)) = val .f64 (fo .add (fo .mul (wid a) (wid d)) (fo .mul (wid b) (wid c))) := rfl
  obtain ⟨t1, t2, t3⟩ := nar_RN r1 (by rw [e1]; grind) (by rw [e1]; grind)
  obtain ⟨u1, u2, u3⟩ := nar_RN r2 (by rw [e2]; grind) (by rw [e2]; grind)
  exact ⟨⟨m1.1, m2.1, s1.1, m3.1, m4.1, s2.1, t3, u3⟩, t1, u1, ⟨_, t2, by rw [e1]; grind, by rw [e1]; grind⟩, ⟨_, u2, by rw [e2]; grind, by rw [e2]; grind⟩⟩

/-! ### Lines -/
def lineRe (zs : List Int) (n k : Nat) : Nat → Rat
  | 0 => 0
  | j + 1 => lineRe zs n k j + (at0 zs j : Rat) / 4 * cN n (j * k)
def lineIm (zs : List Int) (n k : Nat) : Nat → Rat
  | 0 => 0
  | j + 1 => lineIm zs n k j + (at0 zs j : Rat) / 4 * sN n (j * k)
/-- All phasors of n points are near the table. -/
def PhT (n : Nat) : Prop := ∀ t ∈ prods n, bothB t n = true
theorem prods_in {n j k : Nat} (hn : n ≤ 12) (hj : j < n) (hk : k < n) : j * k ∈ prods n := prods_all ⟨n, by omega⟩ ⟨j, by omega⟩ ⟨k, by omega⟩ hj hk
theorem phN {n t : Nat} (hn1 : 1 ≤ n) (hn2 : n ≤ 12) (ht : t ≤ 32 * n) : isN .f32 (narP (phaRe (negT t n))) ∧ isN .f32 (narP (phaIm (negT t n))) ∧ -1 ≤ val .f32 (narP (phaRe (negT t n))) ∧ val .f32 (narP (phaRe (negT t n))) ≤ 1 ∧ -1 ≤ val .f32 (narP (phaIm (negT t n))) ∧ val .f32 (narP (phaIm (negT t n))) ≤ 1 := by
  have T := turns_ok (t := t) hn1 (by omega) ht
  have P := pha_ok T.N T.lo T.hi
  obtain ⟨⟨⟨c1, c2, c3⟩, _⟩, ⟨⟨s1, s2, s3⟩, _⟩⟩ := pha_parts P
  exact ⟨c1, s1, c2, c3, s2, s3⟩
theorem phP {n t : Nat} (hn1 : 1 ≤ n) (hn2 : n ≤ 12) (ht : t ≤ 32 * n) : isN .f32 (narP (phaRe (quoT t n))) ∧ isN .f32 (narP (phaIm (quoT t n))) ∧ -1 ≤ val .f32 (narP (phaRe (quoT t n))) ∧ val .f32 (narP (phaRe (quoT t n))) ≤ 1 ∧ -1 ≤ val .f32 (narP (phaIm (quoT t n))) ∧ val .f32 (narP (phaIm (quoT t n))) ≤ 1 := by
  have T := turns_ok (t := t) hn1 (by omega) ht
  have q0 := T.q0
  have q1 := T.q1
  have P := pha_ok T.qN (by grind) (by grind)
  obtain ⟨⟨⟨c1, c2, c3⟩, _⟩, ⟨⟨s1, s2, s3⟩, _⟩⟩ := pha_parts P
  exact ⟨c1, s1, c2, c3, s2, s3⟩
theorem quarter_bd {z : Int} (h : z.natAbs ≤ 16) : -4 ≤ (z : Rat) / 4 ∧ (z : Rat) / 4 ≤ 4 := by
  have h1 : (z : Rat) ≤ 16 := Rat.intCast_le_intCast (b := 16).2 (by omega)
  have h2 : (-16 : Rat) ≤ (z : Rat) := Rat.intCast_le_intCast (a := -16).2 (by omega)
  constructor <;> grind
theorem dy2_val {x : Nat} {z : Int} (h : Dy 2 x z) : val .f32 x = (z : Rat) / 4 := by
  have t2 : tp (-((2 : Nat) : Int)) = 1 / 4 := by decide +kernel
  rw [h.v, t2]; grind
theorem mul_err {a c d E : Rat} (a1 : -4 ≤ a) (a2 : a ≤ 4) (h1 : -E ≤ c - d) (h2 : c - d ≤ E) (hE : 0 ≤ E) : -(4 * E) ≤ a * c - a * d ∧ a * c - a * d ≤ 4 * E := by
  obtain ⟨g1, g2⟩ := abs_mul (a := c - d) (c := a / 4) (M := E) h1 h2 (by grind) (by grind)
  constructor <;> grind
theorem lp_near {x t n : Nat} {z : Int} (hx : Dy 2 x z) (hz : z.natAbs ≤ 16) (hb : bothB t n = true) (hn1 : 1 ≤ n) (hn2 : n ≤ 12) (ht : t ≤ 32 * n) :
    isN .f32 (lpRe x t n) ∧ isN .f32 (lpIm x t n) ∧ ((z : Rat) / 4 * cN n t - 3 / 1000000 ≤ val .f32 (lpRe x t n) ∧ val .f32 (lpRe x t n) ≤ (z : Rat) / 4 * cN n t + 3 / 1000000) ∧ ((z : Rat) / 4 * sN n t - 3 / 1000000 ≤ val .f32 (lpIm x t n) ∧ val .f32 (lpIm x t n) ≤ (z : Rat) / 4 * sN n t + 3 / 1000000) := by
  obtain ⟨cn1, sn1, c1', c2', s1', s2'⟩ := phN hn1 hn2 ht
  obtain ⟨_, ⟨b1, b2⟩, ⟨b3, b4⟩⟩ := bothB_val hb
  obtain ⟨z1, z2⟩ := quarter_bd hz
  have hv := dy2_val hx
  have V := mulV_of hx.N zero32 cn1 sn1 (by rw [hv]; grind) (by rw [hv]; grind) (by rw [val32_0]; decide +kernel) (by rw [val32_0]; decide +kernel) c1' c2' s1' s2'
  obtain ⟨X, x1, x2, x3⟩ := V.re
  obtain ⟨Y, y1, y2, y3⟩ := V.im
  rw [hv, val32_0] at x2 x3 y2 y3
  obtain ⟨e1, e2⟩ := mul_err z1 z2 b1 b2 (by decide +kernel)
  obtain ⟨e3, e4⟩ := mul_err z1 z2 b3 b4 (by decide +kernel)
  obtain ⟨f1, f2⟩ := abs_mul z1 z2 c1' c2'
  obtain ⟨f3, f4⟩ := abs_mul z1 z2 s1' s2'
  have n1 := x1.near32 (by grind) (by grind)
  have n2 := y1.near32 (by grind) (by grind)
  refine ⟨V.rN, V.iN, ⟨?_, ?_⟩, ⟨?_, ?_⟩⟩
  · show _ ≤ val .f32 (narP (mRe (wid x) (wid 0) _ _)); grind
  · show val .f32 (narP (mRe (wid x) (wid 0) _ _)) ≤ _; grind
  · show _ ≤ val .f32 (narP (mIm (wid x) (wid 0) _ _)); grind
  · show val .f32 (narP (mIm (wid x) (wid 0) _ _)) ≤ _; grind

end Go.Proofs.Ytfclkbppmkjkeaa

namespace Go.Proofs.Ytfclkbppmkjkeaa
open Go.RowKit

theorem natq (j : Nat) : ((j + 1 : Nat) : Rat) = (j : Rat) + 1 := by rw [Rat.natCast_add]; rfl
theorem nat_le12 {j : Nat} (h : j ≤ 12) : (0 : Rat) ≤ (j : Rat) ∧ (j : Rat) ≤ 12 := ⟨Rat.natCast_nonneg, Rat.natCast_le_natCast (b := 12).2 h⟩
theorem line_bd {zs : List Int} {n k : Nat} (hb : ∀ i, (at0 zs i).natAbs ≤ 16) (hn1 : 1 ≤ n) (hn2 : n ≤ 12) : ∀ j : Nat, (-(4 * (j : Rat)) ≤ lineRe zs n k j ∧ lineRe zs n k j ≤ 4 * (j : Rat)) ∧ (-(4 * (j : Rat)) ≤ lineIm zs n k j ∧ lineIm zs n k j ≤ 4 * (j : Rat))
  | 0 => by
    have e1 : lineRe zs n k 0 = 0 := rfl
    have e2 : lineIm zs n k 0 = 0 := rfl
    rw [e1, e2]
    have : ((0 : Nat) : Rat) = 0 := rfl
    rw [this]
    grind
  | j + 1 => by
    obtain ⟨⟨h1, h2⟩, ⟨h3, h4⟩⟩ := line_bd (k := k) hb hn1 hn2 j
    obtain ⟨z1, z2⟩ := quarter_bd (hb j)
    have u := unitN hn1 hn2 (j * k)
    obtain ⟨a1, a2⟩ := abs_mul z1 z2 u.c1 u.c2
    obtain ⟨a3, a4⟩ := abs_mul z1 z2 u.s1 u.s2
    have e1 : lineRe zs n k (j + 1) = lineRe zs n k j + (at0 zs j : Rat) / 4 * cN n (j * k) := rfl
    have e2 : lineIm zs n k (j + 1) = lineIm zs n k j + (at0 zs j : Rat) / 4 * sN n (j * k) := rfl
    rw [e1, e2, natq]
    grind
/-- A line's number. -/
structure LineNear (zs : List Int) (n k : Nat) (z : Nat × Nat) : Prop where
  rN : isN .f32 z.1
  iN : isN .f32 z.2
  r1 : lineRe zs n k n - 14 / 100000 ≤ val .f32 z.1
  r2 : val .f32 z.1 ≤ lineRe zs n k n + 14 / 100000
  i1 : lineIm zs n k n - 14 / 100000 ≤ val .f32 z.2
  i2 : val .f32 z.2 ≤ lineIm zs n k n + 14 / 100000
theorem getD_dy {xs : List Nat} {zs : List Int} (h : DyL 2 xs zs) {j : Nat} (hj : j < xs.length) : Dy 2 (xs.getD j 0) (at0 zs j) := by
  have := h.at' j hj
  rwa [← List.getD_eq_getElem?_getD] at this
theorem linS_near {xs : List Nat} {zs : List Int} {n k : Nat} (h : DyL 2 xs zs) (hb : ∀ i, (at0 zs i).natAbs ≤ 16) (hl : xs.length = n) (hn1 : 1 ≤ n) (hn2 : n ≤ 12) (hP : PhT n) (hk : k < n) :
    ∀ j, j ≤ n → ∃ r i, linS xs k j = (some r, some i) ∧ isN .f32 r ∧ isN .f32 i ∧ (lineRe zs n k j - (j : Rat) * (11 / 1000000) ≤ val .f32 r ∧ val .f32 r ≤ lineRe zs n k j + (j : Rat) * (11 / 1000000)) ∧ (lineIm zs n k j - (j : Rat) * (11 / 1000000) ≤ val .f32 i ∧ val .f32 i ≤ lineIm zs n k j + (j : Rat) * (11 / 1000000))
  | 0, _ => by
    have e1 : lineRe zs n k 0 = 0 := rfl
    have e2 : lineIm zs n k 0 = 0 := rfl
    have e3 : ((0 : Nat) : Rat) = 0 := rfl
    refine ⟨0, 0, rfl, v32_0.1, v32_0.1, ?_, ?_⟩
    · rw [e1, e3, v32_0.2]; grind
    · rw [e2, e3, v32_0.2]; grind
  | j + 1, hj => by
    obtain ⟨r, i, e, rN, iN, ⟨r1, r2⟩, ⟨i1, i2⟩⟩ := linS_near h hb hl hn1 hn2 hP hk j (by omega)
    obtain ⟨⟨b1, b2⟩, ⟨b3, b4⟩⟩ := line_bd (zs := zs) (n := n) (k := k) hb hn1 hn2 j
    obtain ⟨⟨g1, g2⟩, ⟨g3, g4⟩⟩ := line_bd (zs := zs) (n := n) (k := k) hb hn1 hn2 (j + 1)
    obtain ⟨n0, n12⟩ := nat_le12 (show j + 1 ≤ 12 by omega)
    have hx := getD_dy h (j := j) (by omega)
    have ht : j * k ≤ 32 * n := by have := Nat.mul_le_mul (show j ≤ 12 by omega) (show k ≤ n by omega); omega
    obtain ⟨pN, qN, ⟨p1, p2⟩, ⟨q1, q2⟩⟩ := lp_near (t := j * k) hx (hb j) (hP _ (prods_in hn2 (by omega) hk)) hn1 hn2 ht
    have e1 : lineRe zs n k (j + 1) = lineRe zs n k j + (at0 zs j : Rat) / 4 * cN n (j * k) := rfl
    have e2 : lineIm zs n k (j + 1) = lineIm zs n k j + (at0 zs j : Rat) / 4 * sN n (j * k) := rfl
    rw [natq] at n0 n12 g1 g2 g3 g4
    rw [e1] at g1 g2
    rw [e2] at g3 g4
    have a := fo3_add rN pN (by grind) (by grind)
    have c := fo3_add iN qN (by grind) (by grind)
    have na := a.2.2.n64 (by grind) (by grind)
    have nc := c.2.2.n64 (by grind) (by grind)
    refine ⟨_, _, ?_, a.2.1, c.2.1, ?_, ?_⟩
    · show (fbin .add .f32 (linS xs k j).1 _, fbin .add .f32 (linS xs k j).2 _) = _
      rw [e, hl, a.1, c.1]
    · rw [e1, natq]; constructor <;> grind
    · rw [e2, natq]; constructor <;> grind
theorem line_near {xs : List Nat} {zs : List Int} {n k : Nat} (h : DyL 2 xs zs) (hb : ∀ i, (at0 zs i).natAbs ≤ 16) (hl : xs.length = n) (hn1 : 1 ≤ n) (hn2 : n ≤ 12) (hP : PhT n) (hk : k < n) :
    ∃ r i, linS xs k n = (some r, some i) ∧ LineNear zs n k (r, i) := by
  obtain ⟨r, i, e, rN, iN, ⟨r1, r2⟩, ⟨i1, i2⟩⟩ := linS_near h hb hl hn1 hn2 hP hk n (Nat.le_refl _)
  obtain ⟨n0, n12⟩ := nat_le12 hn2
  exact ⟨r, i, e, rN, iN, by grind, by grind, by grind, by grind⟩
/-- All lines. -/
structure LinesOk (xs : List Nat) (zs : List Int) (n : Nat) : Prop where
  B : linsB xs = true
  len : (linsR xs).length = n
  at' : ∀ k, k < n → linS xs k n = (some ((linsR xs)[k]?.getD default).1, some ((linsR xs)[k]?.getD default).2) ∧ LineNear zs n k ((linsR xs)[k]?.getD default)
theorem lines_ok {xs : List Nat} {zs : List Int} {n : Nat} (h : DyL 2 xs zs) (hb : ∀ i, (at0 zs i).natAbs ≤ 16) (hl : xs.length = n) (hn1 : 1 ≤ n) (hn2 : n ≤ 12) (hP : PhT n) : LinesOk xs zs n := by
  have hB : linsB xs = true := by
    unfold linsB
    rw [h.vec (by omega) (by omega), Bool.true_and]
    unfold linsO
    rw [List.all_map, List.all_eq_true]
    intro k hk
    rw [List.mem_range, hl] at hk
    obtain ⟨r, i, e, N⟩ := line_near h hb hl hn1 hn2 hP hk
    show cfin (linS xs k xs.length) = true
    rw [hl, e]
    unfold cfin
    rw [finIsN N.rN, finIsN N.iN]
    rfl
  have hR : linsR xs = (linsO xs xs.length).map (fun o => (o.1.getD 0, o.2.getD 0)) := by unfold linsR; rw [if_pos hB]
  refine ⟨hB, by rw [hR]; simp [linsO, hl], fun k hk => ?_⟩
  obtain ⟨r, i, e, N⟩ := line_near h hb hl hn1 hn2 hP hk
  have eg : (linsR xs)[k]?.getD default = (r, i) := by
    rw [hR]
    unfold linsO
    rw [List.getElem?_map, List.getElem?_map, List.getElem?_range (by omega)]
    simp only [Option.map_some, Option.getD_some]
    rw [hl, e]
    rfl
  rw [eg]
  exact ⟨e, N⟩

/-! ### Back -/
def bpRe (z : Nat × Nat) (t n : Nat) : Nat := narP (mRe (wid z.1) (wid z.2) (wid (narP (phaRe (quoT t n)))) (wid (narP (phaIm (quoT t n)))))
def bpIm (z : Nat × Nat) (t n : Nat) : Nat := narP (mIm (wid z.1) (wid z.2) (wid (narP (phaRe (quoT t n)))) (wid (narP (phaIm (quoT t n)))))
def backS (O : List (Nat × Nat)) (j n : Nat) : Nat → Option Nat × Option Nat
  | 0 => (some 0, some 0)
  | k + 1 => (fbin .add .f32 (backS O j n k).1 (some (bpRe (O[k]?.getD default) (j * k) n)), fbin .add .f32 (backS O j n k).2 (some (bpIm (O[k]?.getD default) (j * k) n)))
def backG (zs : List Int) (n j I : Nat) : Nat → Rat
  | 0 => 0
  | k + 1 => backG zs n j I k + (lineRe zs n k I * cP n (j * k) - lineIm zs n k I * sP n (j * k))
theorem val_eq0 : ((0 : Nat) : Rat) = 0 := rfl
theorem mul_err2 {a b c d c' d' M E : Rat} (hE : 0 ≤ E) (hM : 0 < M) (a1 : -M ≤ a) (a2 : a ≤ M) (b1 : -M ≤ b) (b2 : b ≤ M) (c1 : -E ≤ c - c') (c2 : c - c' ≤ E) (d1 : -E ≤ d - d') (d2 : d - d' ≤ E) :
    -(2 * (M * E)) ≤ (a * c - b * d) - (a * c' - b * d') ∧ (a * c - b * d) - (a * c' - b * d') ≤ 2 * (M * E) ∧ -(2 * (M * E)) ≤ (a * d + b * c) - (a * d' + b * c') ∧ (a * d + b * c) - (a * d' + b * c') ≤ 2 * (M * E) := by
  have key : ∀ {x y : Rat}, -M ≤ x → x ≤ M → -E ≤ y → y ≤ E → -(M * E) ≤ x * y ∧ x * y ≤ M * E := by
    intro x y x1 x2 y1 y2
    rcases Rat.le_total (a := 0) (b := x) with hx | hx
    · have p1 := Rat.mul_le_mul_of_nonneg_left y1 hx
      have p2 := Rat.mul_le_mul_of_nonneg_left y2 hx
      have p3 := Rat.mul_le_mul_of_nonneg_right x2 hE
      constructor <;> grind
    · have hx' : 0 ≤ -x := by grind
      have p1 := Rat.mul_le_mul_of_nonneg_left y1 hx'
      have p2 := Rat.mul_le_mul_of_nonneg_left y2 hx'
      have p3 := Rat.mul_le_mul_of_nonneg_right (show -x ≤ M by grind) hE
      constructor <;> grind
  obtain ⟨k1, k2⟩ := key a1 a2 c1 c2
  obtain ⟨k3, k4⟩ := key b1 b2 d1 d2
  obtain ⟨k5, k6⟩ := key a1 a2 d1 d2
  obtain ⟨k7, k8⟩ := key b1 b2 c1 c2
  refine ⟨?_, ?_, ?_, ?_⟩ <;> grind
/-- One product on the way back. -/
structure BpOk (z : Nat × Nat) (t n : Nat) : Prop where
  c : isN .f32 (narP (phaRe (quoT t n)))
  s : isN .f32 (narP (phaIm (quoT t n)))
  T : TurnsOk t n
  V : MulV z.1 z.2 (narP (phaRe (quoT t n))) (narP (phaIm (quoT t n)))
theorem bp_near {z : Nat × Nat} {t n : Nat} {R I : Rat} (rN : isN .f32 z.1) (iN : isN .f32 z.2) (hR1 : -56 ≤ R) (hR2 : R ≤ 56) (hI1 : -56 ≤ I) (hI2 : I ≤ 56)
    (r1 : R - 16 / 100000 ≤ val .f32 z.1) (r2 : val .f32 z.1 ≤ R + 16 / 100000) (i1 : I - 16 / 100000 ≤ val .f32 z.2) (i2 : val .f32 z.2 ≤ I + 16 / 100000)
    (hb : bothB t n = true) (hn1 : 1 ≤ n) (hn2 : n ≤ 12) (ht : t ≤ 32 * n) :
    BpOk z t n ∧ isN .f32 (bpRe z t n) ∧ isN .f32 (bpIm z t n) ∧ (R * cP n t - I * sP n t - 26 / 100000 ≤ val .f32 (bpRe z t n) ∧ val .f32 (bpRe z t n) ≤ R * cP n t - I * sP n t + 26 / 100000) ∧ (-80 ≤ val .f32 (bpRe z t n) ∧ val .f32 (bpRe z t n) ≤ 80) ∧ (-80 ≤ val .f32 (bpIm z t n) ∧ val .f32 (bpIm z t n) ≤ 80) ∧ (R * sP n t + I * cP n t - 26 / 100000 ≤ val .f32 (bpIm z t n) ∧ val .f32 (bpIm z t n) ≤ R * sP n t + I * cP n t + 26 / 100000) := by
  obtain ⟨cn1, sn1, c1', c2', s1', s2'⟩ := phP hn1 hn2 ht
  obtain ⟨⟨⟨b1, b2⟩, ⟨b3, b4⟩⟩, _⟩ := bothB_val hb
  have V := mulV_of rN iN cn1 sn1 (by grind) (by grind) (by grind) (by grind) c1' c2' s1' s2'
  have u := unitP hn1 hn2 t
  obtain ⟨w1, w2, w3, w4⟩ := unit_mul u (show (0 : Rat) ≤ 56 by decide +kernel) hR1 hR2 hI1 hI2
  obtain ⟨d1, d2, d3, d4⟩ := unit_mul u (show (0 : Rat) ≤ 16 / 100000 by decide +kernel) (a := val .f32 z.1 - R) (b := val .f32 z.2 - I) (by grind) (by grind) (by grind) (by grind)
  obtain ⟨e1, e2, e3, e4⟩ := mul_err2 (a := val .f32 z.1) (b := val .f32 z.2) (M := 57) (E := 1 / 8388608) (by decide +kernel) (by decide +kernel) (by grind) (by grind) (by grind) (by grind) b1 b2 b3 b4
  obtain ⟨X, x1, x2, x3⟩ := V.re
  obtain ⟨Y, y1, y2, y3⟩ := V.im
  have E49 : (2 : Rat) * (57 * (1 / 8388608)) ≤ 14 / 1000000 := by decide +kernel
  generalize (2 : Rat) * (57 * (1 / 8388608)) = EE at *
  have n1 := x1.n128 (by grind) (by grind)
  have n2 := y1.n128 (by grind) (by grind)
  refine ⟨⟨cn1, sn1, turns_ok hn1 (by omega) ht, V⟩, V.rN, V.iN, ⟨?_, ?_⟩, ⟨?_, ?_⟩, ⟨?_, ?_⟩, ⟨?_, ?_⟩⟩
  · show _ ≤ val .f32 (narP (mRe (wid z.1) (wid z.2) _ _)); grind
  · show val .f32 (narP (mRe (wid z.1) (wid z.2) _ _)) ≤ _; grind
  · show _ ≤ val .f32 (narP (mRe (wid z.1) (wid z.2) _ _)); grind
  · show val .f32 (narP (mRe (wid z.1) (wid z.2) _ _)) ≤ _; grind
  · show _ ≤ val .f32 (narP (mIm (wid z.1) (wid z.2) _ _)); grind
  · show val .f32 (narP (mIm (wid z.1) (wid z.2) _ _)) ≤ _; grind
  · show _ ≤ val .f32 (narP (mIm (wid z.1) (wid z.2) _ _)); grind
  · show val .f32 (narP (mIm (wid z.1) (wid z.2) _ _)) ≤ _; grind

end Go.Proofs.Ytfclkbppmkjkeaa

namespace Go.Proofs.Ytfclkbppmkjkeaa
open Go.RowKit

theorem backS_near {xs : List Nat} {zs : List Int} {n j : Nat} (hb : ∀ i, (at0 zs i).natAbs ≤ 16) (L : LinesOk xs zs n) (hn1 : 1 ≤ n) (hn2 : n ≤ 12) (hP : PhT n) (hj : j < n) :
    ∀ k, k ≤ n → ∃ r i, backS (linsR xs) j n k = (some r, some i) ∧ isN .f32 r ∧ isN .f32 i ∧ (backG zs n j n k - (k : Rat) * (39 / 100000) ≤ val .f32 r ∧ val .f32 r ≤ backG zs n j n k + (k : Rat) * (39 / 100000)) ∧ (-(81 * (k : Rat)) ≤ val .f32 r ∧ val .f32 r ≤ 81 * (k : Rat)) ∧ (-(81 * (k : Rat)) ≤ val .f32 i ∧ val .f32 i ≤ 81 * (k : Rat))
  | 0, _ => by
    refine ⟨0, 0, rfl, v32_0.1, v32_0.1, ?_, ?_, ?_⟩
    · have e : backG zs n j n 0 = 0 := rfl
      rw [e, val_eq0, v32_0.2]; grind
    · rw [val_eq0, v32_0.2]; grind
    · rw [val_eq0, v32_0.2]; grind
  | k + 1, hk => by
    obtain ⟨r, i, e, rN, iN, ⟨r1, r2⟩, ⟨r3, r4⟩, ⟨i3, i4⟩⟩ := backS_near hb L hn1 hn2 hP hj k (by omega)
    obtain ⟨_, N⟩ := L.at' k (by omega)
    obtain ⟨⟨b1, b2⟩, ⟨b3, b4⟩⟩ := line_bd (zs := zs) (n := n) (k := k) hb hn1 hn2 n
    obtain ⟨m0, m12⟩ := nat_le12 hn2
    obtain ⟨n0, n12⟩ := nat_le12 (show k + 1 ≤ 12 by omega)
    have ht : j * k ≤ 32 * n := by have := Nat.mul_le_mul (show j ≤ 12 by omega) (show k ≤ n by omega); omega
    obtain ⟨_, pN, qN, ⟨p1, p2⟩, ⟨p3, p4⟩, ⟨q3, q4⟩, _⟩ := bp_near (t := j * k) (n := n) N.rN N.iN (R := lineRe zs n k n) (I := lineIm zs n k n) (by grind) (by grind) (by grind) (by grind) (by have := N.r1; grind) (by have := N.r2; grind) (by have := N.i1; grind) (by have := N.i2; grind) (hP _ (prods_in hn2 hj (by omega))) hn1 hn2 ht
    rw [natq] at n0 n12
    have a := fo3_add rN pN (by grind) (by grind)
    have c := fo3_add iN qN (by grind) (by grind)
    have na := a.2.2.n1024 (by grind) (by grind)
    have nc := c.2.2.n1024 (by grind) (by grind)
    have eG : backG zs n j n (k + 1) = backG zs n j n k + (lineRe zs n k n * cP n (j * k) - lineIm zs n k n * sP n (j * k)) := rfl
    refine ⟨_, _, ?_, a.2.1, c.2.1, ?_, ?_, ?_⟩
    · show (fbin .add .f32 (backS (linsR xs) j n k).1 _, fbin .add .f32 (backS (linsR xs) j n k).2 _) = _
      rw [e, a.1, c.1]
    · rw [eG, natq]; constructor <;> grind
    · rw [natq]; constructor <;> grind
    · rw [natq]; constructor <;> grind
/-! ### The sums of the table -/
def ortQ (n i j : Nat) : Nat → Rat
  | 0 => 0
  | k + 1 => ortQ n i j k + (cN n (i * k) * cP n (j * k) - sN n (i * k) * sP n (j * k))
theorem tp80 : tp (-40) * tp (-40) = tp (-80) := tp_sq (-40)
theorem ortQ_I (n i j : Nat) : ∀ k, ortQ n i j k = (ortI n i j k : Rat) * tp (-80)
  | 0 => by
    have e1 : ortQ n i j 0 = 0 := rfl
    have e2 : ortI n i j 0 = 0 := rfl
    rw [e1, e2, show ((0 : Int) : Rat) = 0 from rfl, Rat.zero_mul]
  | k + 1 => by
    have e1 : ortQ n i j (k + 1) = ortQ n i j k + (cN n (i * k) * cP n (j * k) - sN n (i * k) * sP n (j * k)) := rfl
    have e2 : ortI n i j (k + 1) = ortI n i j k + (tC n ((n - (i * k) % n) % n) * tC n ((j * k) % n) - tS n ((n - (i * k) % n) % n) * tS n ((j * k) % n)) := rfl
    rw [e1, e2, ortQ_I n i j k, Rat.intCast_add, Rat.intCast_sub, Rat.intCast_mul, Rat.intCast_mul, ← tp80]
    unfold cN cP sN sP
    grind
theorem ort_near {n i j : Nat} (hn : n ≤ 12) (hi : i < n) (hj : j < n) : (if i = j then (n : Rat) else 0) - 1 / 1073741824 ≤ ortQ n i j n ∧ ortQ n i j n ≤ (if i = j then (n : Rat) else 0) + 1 / 1073741824 := by
  have h := tab_ort ⟨n, by omega⟩ ⟨i, by omega⟩ ⟨j, by omega⟩ hi hj
  simp only at h
  obtain ⟨g1, g2⟩ := dy_bd (s := 80) (M := 1) (n := (ortI n i j n - (if i = j then (n : Int) * 2 ^ 80 else 0)) * 2 ^ 30) (by
    rw [Int.natAbs_mul]
    have : ((2 : Int) ^ 30).natAbs = 2 ^ 30 := by decide
    rw [this]
    have h2 := Nat.mul_le_mul_right (2 ^ 30) h
    have : (2 : Nat) ^ 50 * 2 ^ 30 = 1 * 2 ^ 80 := by decide
    omega)
  have e80 : tp (-((80 : Nat) : Int)) = tp (-80) := rfl
  have c1 : ((1 : Nat) : Rat) = 1 := rfl
  have c30 : (((2 : Int) ^ 30 : Int) : Rat) = 1073741824 := by decide +kernel
  rw [e80, c1, Rat.intCast_mul, Rat.intCast_sub, c30] at g1 g2
  have hx := ortQ_I n i j n
  have t80 : ((2 ^ 80 : Int) : Rat) * tp (-80) = 1 := by decide +kernel
  by_cases hij : i = j
  · rw [if_pos hij] at g1 g2 ⊢
    rw [Rat.intCast_mul, Rat.intCast_natCast] at g1 g2
    have e : (n : Rat) * ((2 ^ 80 : Int) : Rat) * tp (-80) = (n : Rat) := by rw [Rat.mul_assoc, t80, Rat.mul_one]
    constructor <;> grind
  · rw [if_neg hij] at g1 g2 ⊢
    rw [show ((0 : Int) : Rat) = 0 from rfl] at g1 g2
    constructor <;> grind
theorem backG_succ (zs : List Int) (n j I : Nat) : ∀ k, backG zs n j (I + 1) k = backG zs n j I k + (at0 zs I : Rat) / 4 * ortQ n I j k
  | 0 => by
    have e1 : backG zs n j (I + 1) 0 = 0 := rfl
    have e2 : backG zs n j I 0 = 0 := rfl
    have e3 : ortQ n I j 0 = 0 := rfl
    rw [e1, e2, e3]; grind
  | k + 1 => by
    have e1 : backG zs n j (I + 1) (k + 1) = backG zs n j (I + 1) k + (lineRe zs n k (I + 1) * cP n (j * k) - lineIm zs n k (I + 1) * sP n (j * k)) := rfl
    have e2 : backG zs n j I (k + 1) = backG zs n j I k + (lineRe zs n k I * cP n (j * k) - lineIm zs n k I * sP n (j * k)) := rfl
    have e3 : ortQ n I j (k + 1) = ortQ n I j k + (cN n (I * k) * cP n (j * k) - sN n (I * k) * sP n (j * k)) := rfl
    have e4 : lineRe zs n k (I + 1) = lineRe zs n k I + (at0 zs I : Rat) / 4 * cN n (I * k) := rfl
    have e5 : lineIm zs n k (I + 1) = lineIm zs n k I + (at0 zs I : Rat) / 4 * sN n (I * k) := rfl
    rw [e1, e2, e3, e4, e5, backG_succ zs n j I k]
    grind
theorem backG_zero (zs : List Int) (n j : Nat) : ∀ k, backG zs n j 0 k = 0
  | 0 => rfl
  | k + 1 => by
    have e2 : backG zs n j 0 (k + 1) = backG zs n j 0 k + (lineRe zs n k 0 * cP n (j * k) - lineIm zs n k 0 * sP n (j * k)) := rfl
    have e4 : lineRe zs n k 0 = 0 := rfl
    have e5 : lineIm zs n k 0 = 0 := rfl
    rw [e2, backG_zero zs n j k, e4, e5]
    grind
theorem backG_near {zs : List Int} {n j : Nat} (hb : ∀ i, (at0 zs i).natAbs ≤ 16) (hn : n ≤ 12) (hj : j < n) : ∀ I, I ≤ n → (if j < I then (n : Rat) * ((at0 zs j : Rat) / 4) else 0) - (I : Rat) * (1 / 100000000) ≤ backG zs n j I n ∧ backG zs n j I n ≤ (if j < I then (n : Rat) * ((at0 zs j : Rat) / 4) else 0) + (I : Rat) * (1 / 100000000)
  | 0, _ => by
    rw [backG_zero, if_neg (by omega), val_eq0]
    constructor <;> grind
  | I + 1, hI => by
    obtain ⟨h1, h2⟩ := backG_near hb hn hj I (by omega)
    obtain ⟨o1, o2⟩ := ort_near (i := I) (j := j) hn (by omega) hj
    obtain ⟨z1, z2⟩ := quarter_bd (hb I)
    rw [backG_succ, natq]
    by_cases he : I = j
    · subst he
      rw [if_neg (by omega)] at h1 h2
      rw [if_pos rfl] at o1 o2
      rw [if_pos (by omega)]
      obtain ⟨m1, m2⟩ := mul_err (a := (at0 zs I : Rat) / 4) (c := ortQ n I I n) (d := (n : Rat)) z1 z2 (E := 1 / 1073741824) (by grind) (by grind) (by decide +kernel)
      constructor <;> grind
    · rw [if_neg he] at o1 o2
      obtain ⟨m1, m2⟩ := mul_err (a := (at0 zs I : Rat) / 4) (c := ortQ n I j n) (d := 0) z1 z2 (E := 1 / 1073741824) (by grind) (by grind) (by decide +kernel)
      by_cases hlt : j < I
      · rw [if_pos hlt] at h1 h2
        rw [if_pos (by omega)]
        constructor <;> grind
      · rw [if_neg hlt] at h1 h2
        rw [if_neg (by omega)]
        constructor <;> grind
/-- The number that leads back. -/
theorem back_near {xs : List Nat} {zs : List Int} {n j : Nat} (hb : ∀ i, (at0 zs i).natAbs ≤ 16) (L : LinesOk xs zs n) (hn1 : 1 ≤ n) (hn2 : n ≤ 12) (hP : PhT n) (hj : j < n) :
    ∃ r i, backS (linsR xs) j n n = (some r, some i) ∧ isN .f32 r ∧ isN .f32 i ∧ fbin .quo .f32 (some r) (some (floatOfInt .f32 (n : Int))) = some (fo3 .quo r (floatOfInt .f32 (n : Int))) ∧ isN .f32 (fo3 .quo r (floatOfInt .f32 (n : Int))) ∧ (at0 zs j : Rat) / 4 - 45 / 100000 ≤ val .f32 (fo3 .quo r (floatOfInt .f32 (n : Int))) ∧ val .f32 (fo3 .quo r (floatOfInt .f32 (n : Int))) ≤ (at0 zs j : Rat) / 4 + 45 / 100000 := by
  obtain ⟨r, i, e, rN, iN, ⟨r1, r2⟩, _, _⟩ := backS_near hb L hn1 hn2 hP hj n (Nat.le_refl _)
  obtain ⟨g1, g2⟩ := backG_near hb hn2 hj n (Nat.le_refl _)
  rw [if_pos hj] at g1 g2
  obtain ⟨z1, z2⟩ := quarter_bd (hb j)
  obtain ⟨f1, f2⟩ := fY_ok (z := (n : Int)) (by omega)
  rw [Rat.intCast_natCast] at f2
  have hn : (1 : Rat) ≤ (n : Rat) := Rat.natCast_le_natCast (a := 1).2 hn1
  obtain ⟨x, hx, _⟩ := div_ex (a := val .f32 r) (d := (n : Rat)) (by grind)
  generalize (at0 zs j : Rat) / 4 = q at *
  have x1 : q - 40 / 100000 ≤ x := by
    refine Rat.le_of_mul_le_mul_right (c := (n : Rat)) ?_ (by grind)
    rw [hx]; grind
  have x2 : x ≤ q + 40 / 100000 := by
    refine Rat.le_of_mul_le_mul_right (c := (n : Rat)) ?_ (by grind)
    rw [hx]; grind
  have a := fo3_quo rN f1 (by rw [f2]; grind) (by rw [f2]; exact hx) (by grind) (by grind)
  have na := a.2.2.near32 (by grind) (by grind)
  refine ⟨r, i, e, rN, iN, a.1, a.2.1, ?_, ?_⟩
  · show _ ≤ val .f32 (fo3 .quo r (fY (n : Int))); grind
  · show val .f32 (fo3 .quo r (fY (n : Int))) ≤ _; grind

end Go.Proofs.Ytfclkbppmkjkeaa

namespace Go.Proofs.Ytfclkbppmkjkeaa
open Go.RowKit

/-- The vector that has moved by one. -/
def slidZ (zs : List Int) (zi : Int) : List Int := zs.drop 1 ++ [zi]
theorem at0_slid {zs : List Int} {zi : Int} {n : Nat} (hl : zs.length = n) (hn : 1 ≤ n) (j : Nat) : at0 (slidZ zs zi) j = if j + 1 < n then at0 zs (j + 1) else if j + 1 = n then zi else 0 := by
  unfold at0 slidZ
  by_cases h1 : j + 1 < n
  · rw [if_pos h1, List.getElem?_append_left (by simp; omega), List.getElem?_drop, Nat.add_comm 1 j]
  · rw [if_neg h1]
    by_cases h2 : j + 1 = n
    · rw [if_pos h2, List.getElem?_append_right (by simp; omega)]
      have : j - (zs.drop 1).length = 0 := by simp; omega
      rw [this]; rfl
    · rw [if_neg h2, List.getElem?_eq_none (by simp; omega)]
      rfl
theorem slid_bd {zs : List Int} {zi : Int} {n : Nat} (hl : zs.length = n) (hn : 1 ≤ n) (hb : ∀ i, (at0 zs i).natAbs ≤ 16) (hi : zi.natAbs ≤ 16) (j : Nat) : (at0 (slidZ zs zi) j).natAbs ≤ 16 := by
  rw [at0_slid hl hn]
  split
  · exact hb _
  · split
    · exact hi
    · decide
theorem slid_dy {xs : List Nat} {zs : List Int} {y : Nat} {zi : Int} (h : DyL 2 xs zs) (hy : Dy 2 y zi) : DyL 2 (xs.drop 1 ++ [y]) (slidZ zs zi) := by
  unfold slidZ
  have := h.mid (lo := 1) (hi := xs.length)
  by_cases h1 : 1 ≤ xs.length
  · have g := this h1 (Nat.le_refl _)
    rw [List.take_length, h.len, List.take_length] at g
    exact g.snoc hy
  · have hx : xs = [] := List.eq_nil_of_length_eq_zero (by omega)
    have hz : zs = [] := List.eq_nil_of_length_eq_zero (by rw [← h.len]; omega)
    subst hx; subst hz
    exact (h.snoc hy)
/-- The table's turn by one. -/
theorem shift_near {n j k : Nat} (hn : n ≤ 12) (hj : j + 1 < n) (hk : k < n) :
    (cN n (j * k) - 1 / 1073741824 ≤ cN n ((j + 1) * k) * cP n k - sN n ((j + 1) * k) * sP n k ∧ cN n ((j + 1) * k) * cP n k - sN n ((j + 1) * k) * sP n k ≤ cN n (j * k) + 1 / 1073741824) ∧
    (sN n (j * k) - 1 / 1073741824 ≤ cN n ((j + 1) * k) * sP n k + sN n ((j + 1) * k) * cP n k ∧ cN n ((j + 1) * k) * sP n k + sN n ((j + 1) * k) * cP n k ≤ sN n (j * k) + 1 / 1073741824) := by
  obtain ⟨h1, h2⟩ := tab_shift ⟨n, by omega⟩ ⟨j, by omega⟩ ⟨k, by omega⟩ hj hk
  simp only at h1 h2
  have c1 : ((1 : Nat) : Rat) = 1 := rfl
  have c30 : (((2 : Int) ^ 30 : Int) : Rat) = 1073741824 := by decide +kernel
  have c40 : (((2 : Int) ^ 40 : Int) : Rat) * tp (-80) = tp (-40) := by decide +kernel
  have e80 : tp (-((80 : Nat) : Int)) = tp (-80) := rfl
  have key : ∀ z : Int, z.natAbs ≤ 2 ^ 50 → -(1 / 1073741824) ≤ (z : Rat) * tp (-80) ∧ (z : Rat) * tp (-80) ≤ 1 / 1073741824 := by
    intro z hz
    obtain ⟨g1, g2⟩ := dy_bd (s := 80) (M := 1) (n := z * 2 ^ 30) (by
      rw [Int.natAbs_mul]
      have : ((2 : Int) ^ 30).natAbs = 2 ^ 30 := by decide
      rw [this]
      have h2 := Nat.mul_le_mul_right (2 ^ 30) hz
      have : (2 : Nat) ^ 50 * 2 ^ 30 = 1 * 2 ^ 80 := by decide
      omega)
    rw [e80, c1, Rat.intCast_mul, c30] at g1 g2
    constructor <;> grind
  obtain ⟨a1, a2⟩ := key _ h1
  obtain ⟨b1, b2⟩ := key _ h2
  rw [Rat.intCast_sub, Rat.intCast_sub, Rat.intCast_mul, Rat.intCast_mul, Rat.intCast_mul] at a1 a2
  rw [Rat.intCast_sub, Rat.intCast_add, Rat.intCast_mul, Rat.intCast_mul, Rat.intCast_mul] at b1 b2
  unfold cN cP sN sP
  generalize (tC n ((n - (j + 1) * k % n) % n) : Rat) = A at *
  generalize (tS n ((n - (j + 1) * k % n) % n) : Rat) = B at *
  generalize (tC n (k % n) : Rat) = C at *
  generalize (tS n (k % n) : Rat) = D at *
  generalize (tC n ((n - j * k % n) % n) : Rat) = E at *
  generalize (tS n ((n - j * k % n) % n) : Rat) = F at *
  have e1 : A * tp (-40) * (C * tp (-40)) - B * tp (-40) * (D * tp (-40)) - E * tp (-40) = (A * C - B * D - E * (((2 : Int) ^ 40 : Int) : Rat)) * tp (-80) := by
    have : A * tp (-40) * (C * tp (-40)) - B * tp (-40) * (D * tp (-40)) = (A * C - B * D) * (tp (-40) * tp (-40)) := by grind
    rw [this, tp80, ← c40]; grind
  have e2 : A * tp (-40) * (D * tp (-40)) + B * tp (-40) * (C * tp (-40)) - F * tp (-40) = (A * D + B * C - F * (((2 : Int) ^ 40 : Int) : Rat)) * tp (-80) := by
    have : A * tp (-40) * (D * tp (-40)) + B * tp (-40) * (C * tp (-40)) = (A * D + B * C) * (tp (-40) * tp (-40)) := by grind
    rw [this, tp80, ← c40]; grind
  rw [← e1] at a1 a2
  rw [← e2] at b1 b2
  refine ⟨⟨?_, ?_⟩, ⟨?_, ?_⟩⟩ <;> grind
theorem zero_turn {n : Nat} (hn1 : 1 ≤ n) (hn : n ≤ 12) (k : Nat) : cN n (0 * k) = 1 ∧ sN n (0 * k) = 0 := by
  obtain ⟨h1, h2⟩ := tab_zero ⟨n, by omega⟩ hn1
  simp only at h1 h2
  have e : (n - 0 * k % n) % n = 0 := by simp
  unfold cN sN
  rw [e, h1, h2]
  exact ⟨by decide +kernel, by rw [show ((0 : Int) : Rat) = 0 from rfl, Rat.zero_mul]⟩
theorem last_turn {n k : Nat} (hn : n ≤ 12) (hk : k < n) : cN n ((n - 1) * k) = cP n k ∧ sN n ((n - 1) * k) = sP n k := by
  obtain ⟨h1, h2⟩ := tab_last ⟨n, by omega⟩ ⟨k, by omega⟩ hk
  simp only at h1 h2
  unfold cN sN cP sP
  rw [h1, h2]
  exact ⟨rfl, rfl⟩
/-- The first rounds of the line that has moved. -/
theorem slide_part {zs : List Int} {zi : Int} {n k : Nat} (hl : zs.length = n) (hn1 : 1 ≤ n) (hn : n ≤ 12) (hk : k < n) (hb : ∀ i, (at0 zs i).natAbs ≤ 16) : ∀ J, J + 1 ≤ n →
    (lineRe (slidZ zs zi) n k J - (J : Rat) * (1 / 100000000) ≤ (lineRe zs n k (J + 1) - (at0 zs 0 : Rat) / 4) * cP n k - lineIm zs n k (J + 1) * sP n k ∧ (lineRe zs n k (J + 1) - (at0 zs 0 : Rat) / 4) * cP n k - lineIm zs n k (J + 1) * sP n k ≤ lineRe (slidZ zs zi) n k J + (J : Rat) * (1 / 100000000)) ∧
    (lineIm (slidZ zs zi) n k J - (J : Rat) * (1 / 100000000) ≤ (lineRe zs n k (J + 1) - (at0 zs 0 : Rat) / 4) * sP n k + lineIm zs n k (J + 1) * cP n k ∧ (lineRe zs n k (J + 1) - (at0 zs 0 : Rat) / 4) * sP n k + lineIm zs n k (J + 1) * cP n k ≤ lineIm (slidZ zs zi) n k J + (J : Rat) * (1 / 100000000))
  | 0, _ => by
    obtain ⟨z1, z2⟩ := zero_turn hn1 hn k
    have e1 : lineRe zs n k (0 + 1) = 0 + (at0 zs 0 : Rat) / 4 * cN n (0 * k) := rfl
    have e2 : lineIm zs n k (0 + 1) = 0 + (at0 zs 0 : Rat) / 4 * sN n (0 * k) := rfl
    have e3 : lineRe (slidZ zs zi) n k 0 = 0 := rfl
    have e4 : lineIm (slidZ zs zi) n k 0 = 0 := rfl
    rw [e1, e2, e3, e4, z1, z2, val_eq0]
    grind
  | J + 1, hJ => by
    obtain ⟨⟨h1, h2⟩, ⟨h3, h4⟩⟩ := slide_part (zi := zi) hl hn1 hn hk hb J (by omega)
    obtain ⟨⟨s1, s2⟩, ⟨s3, s4⟩⟩ := shift_near (j := J) hn (by omega) hk
    obtain ⟨q1, q2⟩ := quarter_bd (hb (J + 1))
    have e1 : lineRe zs n k (J + 1 + 1) = lineRe zs n k (J + 1) + (at0 zs (J + 1) : Rat) / 4 * cN n ((J + 1) * k) := rfl
    have e2 : lineIm zs n k (J + 1 + 1) = lineIm zs n k (J + 1) + (at0 zs (J + 1) : Rat) / 4 * sN n ((J + 1) * k) := rfl
    have e3 : lineRe (slidZ zs zi) n k (J + 1) = lineRe (slidZ zs zi) n k J + (at0 (slidZ zs zi) J : Rat) / 4 * cN n (J * k) := rfl
    have e4 : lineIm (slidZ zs zi) n k (J + 1) = lineIm (slidZ zs zi) n k J + (at0 (slidZ zs zi) J : Rat) / 4 * sN n (J * k) := rfl
    have e5 : at0 (slidZ zs zi) J = at0 zs (J + 1) := by rw [at0_slid hl hn1, if_pos (by omega)]
    rw [e1, e2, e3, e4, e5, natq]
    obtain ⟨m1, m2⟩ := mul_err (a := (at0 zs (J + 1) : Rat) / 4) (c := cN n ((J + 1) * k) * cP n k - sN n ((J + 1) * k) * sP n k) (d := cN n (J * k)) q1 q2 (E := 1 / 1073741824) (by grind) (by grind) (by decide +kernel)
    obtain ⟨m3, m4⟩ := mul_err (a := (at0 zs (J + 1) : Rat) / 4) (c := cN n ((J + 1) * k) * sP n k + sN n ((J + 1) * k) * cP n k) (d := sN n (J * k)) q1 q2 (E := 1 / 1073741824) (by grind) (by grind) (by decide +kernel)
    generalize (at0 zs (J + 1) : Rat) / 4 = a at *
    generalize (at0 zs 0 : Rat) / 4 = a0 at *
    generalize lineRe zs n k (J + 1) = R at *
    generalize lineIm zs n k (J + 1) = I at *
    generalize cN n ((J + 1) * k) = c' at *
    generalize sN n ((J + 1) * k) = s' at *
    generalize cP n k = c at *
    generalize sP n k = s at *
    refine ⟨⟨?_, ?_⟩, ⟨?_, ?_⟩⟩ <;> grind
theorem slide_all {zs : List Int} {zi : Int} {n k : Nat} (hl : zs.length = n) (hn1 : 1 ≤ n) (hn : n ≤ 12) (hk : k < n) (hb : ∀ i, (at0 zs i).natAbs ≤ 16) :
    (lineRe (slidZ zs zi) n k n - 2 / 10000000 ≤ (lineRe zs n k n - (at0 zs 0 : Rat) / 4 + (zi : Rat) / 4) * cP n k - lineIm zs n k n * sP n k ∧ (lineRe zs n k n - (at0 zs 0 : Rat) / 4 + (zi : Rat) / 4) * cP n k - lineIm zs n k n * sP n k ≤ lineRe (slidZ zs zi) n k n + 2 / 10000000) ∧
    (lineIm (slidZ zs zi) n k n - 2 / 10000000 ≤ (lineRe zs n k n - (at0 zs 0 : Rat) / 4 + (zi : Rat) / 4) * sP n k + lineIm zs n k n * cP n k ∧ (lineRe zs n k n - (at0 zs 0 : Rat) / 4 + (zi : Rat) / 4) * sP n k + lineIm zs n k n * cP n k ≤ lineIm (slidZ zs zi) n k n + 2 / 10000000) := by
  obtain ⟨m, rfl⟩ : ∃ m, n = m + 1 := ⟨n - 1, by omega⟩
  obtain ⟨⟨h1, h2⟩, ⟨h3, h4⟩⟩ := slide_part (zi := zi) hl hn1 hn hk hb m (Nat.le_refl _)
  obtain ⟨l1, l2⟩ := last_turn hn hk
  rw [Nat.add_sub_cancel] at l1 l2
  obtain ⟨m0, m12⟩ := nat_le12 (show m ≤ 12 by omega)
  have e3 : lineRe (slidZ zs zi) (m + 1) k (m + 1) = lineRe (slidZ zs zi) (m + 1) k m + (at0 (slidZ zs zi) m : Rat) / 4 * cN (m + 1) (m * k) := rfl
  have e4 : lineIm (slidZ zs zi) (m + 1) k (m + 1) = lineIm (slidZ zs zi) (m + 1) k m + (at0 (slidZ zs zi) m : Rat) / 4 * sN (m + 1) (m * k) := rfl
  have e5 : at0 (slidZ zs zi) m = zi := by rw [at0_slid hl hn1, if_neg (by omega), if_pos rfl]
  rw [e3, e4, e5, l1, l2]
  generalize lineRe zs (m + 1) k (m + 1) = R at *
  generalize lineIm zs (m + 1) k (m + 1) = I at *
  refine ⟨⟨?_, ?_⟩, ⟨?_, ?_⟩⟩ <;> grind
/-- SlideLine's answer. -/
structure SlideOk (z : Nat × Nat) (x0 y k n : Nat) : Prop where
  d : fbin .sub .f32 (some z.1) (some x0) = some (fo3 .sub z.1 x0)
  a : fbin .add .f32 (some (fo3 .sub z.1 x0)) (some y) = some (fo3 .add (fo3 .sub z.1 x0) y)
  aN : isN .f32 (fo3 .add (fo3 .sub z.1 x0) y)
  B : BpOk (fo3 .add (fo3 .sub z.1 x0) y, z.2) k n
  rN : isN .f32 (bpRe (fo3 .add (fo3 .sub z.1 x0) y, z.2) k n)
  iN : isN .f32 (bpIm (fo3 .add (fo3 .sub z.1 x0) y, z.2) k n)
theorem slide_near {zs : List Int} {zi : Int} {n k : Nat} {z u : Nat × Nat} {x0 y : Nat} (hl : zs.length = n) (hn1 : 1 ≤ n) (hn : n ≤ 12) (hk : k < n) (hb : ∀ i, (at0 zs i).natAbs ≤ 16) (hi : zi.natAbs ≤ 16) (hP : PhT n)
    (hx : Dy 2 x0 (at0 zs 0)) (hy : Dy 2 y zi) (N : LineNear zs n k z) (U : LineNear (slidZ zs zi) n k u) :
    SlideOk z x0 y k n ∧ (-(45 / 100000) ≤ val .f32 (bpRe (fo3 .add (fo3 .sub z.1 x0) y, z.2) k n) - val .f32 u.1 ∧ val .f32 (bpRe (fo3 .add (fo3 .sub z.1 x0) y, z.2) k n) - val .f32 u.1 ≤ 45 / 100000) ∧ (-(45 / 100000) ≤ val .f32 (bpIm (fo3 .add (fo3 .sub z.1 x0) y, z.2) k n) - val .f32 u.2 ∧ val .f32 (bpIm (fo3 .add (fo3 .sub z.1 x0) y, z.2) k n) - val .f32 u.2 ≤ 45 / 100000) := by
  obtain ⟨⟨b1, b2⟩, ⟨b3, b4⟩⟩ := line_bd (zs := zs) (n := n) (k := k) hb hn1 hn n
  obtain ⟨m0, m12⟩ := nat_le12 hn
  obtain ⟨q1, q2⟩ := quarter_bd (hb 0)
  obtain ⟨q3, q4⟩ := quarter_bd hi
  have hxv := dy2_val hx
  have hyv := dy2_val hy
  obtain ⟨rN, iN, r1, r2, i1, i2⟩ := N
  obtain ⟨_, _, u1, u2, v1, v2⟩ := U
  have d := fo3_sub rN hx.N (by rw [hxv]; grind) (by rw [hxv]; grind)
  rw [hxv] at d
  have dn := d.2.2.n64 (by grind) (by grind)
  have a := fo3_add d.2.1 hy.N (by rw [hyv]; grind) (by rw [hyv]; grind)
  rw [hyv] at a
  have an := a.2.2.n64 (by grind) (by grind)
  have ht : k ≤ 32 * n := by omega
  have hin : k ∈ prods n := by
    by_cases h1 : 1 < n
    · have := prods_in (j := 1) hn h1 hk; rwa [Nat.one_mul] at this
    · have := prods_in (j := 0) (k := k) hn (by omega) hk
      have e : k = 0 * k := by omega
      rw [e]; exact this
  obtain ⟨B, pN, qN, ⟨p1, p2⟩, _, _, ⟨g1, g2⟩⟩ := bp_near (z := (fo3 .add (fo3 .sub z.1 x0) y, z.2)) (t := k) (n := n) a.2.1 iN (R := lineRe zs n k n - (at0 zs 0 : Rat) / 4 + (zi : Rat) / 4) (I := lineIm zs n k n) (by grind) (by grind) (by grind) (by grind) (by grind) (by grind) (by grind) (by grind) (hP _ hin) hn1 hn ht
  obtain ⟨⟨s1, s2⟩, ⟨s3, s4⟩⟩ := slide_all (zi := zi) hl hn1 hn hk hb
  exact ⟨⟨d.1, a.1, a.2.1, B, pN, qN⟩, ⟨by grind, by grind⟩, ⟨by grind, by grind⟩⟩

end Go.Proofs.Ytfclkbppmkjkeaa

namespace Go.Proofs.Ytfclkbppmkjkeaa
open Go.RowKit
attribute [local go_sem ↓] Go.wp_at_zero Go.wp_at_succ

def pwC (r i : Nat) : Nat := fo .add (fo .mul (wid r) (wid r)) (fo .mul (wid i) (wid i))
def sqC (r i : Nat) : Nat := (fsqrt (some (pwC r i))).getD 0
def longN (r i : Nat) : Nat := narP (sqC r i)
structure LongV (r i : Nat) : Prop where
  rN : isN .f32 r
  iN : isN .f32 i
  m1 : fbin .mul .f64 (some (wid r)) (some (wid r)) = some (fo .mul (wid r) (wid r))
  m2 : fbin .mul .f64 (some (wid i)) (some (wid i)) = some (fo .mul (wid i) (wid i))
  a : fbin .add .f64 (some (fo .mul (wid r) (wid r))) (some (fo .mul (wid i) (wid i))) = some (pwC r i)
  s : fsqrt (some (pwC r i)) = some (sqC r i)
  n : floatToFloatBits .f64 (sqC r i) .f32 = some (longN r i)
  N : isN .f32 (longN r i)
  lo : 0 ≤ val .f32 (longN r i)
  hi : val .f32 (longN r i) ≤ 128
  small : (-(47 / 100000) ≤ val .f32 r ∧ val .f32 r ≤ 47 / 100000) → (-(47 / 100000) ≤ val .f32 i ∧ val .f32 i ≤ 47 / 100000) → val .f32 (longN r i) ≤ 7 / 10000
  zero : val .f32 r = 0 → val .f32 i = 0 → val .f32 (longN r i) = 0
  pos : (val .f32 r ≠ 0 ∨ val .f32 i ≠ 0) → 0 < val .f32 (longN r i)
theorem f32_least {r : Nat} (h : isN .f32 r) (h0 : val .f32 r ≠ 0) : tp (-149) ≤ val .f32 r ∨ val .f32 r ≤ -tp (-149) := by
  obtain ⟨s, m, e, hd⟩ := h
  have hb := read32_bd r hd
  have hv : val .f32 r = sg s * ((m : Rat) * tp e) := by unfold val; rw [hd]; rfl
  have hm : 1 ≤ m := by
    refine Nat.pos_of_ne_zero fun e0 => h0 ?_
    rw [hv, e0, val_eq0, Rat.zero_mul, Rat.mul_zero]
  have h1 : tp (-149) ≤ (m : Rat) * tp e := by
    have g1 := tp_mono (a := -149) (b := e) hb.2.1
    have g2 : (1 : Rat) ≤ (m : Rat) := Rat.natCast_le_natCast (a := 1).2 hm
    have g3 := Rat.mul_le_mul_of_nonneg_right g2 (Rat.le_of_lt (tp_pos e))
    rw [Rat.one_mul] at g3
    exact Rat.le_trans g1 g3
  rw [hv]
  rcases sg_cases s ((m : Rat) * tp e) with ⟨_, q⟩ | ⟨_, q⟩ <;> rw [q]
  · exact .inl h1
  · right; grind
theorem longV_of {r i : Nat} (hr : isN .f32 r) (hi : isN .f32 i) (r1 : -81 ≤ val .f32 r) (r2 : val .f32 r ≤ 81) (i1 : -81 ≤ val .f32 i) (i2 : val .f32 i ≤ 81) : LongV r i := by
  obtain ⟨wr1, wr2⟩ := wid_ok hr
  obtain ⟨wi1, wi2⟩ := wid_ok hi
  have T20 : ∀ x : Rat, -1048576 ≤ x → x ≤ 1048576 → inT .f64 x := by
    intro x h1 h2
    have h3 : (1048576 : Rat) < tp 1023 := by
      have : (1048576 : Rat) = tp 20 := by decide +kernel
      rw [this]; exact tp_lt (by decide)
    have h4 : tB .f64 = 1023 := rfl
    constructor <;> (rw [h4]; grind)
  have sq : ∀ {x : Rat}, -81 ≤ x → x ≤ 81 → 0 ≤ x * x ∧ x * x ≤ 81 * 81 := by
    intro x h1 h2
    rcases Rat.le_total (a := 0) (b := x) with h | h
    · exact ⟨Rat.mul_nonneg h h, sq_le_of h h2⟩
    · have h' : 0 ≤ -x := by grind
      have p := Rat.mul_nonneg h' h'
      have q := sq_le_of h' (show -x ≤ 81 by grind)
      exact ⟨by grind, by grind⟩
  obtain ⟨sr1, sr2⟩ := sq r1 r2
  obtain ⟨si1, si2⟩ := sq i1 i2
  obtain ⟨p, e1, n1, q1⟩ := mul_RN wr1 wr1 (T20 _ (by rw [wr2]; grind) (by rw [wr2]; grind))
  obtain ⟨q, e2, n2, q2⟩ := mul_RN wi1 wi1 (T20 _ (by rw [wi2]; grind) (by rw [wi2]; grind))
  rw [wr2] at q1
  rw [wi2] at q2
  have ep : fo .mul (wid r) (wid r) = p := by unfold fo; rw [e1]; rfl
  have eq' : fo .mul (wid i) (wid i) = q := by unfold fo; rw [e2]; rfl
  have z0 : Rep .f64 0 := rep_zero _
  have p0 := q1.dn 0 z0 sr1
  have p1 := q1.up 6561 (rep64i 6561 (by decide)) (by grind)
  have q0 := q2.dn 0 z0 si1
  have q1' := q2.up 6561 (rep64i 6561 (by decide)) (by grind)
  obtain ⟨u, e3, n3, q3⟩ := add_RN n1 n2 (T20 _ (by grind) (by grind))
  have eu : pwC r i = u := by unfold pwC; rw [ep, eq']; unfold fo; rw [e3]; rfl
  have u0 := q3.dn 0 z0 (by grind)
  have u1 := q3.up 13122 (rep64i 13122 (by decide)) (by grind)
  have ht : val .f64 u ≤ tp 1000 := by
    have : (16384 : Rat) = tp 14 := by decide +kernel
    have h2 : tp 14 ≤ tp 1000 := tp_mono (by decide)
    grind
  obtain ⟨t, e4, n4, up, dn, _⟩ := sqrt_RN n3 u0 ht
  have et : sqC r i = t := by unfold sqC; rw [eu, e4]; rfl
  have t0 := dn 0 z0 (by decide +kernel) (by rw [Rat.zero_mul]; exact u0)
  have t1 := up 128 (rep64i 128 (by decide)) (by decide +kernel) (by grind)
  obtain ⟨l1, l2, l3⟩ := nar_RN n4 (by grind) (by grind)
  have eL : longN r i = narP t := by unfold longN; rw [et]
  rw [← eL] at l1 l2 l3
  rw [← et] at l3
  refine ⟨hr, hi, by rw [ep]; exact e1, by rw [eq']; exact e2, by rw [ep, eq', eu]; exact e3, by rw [eu, et]; exact e4, l3, l1, l2.dn 0 (rep_zero _) t0, l2.up 128 (rep32i 128 (by decide)) t1, ?_, ?_, ?_⟩
  · rintro ⟨a1, a2⟩ ⟨b1, b2⟩
    have sqs : ∀ {x : Rat}, -(47 / 100000) ≤ x → x ≤ 47 / 100000 → x * x ≤ 47 / 100000 * (47 / 100000) := by
      intro x h1 h2
      rcases Rat.le_total (a := 0) (b := x) with h | h
      · exact sq_le_of h h2
      · have h' : 0 ≤ -x := by grind
        have q := sq_le_of h' (show -x ≤ 47 / 100000 by grind)
        grind
    have c1 := sqs a1 a2
    have c2 := sqs b1 b2
    have hg : ∀ m : Int, m.natAbs ≤ 1099511627776 → Rep .f64 ((m : Rat) * tp (-60)) := fun m h => ⟨m, -60, by show m.natAbs ≤ 2 ^ 53; omega, by decide, rfl⟩
    have v60 : tp (-60) = 1 / 1152921504606846976 := by decide +kernel
    have k1 := q1.up _ (hg 254803968000 (by decide)) (by rw [v60]; grind)
    have k2 := q2.up _ (hg 254803968000 (by decide)) (by rw [v60]; grind)
    rw [v60] at k1 k2
    have k3 := q3.up _ (hg 509700000000 (by decide)) (by rw [v60]; grind)
    rw [v60] at k3
    have k4 := up _ (rep64m 700 (by decide)) (by rw [tp_m20]; decide +kernel) (by rw [tp_m20]; grind)
    rw [tp_m20] at k4
    have k5 := l2.up _ (⟨700, -20, by decide, by decide, rfl⟩ : Rep .f32 (((700 : Int) : Rat) * tp (-20))) (by rw [tp_m20]; exact k4)
    rw [tp_m20] at k5
    grind
  · intro a b
    rw [a, Rat.zero_mul] at q1
    rw [b, Rat.zero_mul] at q2
    have f1 := q1.exact z0
    have f2 := q2.exact z0
    rw [f1, f2, Rat.add_zero] at q3
    have f3 := q3.exact z0
    have f4 := up 0 z0 (by decide +kernel) (by rw [f3]; decide +kernel)
    have f5 : val .f64 t = 0 := Rat.le_antisymm f4 t0
    rw [f5] at l2
    exact l2.exact (rep_zero _)
  · intro h
    have w149 : tp (-149) * tp (-149) = tp (-298) := tp_sq (-149)
    have r298 : Rep .f64 (tp (-298)) := ⟨1, -298, by decide, by decide, by rw [show ((1 : Int) : Rat) = 1 from rfl, Rat.one_mul]⟩
    have r149 : Rep .f64 (tp (-149)) := ⟨1, -149, by decide, by decide, by rw [show ((1 : Int) : Rat) = 1 from rfl, Rat.one_mul]⟩
    have r149s : Rep .f32 (tp (-149)) := ⟨1, -149, by decide, by decide, by rw [show ((1 : Int) : Rat) = 1 from rfl, Rat.one_mul]⟩
    have p149 := tp_pos (-149)
    have key : ∀ {x : Rat}, (tp (-149) ≤ x ∨ x ≤ -tp (-149)) → tp (-298) ≤ x * x := by
      intro x hx
      rw [← w149]
      rcases hx with g | g
      · exact sq_le_of (Rat.le_of_lt p149) g
      · have := sq_le_of (Rat.le_of_lt p149) (show tp (-149) ≤ -x by grind)
        grind
    have hu : tp (-298) ≤ val .f64 u := by
      refine q3.dn _ r298 ?_
      rcases h with h | h
      · have := q1.dn _ r298 (key (f32_least hr h)); grind
      · have := q2.dn _ r298 (key (f32_least hi h)); grind
    have hs := dn _ r149 (Rat.le_of_lt p149) (by rw [w149]; exact hu)
    have hl := l2.dn _ r149s hs
    grind

/-! ### The texts -/
theorem sqrt_num {x r : Nat} (h : fsqrt (some x) = some r) (w : World) : (callFunc 179 #[.float .f64 x]).run Try.prog w = .ok (.value (.float .f64 r)) w := by
  have h0 := run_callFunc_standIn (P := Try.prog) (f := 179) (e := Extern.MathSqrt.sqrt) Try.func179 (by kernel_rfl) (by kernel_rfl) (by kernel_rfl) (by kernel_rfl) #[.float .f64 x] w
  rw [h0]
  have he : Extern.MathSqrt.sqrt #[.float .f64 x] = (match FloatKind.f64.format.sqrt x with
    | some r => pure (.float .f64 r)
    | none => do pure (.float .f64 (← choose (.nanBits .f64 x x)))) := rfl
  rw [he]
  have hs : FloatKind.f64.format.sqrt x = some r := h
  rw [hs]
  simp
theorem mathSqrt_num {x r : Nat} {w : World} (h : fsqrt (some x) = some r) : Calls Try.prog 140 #[.float .f64 x] w fun e w' => e = .returned (.float .f64 r) ∧ w = w' := by
  have hrun := sqrt_num h
  clear h
  go_enter Try.func140, Try.ntmps140
  go_wp2
  go_ret
  exact ⟨rfl, rfl⟩
theorem implLong_any {r i : Nat} {w : World} (L : LongV r i) : Calls Try.prog 114 #[.complex .f32 r i] w fun e w' => e = .returned (.float .f32 (longN r i)) ∧ w = w' := by
  have HP : Hid (∀ w : World, Calls Try.prog 154 #[.complex .f32 r i] w fun e w' => e = .returned (.float .f64 (pwC r i)) ∧ w = w') := Lib.hid (fun w => by
    have HX := Lib.hid (parts_any (w := w) L.rN L.iN)
    have a1 := ar L.m1 34
    have a2 := ar L.m2 34
    have a3 := ar L.a 34
    clear L
    generalize pwC r i = pw at *
    generalize fo .mul (wid r) (wid r) = p at *
    generalize fo .mul (wid i) (wid i) = q at *
    generalize wid r = wr at *
    generalize wid i = wi at *
    go_enter Try.func154, Try.ntmps154
    go_wp2_with fail
    refine HX.out.mono ?_
    rintro e w1 ⟨rfl, rfl⟩
    go_wp2
    go_ret
    exact ⟨rfl, rfl⟩)
  have HS := Lib.hid (fun w : World => mathSqrt_num (w := w) L.s)
  have cv := fun w' : World => run_convert_float_float (P := Try.prog) w' 34 28 .f64 .f32 (sqC r i) _ und_f64s und_f32k L.n
  clear L
  generalize longN r i = ln at *
  generalize sqC r i = sq at *
  generalize pwC r i = pw at *
  go_enter Try.func114, Try.ntmps114
  go_wp2_with fail
  refine (HP.out _).mono ?_
  rintro e w1 ⟨rfl, rfl⟩
  go_wp2_with fail
  refine (HS.out _).mono ?_
  rintro e w1 ⟨rfl, rfl⟩
  go_wp2
  go_ret
  exact ⟨rfl, rfl⟩
theorem specLong_any {r i : Nat} {w : World} (L : LongV r i) : Calls Try.prog 51 #[.complex .f32 r i] w fun e w' => e = .returned (.float .f32 (longN r i)) ∧ w = w' := by
  have HP : Hid (∀ w : World, Calls Try.prog 152 #[.complex .f32 r i] w fun e w' => e = .returned (.float .f64 (pwC r i)) ∧ w = w') := Lib.hid (fun w => by
    have c1 := fun w' : World => run_convert_float_float (P := Try.prog) w' 28 34 .f32 .f64 r _ und_f32 und_f64 (wid_val L.rN).2.2
    have c2 := fun w' : World => run_convert_float_float (P := Try.prog) w' 28 34 .f32 .f64 i _ und_f32 und_f64 (wid_val L.iN).2.2
    have a1 := ar L.m1 34
    have a2 := ar L.m2 34
    have a3 := ar L.a 34
    clear L
    generalize pwC r i = pw at *
    generalize fo .mul (wid r) (wid r) = p at *
    generalize fo .mul (wid i) (wid i) = q at *
    generalize wid r = wr at *
    generalize wid i = wi at *
    go_enter Try.func152, Try.ntmps152
    go_wp2
    go_ret
    exact ⟨rfl, rfl⟩)
  have HS := Lib.hid (fun w : World => mathSqrt_num (w := w) L.s)
  have HN : Hid (∀ w : World, Calls Try.prog 151 #[.float .f64 (sqC r i)] w fun e w' => e = .returned (.float .f32 (longN r i)) ∧ w = w') := Lib.hid (fun w => by
    have cv := fun w' : World => run_convert_float_float (P := Try.prog) w' 34 28 .f64 .f32 (sqC r i) _ und_f64s und_f32k L.n
    clear L HP HS
    generalize longN r i = ln at *
    generalize sqC r i = sq at *
    go_enter Try.func151, Try.ntmps151
    go_wp2
    go_ret
    exact ⟨rfl, rfl⟩)
  clear L
  generalize longN r i = ln at *
  generalize sqC r i = sq at *
  generalize pwC r i = pw at *
  have HL : Hid (∀ w : World, Calls Try.prog 111 #[.complex .f32 r i] w fun e w' => e = .returned (.float .f32 ln) ∧ w = w') := Lib.hid (fun w => by
    go_enter Try.func111, Try.ntmps111
    go_wp2_with fail
    refine (HP.out _).mono ?_
    rintro e w1 ⟨rfl, rfl⟩
    go_wp2_with fail
    refine (HS.out _).mono ?_
    rintro e w1 ⟨rfl, rfl⟩
    go_wp2_with fail
    refine (HN.out _).mono ?_
    rintro e w1 ⟨rfl, rfl⟩
    go_wp2
    go_ret
    exact ⟨rfl, rfl⟩)
  clear HP HS HN
  go_enter Try.func51, Try.ntmps51
  go_wp2_with fail
  refine (HL.out _).mono ?_
  rintro e w1 ⟨rfl, rfl⟩
  go_wp2
  go_ret
  exact ⟨rfl, rfl⟩

/-! ### SameComplex -/
def sameB (a b : Nat) : Bool := wrap64 (a : Int) == wrap64 (b : Int)
theorem ord_self32 {x : Nat} (h : isN .f32 x) : FloatKind.f32.format.order x x = some .eq := ord_same3 h h rfl
theorem l01Same_any {a b : Nat} {w : World} (ha : isN .f32 a) (hb : isN .f32 b) : Calls Try.prog 100 #[.float .f32 a, .float .f32 b] w fun e w' => e = .returned (.bool (sameB a b)) ∧ w = w' := by
  have HA := Lib.hid (fun w : World => l01Bits_any (w := w) (ord_self32 ha))
  have HB := Lib.hid (fun w : World => l01Bits_any (w := w) (ord_self32 hb))
  unfold sameB
  generalize wrap64 (a : Int) = m at *
  generalize wrap64 (b : Int) = n at *
  clear ha hb
  go_enter Try.func100, Try.ntmps100
  go_wp2_with fail
  refine (HA.out _).mono ?_
  rintro e w1 ⟨rfl, rfl⟩
  go_wp2_with fail
  refine (HB.out _).mono ?_
  rintro e w1 ⟨rfl, rfl⟩
  go_wp2
  go_ret
  exact ⟨rfl, rfl⟩
theorem csame_of {a b c d : Nat} {p q : Bool} {w : World} (ha : ∀ w : World, Calls Try.prog 100 #[.float .f32 a, .float .f32 c] w fun e w' => e = .returned (.bool p) ∧ w = w') (hb : ∀ w : World, Calls Try.prog 100 #[.float .f32 b, .float .f32 d] w fun e w' => e = .returned (.bool q) ∧ w = w') :
    Calls Try.prog 110 #[.complex .f32 a b, .complex .f32 c d] w fun e w' => e = .returned (.bool (p && q)) ∧ w = w' := by
  have HA := Lib.hid ha
  have HB := Lib.hid hb
  clear ha hb
  cases p
  · go_enter Try.func110, Try.ntmps110
    go_wp2_with fail
    refine (HA.out _).mono ?_
    rintro e w1 ⟨rfl, rfl⟩
    go_wp2
    go_ret
    exact ⟨rfl, rfl⟩
  · go_enter Try.func110, Try.ntmps110
    go_wp2_with fail
    refine (HA.out _).mono ?_
    rintro e w1 ⟨rfl, rfl⟩
    go_wp2_with fail
    refine (HB.out _).mono ?_
    rintro e w1 ⟨rfl, rfl⟩
    go_wp2
    go_ret
    exact ⟨rfl, rfl⟩
theorem samecx_of {a b c d : Nat} {p : Bool} {w : World} (hc : ∀ w : World, Calls Try.prog 110 #[.complex .f32 a b, .complex .f32 c d] w fun e w' => e = .returned (.bool p) ∧ w = w') :
    Calls Try.prog 50 #[.complex .f32 a b, .complex .f32 c d] w fun e w' => e = .returned (.bool p) ∧ w = w' := by
  have HC := Lib.hid hc
  clear hc
  go_enter Try.func50, Try.ntmps50
  go_wp2_with fail
  refine (HC.out _).mono ?_
  rintro e w1 ⟨rfl, rfl⟩
  go_wp2
  go_ret
  exact ⟨rfl, rfl⟩
theorem sameCpx_any {a b c d : Nat} {w : World} (ha : isN .f32 a) (hb : isN .f32 b) (hc : isN .f32 c) (hd : isN .f32 d) : Calls Try.prog 50 #[.complex .f32 a b, .complex .f32 c d] w fun e w' => e = .returned (.bool (sameB a c && sameB b d)) ∧ w = w' :=
  samecx_of (fun _ => csame_of (fun _ => l01Same_any ha hc) (fun _ => l01Same_any hb hd))

/-! ### cmp.Compare -/
def cmpF (a b : Nat) : Int := if val .f32 a < val .f32 b then -1 else if val .f32 b < val .f32 a then 1 else 0
theorem isNaNF_any {x : Nat} {w : World} (h : isN .f32 x) : Calls Try.prog 155 #[.float .f32 x] w fun e w' => e = .returned (.bool false) ∧ w = w' := by
  have ho := ord_self32 h
  clear h
  go_enter Try.func155, Try.ntmps155
  go_wp2
  go_ret
  exact ⟨by simp, rfl⟩
theorem compareF_any {a b : Nat} {w : World} (ha : isN .f32 a) (hb : isN .f32 b) : Calls Try.prog 117 #[.float .f32 a, .float .f32 b] w fun e w' => e = .returned (.int .i64 (cmpF a b)) ∧ w = w' := by
  have HA := Lib.hid (fun w : World => isNaNF_any (w := w) ha)
  have HB := Lib.hid (fun w : World => isNaNF_any (w := w) hb)
  have ho : FloatKind.f32.format.order a b = _ := order_val ha hb
  unfold cmpF
  by_cases h1 : val .f32 a < val .f32 b
  · rw [if_pos h1] at ho ⊢
    clear h1 ha hb
    go_enter Try.func117, Try.ntmps117
    go_wp2_with fail
    refine (HA.out _).mono ?_
    rintro e w1 ⟨rfl, rfl⟩
    go_wp2_with fail
    refine (HB.out _).mono ?_
    rintro e w1 ⟨rfl, rfl⟩
    go_wp2
    go_ret
    exact ⟨rfl, rfl⟩
  · rw [if_neg h1] at ho ⊢
    by_cases h2 : val .f32 b < val .f32 a
    · rw [if_neg (show ¬ val .f32 a = val .f32 b by grind)] at ho
      rw [if_pos h2]
      clear h1 h2 ha hb
      go_enter Try.func117, Try.ntmps117
      go_wp2_with fail
      refine (HA.out _).mono ?_
      rintro e w1 ⟨rfl, rfl⟩
      go_wp2_with fail
      refine (HB.out _).mono ?_
      rintro e w1 ⟨rfl, rfl⟩
      go_wp2
      go_ret
      exact ⟨rfl, rfl⟩
    · rw [if_pos (show val .f32 a = val .f32 b by grind)] at ho
      rw [if_neg h2]
      clear h1 h2 ha hb
      go_enter Try.func117, Try.ntmps117
      go_wp2_with fail
      refine (HA.out _).mono ?_
      rintro e w1 ⟨rfl, rfl⟩
      go_wp2_with fail
      refine (HB.out _).mono ?_
      rintro e w1 ⟨rfl, rfl⟩
      go_wp2
      go_ret
      exact ⟨rfl, rfl⟩

end Go.Proofs.Ytfclkbppmkjkeaa
