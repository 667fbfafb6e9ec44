/- math.Abs on a float64 that is a number; the sign turned. The spec's sine; the point of the unit circle in both texts: walked. The point of the unit circle in both texts: walked. Products of complex numbers in both texts, where nothing is lost: walked. -/
import Derived.Test.YtfclkbppmkjkeaaQFq11
import Derived.Laws.BitsAllLaws
import Derived.Laws.Externs
namespace Go.Proofs.Ytfclkbppmkjkeaa
open Go.RowKit
attribute [local go_sem ↓] Go.wp_at_zero Go.wp_at_succ

theorem read64_low (x : Nat) : Ieee.double.read (x % 9223372036854775808) = (match Ieee.double.read x with | .number _ m e => .number false m e | .infinity _ => .infinity false | .nan _ t => .nan false t) := by
  have e1 : Ieee.double.signWeight = 9223372036854775808 := by decide
  unfold Ieee.Format.read
  rw [e1]
  have h1 : x % 9223372036854775808 / 9223372036854775808 % 2 = 0 := by omega
  have h2 : x % 9223372036854775808 % 9223372036854775808 = x % 9223372036854775808 := Nat.mod_mod _ _
  rw [h1, h2]
  generalize x % 9223372036854775808 = r
  simp only
  split
  · rfl
  · split
    · rfl
    · split <;> rfl
theorem abs_low {x : Nat} (hx : isN .f64 x) : isN .f64 (x % 9223372036854775808) ∧ ((0 ≤ val .f64 x → val .f64 (x % 9223372036854775808) = val .f64 x) ∧ (val .f64 x ≤ 0 → val .f64 (x % 9223372036854775808) = - val .f64 x)) := by
  obtain ⟨s, m, e, hd⟩ := hx
  have hd' : Ieee.double.read x = .number s m e := hd
  have h := read64_low x
  rw [hd'] at h
  have h1 : FloatKind.f64.decode (x % 9223372036854775808) = .number false m e := h
  refine ⟨⟨_, _, _, h1⟩, ?_⟩
  unfold val
  rw [hd, h1]
  show (0 ≤ sg s * ((m : Rat) * tp e) → sg false * ((m : Rat) * tp e) = sg s * ((m : Rat) * tp e)) ∧ (sg s * ((m : Rat) * tp e) ≤ 0 → sg false * ((m : Rat) * tp e) = -(sg s * ((m : Rat) * tp e)))
  have h5 := nn m e
  have e0 : sg false * ((m : Rat) * tp e) = (m : Rat) * tp e := by simp only [sg, Bool.false_eq_true, if_false, Rat.one_mul]
  rw [e0]
  rcases sg_cases s ((m : Rat) * tp e) with ⟨_, e'⟩ | ⟨_, e'⟩ <;> rw [e'] <;> constructor <;> intro h <;> grind
theorem read64_flip {x : Nat} (hx : x < 18446744073709551616) : Ieee.double.read (x ^^^ 9223372036854775808) = (Ieee.double.read x).opposite := by
  have e1 : Ieee.double.signWeight = 9223372036854775808 := by decide
  have hp : (9223372036854775808 : Nat) = 2 ^ 63 := by decide
  have h1 : (x ^^^ 9223372036854775808) % 9223372036854775808 = x % 9223372036854775808 := by
    rw [hp, Nat.xor_mod_two_pow, Nat.mod_self, Nat.xor_zero]
  have h2 : (x ^^^ 9223372036854775808) / 9223372036854775808 = (x / 9223372036854775808) ^^^ 1 := by
    rw [hp, ← Nat.shiftRight_eq_div_pow, Nat.shiftRight_xor_distrib, Nat.shiftRight_eq_div_pow, Nat.shiftRight_eq_div_pow, Nat.div_self (Nat.two_pow_pos _)]
  have h3 : x / 9223372036854775808 = 0 ∨ x / 9223372036854775808 = 1 := by omega
  unfold Ieee.Format.read
  rw [e1, h1, h2]
  generalize x % 9223372036854775808 = r
  have h4 : ((x / 9223372036854775808 ^^^ 1) % 2 == 1) = !(x / 9223372036854775808 % 2 == 1) := by rcases h3 with h | h <;> rw [h] <;> decide
  rw [h4]
  simp only
  split
  · rfl
  · split
    · rfl
    · split <;> rfl
theorem neg_val {x : Nat} (hx : isN .f64 x) (hw : x < 18446744073709551616) : isN .f64 (Op.negFloat .f64 x) ∧ val .f64 (Op.negFloat .f64 x) = - val .f64 x ∧ Op.negFloat .f64 x < 18446744073709551616 := by
  obtain ⟨s, m, e, hd⟩ := hx
  have h0 : Op.negFloat .f64 x = x ^^^ 9223372036854775808 := rfl
  have h := read64_flip hw
  have hd' : Ieee.double.read x = .number s m e := hd
  rw [hd'] at h
  have h1 : FloatKind.f64.decode (Op.negFloat .f64 x) = .number (!s) m e := by rw [h0]; exact h
  refine ⟨⟨_, _, _, h1⟩, ?_, ?_⟩
  · unfold val
    rw [h1, hd]
    exact opp_val (d := .number s m e)
  · rw [h0]
    exact Nat.xor_lt_two_pow (n := 64) hw (by decide)

set_option maxRecDepth 20000 in
set_option maxHeartbeats 1000000 in
theorem abs_any {x : Nat} {w : World} (hw : x < 18446744073709551616) : Calls Try.prog 148 #[.float .f64 x] w fun e w' => e = .returned (.float .f64 (x % 9223372036854775808)) ∧ w = w' := by
  have hb : bits .andNot .u64 (x : Int) 9223372036854775808 = ((x % 9223372036854775808 : Nat) : Int) := by
    have h := u64_andNot_nat x 9223372036854775808 hw (by decide)
    rw [show (((9223372036854775808 : Nat) : Int)) = 9223372036854775808 from rfl] at h
    rw [h]
    have : (18446744073709551615 - 9223372036854775808 : Nat) = 2 ^ 63 - 1 := by decide
    rw [this, Nat.and_two_pow_sub_one_eq_mod]
  have h1 : ∀ w' : World, (callFunc 176 #[.float .f64 x]).run Try.prog w' = .ok (.value (.int .u64 (x : Int))) w' := fun w' => by
    rw [run_callFunc_extern Try.func176 (by kernel_rfl) (by kernel_rfl) (by kernel_rfl) (e := Extern.MathFloatBits.float64bits) (by kernel_rfl)]; rfl
  have h2 : ∀ w' : World, (callFunc 175 #[.int .u64 ((x % 9223372036854775808 : Nat) : Int)]).run Try.prog w' = .ok (.value (.float .f64 (x % 9223372036854775808))) w' := fun w' => by
    rw [run_callFunc_extern Try.func175 (by kernel_rfl) (by kernel_rfl) (by kernel_rfl) (e := Extern.MathFloatBits.float64frombits) (by kernel_rfl)]; rfl
  generalize hy : x % 9223372036854775808 = y at *
  go_enter Try.func148, Try.ntmps148
  go_wp2
  go_ret
  exact ⟨rfl, rfl⟩

end Go.Proofs.Ytfclkbppmkjkeaa

namespace Go.Proofs.Ytfclkbppmkjkeaa
open Go.RowKit
attribute [local go_sem ↓] Go.wp_at_zero Go.wp_at_succ

theorem und_f32k : Try.prog.underlying 28 = some (.float .f32) := by kernel_rfl
theorem self0 {x : Nat} (hx : isN .f64 x) : fbin .sub .f64 (some x) (some x) = some (fo .sub x x) ∧ isN .f64 (fo .sub x x) ∧ FloatKind.f64.format.order (fo .sub x x) 0 = some .eq := by
  have a := fo_sub hx hx (by grind) (by grind)
  have e : val .f64 x - val .f64 x = 0 := by grind
  rw [e] at a
  have v := a.2.2.exact (rep_zero _)
  exact ⟨a.1, a.2.1, (ord_is a.2.1 n_0).2.1 (by rw [v, v_0])⟩

set_option maxRecDepth 20000 in
set_option maxHeartbeats 4000000 in
theorem specSine_any {x : Nat} {w : World} (h : QOk x) : Calls Try.prog 189 #[.float .f64 x] w fun e w' => e = .returned (.float .f64 (sineP (fracP x))) ∧ w = w' := by
  obtain ⟨p1, p2, p3⟩ := self0 h.N
  have aS := ar p1 34
  have p4 : (FloatKind.f64.format.order (fo .sub x x) 0 == some .eq) = true := by rw [p3]; rfl
  have q1 := (ord_is h.N n_52).1 (by rw [v_52]; have := h.x1; grind)
  have q1b : (FloatKind.f64.format.order x c52 == some .gt || FloatKind.f64.format.order x c52 == some .eq) = false := by rw [q1]; rfl
  have q2 := (ord_is h.N n_m52).2.2 (by rw [v_m52]; have := h.x0; grind)
  have q2b : (FloatKind.f64.format.order x cm52 == some .lt || FloatKind.f64.format.order x cm52 == some .eq) = false := by rw [q2]; rfl
  have t0 := fun w' : World => run_convert_float_int (P := Try.prog) w' 34 2 .f64 .i64 x _ und_f64s und_i64 h.fr.tr
  have aD := ar h.fr.sub 34
  have hnl : ¬ FloatKind.f64.format.order (fracD x) 0 = some .lt := fun hh => by
    have := (ord_lt h.D n_0).1 hh
    rw [v_0] at this
    have := h.D0
    grind
  have hnlb := nlt_b hnl
  have hN : isN .f64 (fracP x) := h.fr.N
  have o1 := (ord_is hN n_12).1 (by rw [v_12]; have := h.q; grind)
  have o1b : (FloatKind.f64.format.order (fracP x) c12 == some .gt || FloatKind.f64.format.order (fracP x) c12 == some .eq) = false := by rw [o1]; rfl
  have o2 : ¬ FloatKind.f64.format.order (fracP x) c14 = some .gt := by
    have h2 := h.q
    by_cases he : val .f64 (fracP x) = 1 / 4
    · rw [(ord_is hN n_14).2.1 (by rw [v_14]; exact he)]; simp
    · rw [(ord_is hN n_14).1 (by rw [v_14]; grind)]; simp
  have o2b : (FloatKind.f64.format.order (fracP x) c14 == some .gt) = false := by simpa using o2
  have hs := h.s
  have az := ar hs.z 34
  have au := ar hs.u 34
  have ay := ar hs.y 34
  have HH : Hid (∀ i, i < 8 → _) := Lib.hid (fun i (hi : i < 8) => horn_step hi hs.uN (horn_ok hs.uN hs.u0 hs.u1 i (by omega)).1 hs.u0 hs.u1 (horn_ok hs.uN hs.u0 hs.u1 i (by omega)).2.1 (horn_ok hs.uN hs.u0 hs.u1 i (by omega)).2.2)
  have he := h.e
  rw [← he] at aD hnl hnlb
  clear hs h hN p1 p2 he
  generalize sineP (fracP x) = y at ay ⊢
  generalize fracP x = f at *
  generalize fo .mul f cTau = z at *
  generalize fo .mul z z = u at *
  generalize fo .sub x x = d0 at *
  have AY := Lib.hid ay
  clear ay
  unfold cTau at az
  unfold c12 at o1 o1b
  unfold c14 at o2 o2b
  unfold c52 at q1 q1b
  unfold cm52 at q2 q2b
  go_enter Try.func189, Try.ntmps189
  go_wp2
  go_loopw [7, 8] (fun pi ki wr => ∃ i : Nat, i ≤ 8 ∧ ki = .int .i64 ((8 : Int) - (i : Int)) ∧ pi = .float .f64 (horn u i) ∧ Hid (wr = w)) (fun _ ki _ => (intOf ki).toNat)
  case atStart => exact ⟨0, by omega, rfl, rfl, Lib.hid rfl⟩
  case round =>
    obtain ⟨i, hi, rfl, rfl, HW⟩ := hrel
    obtain rfl := HW.out
    clear HW
    by_cases hlt : i < 8
    · obtain ⟨m1, m2, m3, _⟩ := HH.out i hlt
      have b1 := ar m1.1 34
      have b2 := ar m2.1 34
      have b3 := ar m3.1 34
      have e1 : fo .sub c1 (fo .quo (fo .mul u (horn u i)) (d8 i)) = horn u (i + 1) := rfl
      rw [e1] at b3
      unfold c1 at b3
      clear m1 m2 m3 e1
      generalize fo .mul u (horn u i) = t1 at *
      generalize fo .quo t1 (d8 i) = t2 at *
      have hgt : (1 : Int) ≤ 8 - (i : Int) := by omega
      have v1 : IntKind.i64.wrap (2 * (8 - (i : Int))) = 2 * (8 - (i : Int)) := IntWalk.i64_in _ (by omega)
      have v2 : IntKind.i64.wrap (2 * (8 - (i : Int)) + 1) = 2 * (8 - (i : Int)) + 1 := IntWalk.i64_in _ (by omega)
      have hb : ∀ i : Fin 8, ((2 * (8 - i.val)) * (2 * (8 - i.val) + 1) : Nat) ≤ 272 := by decide
      have hb := hb ⟨i, hlt⟩
      simp only at hb
      have hm : (2 * (8 - (i : Int))) * (2 * (8 - (i : Int)) + 1) = (((2 * (8 - i)) * (2 * (8 - i) + 1) : Nat) : Int) := by push_cast; rw [show ((8 - i : Nat) : Int) = 8 - (i : Int) by omega]
      have v3 : IntKind.i64.wrap ((2 * (8 - (i : Int))) * (2 * (8 - (i : Int)) + 1)) = (((2 * (8 - i)) * (2 * (8 - i) + 1) : Nat) : Int) := by rw [hm]; exact IntWalk.i64_in _ (by omega)
      have v4 : IntKind.i64.wrap (8 - (i : Int) - 1) = 8 - ((i + 1 : Nat) : Int) := by rw [show (8 : Int) - (i : Int) - 1 = 8 - ((i + 1 : Nat) : Int) by omega]; exact IntWalk.i64_in _ (by omega)
      have hD : floatOfInt .f64 ((((2 * (8 - i)) * (2 * (8 - i) + 1) : Nat) : Int)) = d8 i := rfl
      obtain ⟨dd, hdd⟩ : ∃ dd : Int, dd = (((2 * (8 - i)) * (2 * (8 - i) + 1) : Nat) : Int) := ⟨_, rfl⟩
      rw [← hdd] at v3 hD
      clear hb hm hdd
      go_wp2
      go_roundw
      case rel => exact ⟨i + 1, by omega, by first | rfl | (congr 1; omega), rfl, Lib.hid trivial⟩
      case measure => simp [intOf]; omega
    · obtain rfl : i = 8 := by omega
      have ay := AY.out
      go_wp2
      go_ret
      exact ⟨rfl, rfl⟩

theorem narrow_any {b : Nat} {w : World} (h : floatToFloatBits .f64 b .f32 = some (narP b)) : Calls Try.prog 151 #[.float .f64 b] w fun e w' => e = .returned (.float .f32 (narP b)) ∧ w = w' := by
  have a := fun w' : World => run_convert_float_float (P := Try.prog) w' 34 28 .f64 .f32 b _ und_f64s und_f32k h
  go_enter Try.func151, Try.ntmps151
  go_wp2
  go_ret
  exact ⟨rfl, rfl⟩
theorem isFin64_any {x : Nat} {w : World} (hx : isN .f64 x) : Calls Try.prog 146 #[.float .f64 x] w fun e w' => e = .returned (.bool true) ∧ w = w' := by
  obtain ⟨p1, p2, p3⟩ := self0 hx
  have aS := ar p1 34
  have p4 : (FloatKind.f64.format.order (fo .sub x x) 0 == some .eq) = true := by rw [p3]; rfl
  generalize fo .sub x x = d at *
  go_enter Try.func146, Try.ntmps146
  go_wp2
  go_ret
  exact ⟨rfl, rfl⟩

theorem geQ_b {f : Nat} (h : geQ f = true) : (FloatKind.f64.format.order f 4598175219545276416 == some .gt || FloatKind.f64.format.order f 4598175219545276416 == some .eq) = true ∧ (FloatKind.f64.format.order f 4598175219545276416 = some .gt ∨ FloatKind.f64.format.order f 4598175219545276416 = some .eq) := by
  have h' : (FloatKind.f64.format.order f 4598175219545276416 == some .gt || FloatKind.f64.format.order f 4598175219545276416 == some .eq) = true := h
  refine ⟨h', ?_⟩
  rw [Bool.or_eq_true, beq_iff_eq, beq_iff_eq] at h'
  exact h'
theorem geQ_nb {f : Nat} (h : geQ f = false) : (FloatKind.f64.format.order f 4598175219545276416 == some .gt || FloatKind.f64.format.order f 4598175219545276416 == some .eq) = false ∧ ¬ FloatKind.f64.format.order f 4598175219545276416 = some .gt ∧ ¬ FloatKind.f64.format.order f 4598175219545276416 = some .eq := by
  have h' : (FloatKind.f64.format.order f 4598175219545276416 == some .gt || FloatKind.f64.format.order f 4598175219545276416 == some .eq) = false := h
  refine ⟨h', ?_⟩
  rw [Bool.or_eq_false_iff, beq_eq_false_iff_ne, beq_eq_false_iff_ne] at h'
  exact h'

end Go.Proofs.Ytfclkbppmkjkeaa

namespace Go.Proofs.Ytfclkbppmkjkeaa
open Go.RowKit
attribute [local go_sem ↓] Go.wp_at_zero Go.wp_at_succ

theorem turn_end {q f : Nat} (h : geQ f = false) : turnP (4 - q) f = (f, 0) := by
  cases hn : 4 - q with
  | zero => rfl
  | succ n => unfold turnP; rw [h]; rfl
theorem quarters (q : Nat) (hq : q < 4) : (((4 - q : Nat) : Nat) : Rat) * (1 / 4) = ((3 - q + 1 : Nat) : Rat) * (1 / 4) := by rw [show 4 - q = 3 - q + 1 by omega]
theorem q_lt4 {q f : Nat} (hq : q ≤ 4) (hf : isN .f64 f) (h1 : val .f64 f ≤ ((4 - q : Nat) : Rat) * (1 / 4)) (hg : geQ f = true) : q < 4 := by
  rcases Nat.lt_or_ge q 4 with h | h
  · exact h
  · exfalso
    have e : 4 - q = 0 := by omega
    rw [e, show ((0 : Nat) : Rat) = 0 from rfl, Rat.zero_mul] at h1
    have := (geQ_iff hf).1 hg
    grind
/-- The state of the loop over the quarters. -/
structure TurnSt (x f q : Nat) : Prop where
  q4 : q ≤ 4
  N : isN .f64 f
  lo : 0 ≤ val .f64 f
  hi : val .f64 f ≤ ((4 - q : Nat) : Rat) * (1 / 4)
  F : (turnP (4 - q) f).1 = phaF x
  Q : (turnP (4 - q) f).2 + q = phaQ x
theorem TurnSt.start {x : Nat} (h : FracOk x) : TurnSt x (fracP x) 0 :=
  ⟨by omega, h.N, h.lo, by rw [show ((4 - 0 : Nat) : Rat) * (1 / 4) = 1 by decide +kernel]; exact h.hi, rfl, rfl⟩
theorem TurnSt.next {x f q : Nat} (t : TurnSt x f q) (hg : geQ f = true) : q < 4 ∧ fbin .sub .f64 (some f) (some c14) = some (fo .sub f c14) ∧ TurnSt x (fo .sub f c14) (q + 1) := by
  have hq := q_lt4 t.q4 t.N t.hi hg
  have h1 := t.hi
  rw [quarters q hq] at h1
  obtain ⟨s1, s2, s3, s4⟩ := turn_step t.N (by omega) h1 hg
  have e : 4 - q = (3 - q) + 1 := by omega
  have e2 : 4 - (q + 1) = 3 - q := by omega
  have hF := t.F
  have hQ := t.Q
  rw [e] at hF hQ
  unfold turnP at hF hQ
  rw [if_pos hg] at hF hQ
  refine ⟨hq, s1, by omega, s2, s3, by rw [e2]; exact s4, by rw [e2]; exact hF, by rw [e2]; simp only at hQ; omega⟩
theorem TurnSt.fin {x f q : Nat} (t : TurnSt x f q) (hg : geQ f = false) : f = phaF x ∧ q = phaQ x := by
  have hF := t.F
  have hQ := t.Q
  rw [turn_end hg] at hF hQ
  exact ⟨hF, by simpa using hQ⟩

def natOf : Value → Nat
  | .int _ n => n.toNat
  | _ => 0

set_option maxRecDepth 20000 in
set_option maxHeartbeats 8000000 in
theorem implPhasor_any {x : Nat} {w : World} (hx : isN .f64 x) (hw : x < 18446744073709551616) (h1 : -1024 ≤ val .f64 x) (h2 : val .f64 x ≤ 1024) : Calls Try.prog 106 #[.float .f64 x] w fun e w' => e = .returned (.complex .f32 (narP (phaRe x)) (narP (phaIm x))) ∧ w = w' := by
  have P := pha_ok hx h1 h2
  obtain ⟨⟨_, pRe⟩, ⟨_, pIm⟩⟩ := pha_parts P
  have nc := neg_ok P.cN P.c0 P.c1
  have ns := neg_ok P.sN P.s0 P.s1
  have HFIN := Lib.hid (isFin64_any (w := w) hx)
  have HABS := Lib.hid (abs_any (w := w) hw)
  have HFR := Lib.hid (fraction_any (w := w) P.fr)
  have HC := Lib.hid (implSine_any (w := w) P.cA)
  have HS := Lib.hid (implSine_any (w := w) P.sA)
  have aN := (abs_low hx).1
  have aL : val .f64 (x % 9223372036854775808) < 4503599627370496 := by
    rcases Rat.le_total (a := 0) (b := val .f64 x) with h | h
    · rw [(abs_low hx).2.1 h]; grind
    · rw [(abs_low hx).2.2 h]; grind
  have q1 := (ord_is aN n_52).1 (by rw [v_52]; exact aL)
  have q1b : (FloatKind.f64.format.order (x % 9223372036854775808) c52 == some .gt || FloatKind.f64.format.order (x % 9223372036854775808) c52 == some .eq) = false := by rw [q1]; rfl
  unfold c52 at q1 q1b
  clear aN aL
  generalize x % 9223372036854775808 = ax at q1 q1b HABS
  have HD := Lib.hid (ar P.d 34)
  have HNC := Lib.hid (ar nc.1 34)
  have HNS := Lib.hid (ar ns.1 34)
  have hq4 := P.q
  have hre : phaRe x = quadRe (phaQ x) (phaC x) (phaS x) := rfl
  have him : phaIm x = quadIm (phaQ x) (phaC x) (phaS x) := rfl
  have HST : Hid (TurnSt x (fracP x) 0) := Lib.hid (TurnSt.start P.fr)
  have Nre : isN .f64 (phaRe x) := by
    rw [hre]; unfold quadRe; split
    · exact ns.2.1
    · split
      · exact nc.2.1
      · split
        · exact P.sN
        · exact P.cN
  have Nim : isN .f64 (phaIm x) := by
    rw [him]; unfold quadIm; split
    · exact P.cN
    · split
      · exact ns.2.1
      · split
        · exact nc.2.1
        · exact P.sN
  have HRE := Lib.hid (fun w' : World => run_convert_float_float (P := Try.prog) w' 34 28 .f64 .f32 (phaRe x) _ und_f64s und_f32k (narP_conv Nre pRe))
  have HIM := Lib.hid (fun w' : World => run_convert_float_float (P := Try.prog) w' 34 28 .f64 .f32 (phaIm x) _ und_f64s und_f32k (narP_conv Nim pIm))
  rw [hre] at HRE ⊢
  rw [him] at HIM ⊢
  clear nc ns pRe pIm Nre Nim hre him h1 h2 hx hw P
  have eC : sineP (fracP (fo .sub c14 (phaF x))) = phaC x := rfl
  have eS : sineP (fracP (phaF x)) = phaS x := rfl
  rw [eC] at HC
  rw [eS] at HS
  clear eC eS
  have HX : Hid (∀ {f q}, TurnSt x f q → geQ f = false → f = phaF x ∧ q = phaQ x) := Lib.hid (fun t h => t.fin h)
  have HQR : Hid ((quadRe 0 (phaC x) (phaS x) = phaC x ∧ quadRe 1 (phaC x) (phaS x) = fo .sub 0 (phaS x) ∧ quadRe 2 (phaC x) (phaS x) = fo .sub 0 (phaC x) ∧ quadRe 3 (phaC x) (phaS x) = phaS x ∧ quadRe 4 (phaC x) (phaS x) = phaC x) ∧ (quadIm 0 (phaC x) (phaS x) = phaS x ∧ quadIm 1 (phaC x) (phaS x) = phaC x ∧ quadIm 2 (phaC x) (phaS x) = fo .sub 0 (phaS x) ∧ quadIm 3 (phaC x) (phaS x) = fo .sub 0 (phaC x) ∧ quadIm 4 (phaC x) (phaS x) = phaS x)) := Lib.hid ⟨⟨rfl, rfl, rfl, rfl, rfl⟩, ⟨rfl, rfl, rfl, rfl, rfl⟩⟩
  generalize phaC x = C at *
  generalize phaS x = S at *
  generalize phaQ x = Q at *
  generalize phaF x = F at *
  generalize fo .sub c14 F = D at *
  generalize fo .sub 0 C = MC at *
  generalize fo .sub 0 S = MS at *
  generalize hRR : narP (quadRe Q C S) = RR at *
  generalize hII : narP (quadIm Q C S) = II at *
  clear hRR hII
  go_enter Try.func106, Try.ntmps106
  go_wp2_with fail
  refine HFIN.out.mono ?_
  rintro e w' ⟨rfl, rfl⟩
  go_wp2_with fail
  refine HABS.out.mono ?_
  rintro e w' ⟨rfl, rfl⟩
  go_wp2_with fail
  refine HFR.out.mono ?_
  rintro e w' ⟨rfl, rfl⟩
  clear HFIN HABS HFR q1 q1b
  go_wp2
  go_loopw [4, 5] (fun fi qi wr => ∃ f q : Nat, fi = .float .f64 f ∧ qi = .int .i64 (q : Int) ∧ Hid (TurnSt x f q) ∧ Hid (wr = w)) (fun _ qi _ => 4 - natOf qi)
  case atStart => exact ⟨_, 0, rfl, rfl, HST, Lib.hid rfl⟩
  case round =>
    obtain ⟨f, q, rfl, rfl, HT, HW⟩ := hrel
    obtain rfl := HW.out
    clear HW HST
    cases hg : geQ f with
    | true =>
      obtain ⟨g1, g2⟩ := geQ_b hg
      obtain ⟨n1, n2, n3⟩ := HT.out.next hg
      have n2 := ar n2 34
      unfold c14 at n2
      have HN := Lib.hid n3
      have ewq : IntKind.i64.wrap ((q : Int) + 1) = (q : Int) + 1 := IntWalk.i64_in _ (by omega)
      clear n3 hg
      go_wp2
      go_roundw
      case rel => exact ⟨_, q + 1, rfl, by go_num, HN, Lib.hid trivial⟩
      case measure => simp [natOf]; omega
    | false =>
      obtain ⟨g1, g2, g3⟩ := geQ_nb hg
      obtain ⟨rfl, rfl⟩ := HX.out HT.out hg
      have hd := HD.out
      unfold c14 at hd
      clear hg HT HX HD
      go_wp2_with fail
      refine HC.out.mono ?_
      rintro e w' ⟨rfl, rfl⟩
      go_wp2_with fail
      refine HS.out.mono ?_
      rintro e w' ⟨rfl, rfl⟩
      clear HC HS g1 g2 g3 hd
      obtain ⟨⟨r0, r1, r2, r3, r4⟩, ⟨i0, i1, i2, i3, i4⟩⟩ := HQR.out
      have nc := HNC.out
      have ns := HNS.out
      have hre := HRE.out
      have him := HIM.out
      clear HQR HNC HNS HRE HIM
      have hq5 : q = 0 ∨ q = 1 ∨ q = 2 ∨ q = 3 ∨ q = 4 := by omega
      rcases hq5 with rfl | rfl | rfl | rfl | rfl
      · rw [r0] at hre
        rw [i0] at him
        go_wp2
        go_ret
        exact ⟨rfl, rfl⟩
      · rw [r1] at hre
        rw [i1] at him
        go_wp2
        go_ret
        exact ⟨rfl, rfl⟩
      · rw [r2] at hre
        rw [i2] at him
        go_wp2
        go_ret
        exact ⟨rfl, rfl⟩
      · rw [r3] at hre
        rw [i3] at him
        go_wp2
        go_ret
        exact ⟨rfl, rfl⟩
      · rw [r4] at hre
        rw [i4] at him
        go_wp2
        go_ret
        exact ⟨rfl, rfl⟩

set_option maxRecDepth 20000 in
set_option maxHeartbeats 8000000 in
theorem specPhasor_any {x : Nat} {w : World} (hx : isN .f64 x) (h1 : -1024 ≤ val .f64 x) (h2 : val .f64 x ≤ 1024) : Calls Try.prog 159 #[.float .f64 x] w fun e w' => e = .returned (.complex .f32 (narP (phaRe x)) (narP (phaIm x))) ∧ w = w' := by
  have P := pha_ok hx h1 h2
  obtain ⟨⟨_, pRe⟩, ⟨_, pIm⟩⟩ := pha_parts P
  have nc := neg_ok P.cN P.c0 P.c1
  have ns := neg_ok P.sN P.s0 P.s1
  obtain ⟨p1, p2, p3⟩ := self0 hx
  have aS := ar p1 34
  have p4 : (FloatKind.f64.format.order (fo .sub x x) 0 == some .eq) = true := by rw [p3]; rfl
  have q1 := (ord_is hx n_52).1 (by rw [v_52]; grind)
  have q1b : (FloatKind.f64.format.order x c52 == some .gt || FloatKind.f64.format.order x c52 == some .eq) = false := by rw [q1]; rfl
  have q2 := (ord_is hx n_m52).2.2 (by rw [v_m52]; grind)
  have q2b : (FloatKind.f64.format.order x cm52 == some .lt || FloatKind.f64.format.order x cm52 == some .eq) = false := by rw [q2]; rfl
  unfold c52 at q1 q1b
  unfold cm52 at q2 q2b
  have t0 := fun w' : World => run_convert_float_int (P := Try.prog) w' 34 2 .f64 .i64 x _ und_f64s und_i64 P.fr.tr
  have aD := ar P.fr.sub 34
  have HAD := Lib.hid (fun h => ar (P.fr.add h) 34)
  have hfp : fracP x = (if FloatKind.f64.format.order (fracD x) 0 = some .lt then fo .add (fracD x) c1 else fracD x) := rfl
  clear p1 p2
  generalize fo .sub x x = d0 at *
  have HC := Lib.hid (specSine_any (w := w) P.cA)
  have HS := Lib.hid (specSine_any (w := w) P.sA)
  have HD := Lib.hid (ar P.d 34)
  have HNC := Lib.hid (ar nc.1 34)
  have HNS := Lib.hid (ar ns.1 34)
  have hq4 := P.q
  have hre : phaRe x = quadRe (phaQ x) (phaC x) (phaS x) := rfl
  have him : phaIm x = quadIm (phaQ x) (phaC x) (phaS x) := rfl
  have HST : Hid (TurnSt x (fracP x) 0) := Lib.hid (TurnSt.start P.fr)
  have Nre : isN .f64 (phaRe x) := by
    rw [hre]; unfold quadRe; split
    · exact ns.2.1
    · split
      · exact nc.2.1
      · split
        · exact P.sN
        · exact P.cN
  have Nim : isN .f64 (phaIm x) := by
    rw [him]; unfold quadIm; split
    · exact P.cN
    · split
      · exact ns.2.1
      · split
        · exact nc.2.1
        · exact P.sN
  have HRE := Lib.hid (fun w' : World => narrow_any (w := w') (narP_conv Nre pRe))
  have HIM := Lib.hid (fun w' : World => narrow_any (w := w') (narP_conv Nim pIm))
  rw [hre] at HRE ⊢
  rw [him] at HIM ⊢
  clear nc ns pRe pIm Nre Nim hre him h1 h2 hx P
  have eC : sineP (fracP (fo .sub c14 (phaF x))) = phaC x := rfl
  have eS : sineP (fracP (phaF x)) = phaS x := rfl
  rw [eC] at HC
  rw [eS] at HS
  clear eC eS
  have HX : Hid (∀ {f q}, TurnSt x f q → geQ f = false → f = phaF x ∧ q = phaQ x) := Lib.hid (fun t h => t.fin h)
  have HQR : Hid ((quadRe 0 (phaC x) (phaS x) = phaC x ∧ quadRe 1 (phaC x) (phaS x) = fo .sub 0 (phaS x) ∧ quadRe 2 (phaC x) (phaS x) = fo .sub 0 (phaC x) ∧ quadRe 3 (phaC x) (phaS x) = phaS x ∧ quadRe 4 (phaC x) (phaS x) = phaC x) ∧ (quadIm 0 (phaC x) (phaS x) = phaS x ∧ quadIm 1 (phaC x) (phaS x) = phaC x ∧ quadIm 2 (phaC x) (phaS x) = fo .sub 0 (phaS x) ∧ quadIm 3 (phaC x) (phaS x) = fo .sub 0 (phaC x) ∧ quadIm 4 (phaC x) (phaS x) = phaS x)) := Lib.hid ⟨⟨rfl, rfl, rfl, rfl, rfl⟩, ⟨rfl, rfl, rfl, rfl, rfl⟩⟩
  generalize phaC x = C at *
  generalize phaS x = S at *
  generalize phaQ x = Q at *
  generalize phaF x = F at *
  generalize fo .sub c14 F = D at *
  generalize fo .sub 0 C = MC at *
  generalize fo .sub 0 S = MS at *
  generalize hRR : narP (quadRe Q C S) = RR at *
  generalize hII : narP (quadIm Q C S) = II at *
  clear hRR hII
  by_cases hlt : FloatKind.f64.format.order (fracD x) 0 = some .lt
  · have hltb := lt_b hlt
    have aA := HAD.out hlt
    rw [if_pos hlt] at hfp
    rw [hfp] at HST
    clear HAD hfp
    generalize fo .add (fracD x) c1 = f0 at *
    generalize fracD x = fd at *
    unfold c1 at aA
    go_enter Try.func159, Try.ntmps159
    go_wp2
    go_loopw [3, 4] (fun fi qi wr => ∃ f q : Nat, fi = .float .f64 f ∧ qi = .int .i64 (q : Int) ∧ Hid (TurnSt x f q) ∧ Hid (wr = w)) (fun _ qi _ => 4 - natOf qi)
    case atStart => exact ⟨_, 0, rfl, rfl, HST, Lib.hid rfl⟩
    case round =>
      obtain ⟨f, q, rfl, rfl, HT, HW⟩ := hrel
      obtain rfl := HW.out
      clear HW HST
      cases hg : geQ f with
      | true =>
        obtain ⟨g1, g2⟩ := geQ_b hg
        obtain ⟨n1, n2, n3⟩ := HT.out.next hg
        have n2 := ar n2 34
        unfold c14 at n2
        have HN := Lib.hid n3
        have ewq : IntKind.i64.wrap ((q : Int) + 1) = (q : Int) + 1 := IntWalk.i64_in _ (by omega)
        clear n3 hg
        go_wp2
        go_roundw
        case rel => exact ⟨_, q + 1, rfl, by go_num, HN, Lib.hid trivial⟩
        case measure => simp [natOf]; omega
      | false =>
        obtain ⟨g1, g2, g3⟩ := geQ_nb hg
        obtain ⟨rfl, rfl⟩ := HX.out HT.out hg
        have hd := HD.out
        unfold c14 at hd
        clear hg HT HX HD
        go_wp2_with fail
        refine HC.out.mono ?_
        rintro e w' ⟨rfl, rfl⟩
        go_wp2_with fail
        refine HS.out.mono ?_
        rintro e w' ⟨rfl, rfl⟩
        clear HC HS g1 g2 g3 hd
        obtain ⟨⟨r0, r1, r2, r3, r4⟩, ⟨i0, i1, i2, i3, i4⟩⟩ := HQR.out
        have nc := HNC.out
        have ns := HNS.out
        clear HQR HNC HNS
        have hq5 : q = 0 ∨ q = 1 ∨ q = 2 ∨ q = 3 ∨ q = 4 := by omega
        rcases hq5 with rfl | rfl | rfl | rfl | rfl
        · rw [r0] at HRE
          rw [i0] at HIM
          go_wp2_with fail
          refine (HRE.out _).mono ?_
          rintro e w' ⟨rfl, rfl⟩
          go_wp2_with fail
          refine (HIM.out _).mono ?_
          rintro e w' ⟨rfl, rfl⟩
          go_wp2
          go_ret
          exact ⟨rfl, rfl⟩
        · rw [r1] at HRE
          rw [i1] at HIM
          go_wp2_with fail
          refine (HRE.out _).mono ?_
          rintro e w' ⟨rfl, rfl⟩
          go_wp2_with fail
          refine (HIM.out _).mono ?_
          rintro e w' ⟨rfl, rfl⟩
          go_wp2
          go_ret
          exact ⟨rfl, rfl⟩
        · rw [r2] at HRE
          rw [i2] at HIM
          go_wp2_with fail
          refine (HRE.out _).mono ?_
          rintro e w' ⟨rfl, rfl⟩
          go_wp2_with fail
          refine (HIM.out _).mono ?_
          rintro e w' ⟨rfl, rfl⟩
          go_wp2
          go_ret
          exact ⟨rfl, rfl⟩
        · rw [r3] at HRE
          rw [i3] at HIM
          go_wp2_with fail
          refine (HRE.out _).mono ?_
          rintro e w' ⟨rfl, rfl⟩
          go_wp2_with fail
          refine (HIM.out _).mono ?_
          rintro e w' ⟨rfl, rfl⟩
          go_wp2
          go_ret
          exact ⟨rfl, rfl⟩
        · rw [r4] at HRE
          rw [i4] at HIM
          go_wp2_with fail
          refine (HRE.out _).mono ?_
          rintro e w' ⟨rfl, rfl⟩
          go_wp2_with fail
          refine (HIM.out _).mono ?_
          rintro e w' ⟨rfl, rfl⟩
          go_wp2
          go_ret
          exact ⟨rfl, rfl⟩

  · have hltb := nlt_b hlt
    rw [if_neg hlt] at hfp
    rw [hfp] at HST
    clear HAD hfp
    generalize fracD x = fd at *
    go_enter Try.func159, Try.ntmps159
    go_wp2
    go_loopw [3, 4] (fun fi qi wr => ∃ f q : Nat, fi = .float .f64 f ∧ qi = .int .i64 (q : Int) ∧ Hid (TurnSt x f q) ∧ Hid (wr = w)) (fun _ qi _ => 4 - natOf qi)
    case atStart => exact ⟨_, 0, rfl, rfl, HST, Lib.hid rfl⟩
    case round =>
      obtain ⟨f, q, rfl, rfl, HT, HW⟩ := hrel
      obtain rfl := HW.out
      clear HW HST
      cases hg : geQ f with
      | true =>
        obtain ⟨g1, g2⟩ := geQ_b hg
        obtain ⟨n1, n2, n3⟩ := HT.out.next hg
        have n2 := ar n2 34
        unfold c14 at n2
        have HN := Lib.hid n3
        have ewq : IntKind.i64.wrap ((q : Int) + 1) = (q : Int) + 1 := IntWalk.i64_in _ (by omega)
        clear n3 hg
        go_wp2
        go_roundw
        case rel => exact ⟨_, q + 1, rfl, by go_num, HN, Lib.hid trivial⟩
        case measure => simp [natOf]; omega
      | false =>
        obtain ⟨g1, g2, g3⟩ := geQ_nb hg
        obtain ⟨rfl, rfl⟩ := HX.out HT.out hg
        have hd := HD.out
        unfold c14 at hd
        clear hg HT HX HD
        go_wp2_with fail
        refine HC.out.mono ?_
        rintro e w' ⟨rfl, rfl⟩
        go_wp2_with fail
        refine HS.out.mono ?_
        rintro e w' ⟨rfl, rfl⟩
        clear HC HS g1 g2 g3 hd
        obtain ⟨⟨r0, r1, r2, r3, r4⟩, ⟨i0, i1, i2, i3, i4⟩⟩ := HQR.out
        have nc := HNC.out
        have ns := HNS.out
        clear HQR HNC HNS
        have hq5 : q = 0 ∨ q = 1 ∨ q = 2 ∨ q = 3 ∨ q = 4 := by omega
        rcases hq5 with rfl | rfl | rfl | rfl | rfl
        · rw [r0] at HRE
          rw [i0] at HIM
          go_wp2_with fail
          refine (HRE.out _).mono ?_
          rintro e w' ⟨rfl, rfl⟩
          go_wp2_with fail
          refine (HIM.out _).mono ?_
          rintro e w' ⟨rfl, rfl⟩
          go_wp2
          go_ret
          exact ⟨rfl, rfl⟩
        · rw [r1] at HRE
          rw [i1] at HIM
          go_wp2_with fail
          refine (HRE.out _).mono ?_
          rintro e w' ⟨rfl, rfl⟩
          go_wp2_with fail
          refine (HIM.out _).mono ?_
          rintro e w' ⟨rfl, rfl⟩
          go_wp2
          go_ret
          exact ⟨rfl, rfl⟩
        · rw [r2] at HRE
          rw [i2] at HIM
          go_wp2_with fail
          refine (HRE.out _).mono ?_
          rintro e w' ⟨rfl, rfl⟩
          go_wp2_with fail
          refine (HIM.out _).mono ?_
          rintro e w' ⟨rfl, rfl⟩
          go_wp2
          go_ret
          exact ⟨rfl, rfl⟩
        · rw [r3] at HRE
          rw [i3] at HIM
          go_wp2_with fail
          refine (HRE.out _).mono ?_
          rintro e w' ⟨rfl, rfl⟩
          go_wp2_with fail
          refine (HIM.out _).mono ?_
          rintro e w' ⟨rfl, rfl⟩
          go_wp2
          go_ret
          exact ⟨rfl, rfl⟩
        · rw [r4] at HRE
          rw [i4] at HIM
          go_wp2_with fail
          refine (HRE.out _).mono ?_
          rintro e w' ⟨rfl, rfl⟩
          go_wp2_with fail
          refine (HIM.out _).mono ?_
          rintro e w' ⟨rfl, rfl⟩
          go_wp2
          go_ret
          exact ⟨rfl, rfl⟩


end Go.Proofs.Ytfclkbppmkjkeaa

namespace Go.Proofs.Ytfclkbppmkjkeaa
open Go.RowKit
attribute [local go_sem ↓] Go.wp_at_zero Go.wp_at_succ

/-- A float32 as a float64. -/
def wid (x : Nat) : Nat := FloatKind.f64.encode (FloatKind.f32.decode x)
theorem wid_val {x : Nat} (h : isN .f32 x) : isN .f64 (wid x) ∧ val .f64 (wid x) = val .f32 x ∧ floatToFloatBits .f32 x .f64 = some (wid x) := by
  obtain ⟨r, h1, h2, h3⟩ := widen_val h
  have e : r = wid x := by have : widen (some x) = some (wid x) := rfl; rw [this] at h1; exact (Option.some.inj h1).symm
  subst e
  refine ⟨h2, h3, ?_⟩
  obtain ⟨s, m, e, hd⟩ := h
  have hf := widen_fits x hd
  unfold floatToFloatBits wid
  rw [if_neg (by decide), hd]
  simp only
  rw [hf]; rfl

def mRe (a b c d : Nat) : Nat := fo .sub (fo .mul a c) (fo .mul b d)
def mIm (a b c d : Nat) : Nat := fo .add (fo .mul a d) (fo .mul b c)
structure MulOk (a b c d : Nat) : Prop where
  ac : fbin .mul .f64 (some a) (some c) = some (fo .mul a c)
  bd : fbin .mul .f64 (some b) (some d) = some (fo .mul b d)
  re : fbin .sub .f64 (some (fo .mul a c)) (some (fo .mul b d)) = some (mRe a b c d)
  ad : fbin .mul .f64 (some a) (some d) = some (fo .mul a d)
  bc : fbin .mul .f64 (some b) (some c) = some (fo .mul b c)
  im : fbin .add .f64 (some (fo .mul a d)) (some (fo .mul b c)) = some (mIm a b c d)
  cr : floatToFloatBits .f64 (mRe a b c d) .f32 = some (narP (mRe a b c d))
  ci : floatToFloatBits .f64 (mIm a b c d) .f32 = some (narP (mIm a b c d))

set_option maxHeartbeats 1000000 in
theorem parts_any {x1 x2 : Nat} {w : World} (h1 : isN .f32 x1) (h2 : isN .f32 x2) : Calls Try.prog 144 #[.complex .f32 x1 x2] w fun e w' => e = .returned (.tuple #[.float .f64 (wid x1), .float .f64 (wid x2)]) ∧ w = w' := by
  have a1 := fun w' : World => run_convert_float_float (P := Try.prog) w' 28 34 .f32 .f64 x1 _ und_f32 und_f64 (wid_val h1).2.2
  have a2 := fun w' : World => run_convert_float_float (P := Try.prog) w' 28 34 .f32 .f64 x2 _ und_f32 und_f64 (wid_val h2).2.2
  go_enter Try.func144, Try.ntmps144
  go_wp2
  go_ret2
  exact ⟨rfl, rfl⟩
set_option maxHeartbeats 1000000 in
theorem times_any {a b c d : Nat} {w : World} (h : MulOk a b c d) : Calls Try.prog 145 #[.float .f64 a, .float .f64 b, .float .f64 c, .float .f64 d] w fun e w' => e = .returned (.tuple #[.float .f64 (mRe a b c d), .float .f64 (mIm a b c d)]) ∧ w = w' := by
  have a1 := ar h.ac 34
  have a2 := ar h.bd 34
  have a3 := ar h.re 34
  have a4 := ar h.ad 34
  have a5 := ar h.bc 34
  have a6 := ar h.im 34
  clear h
  generalize mRe a b c d = R at *
  generalize mIm a b c d = I at *
  generalize fo .mul a c = t1 at *
  generalize fo .mul b d = t2 at *
  generalize fo .mul a d = t3 at *
  generalize fo .mul b c = t4 at *
  go_enter Try.func145, Try.ntmps145
  go_wp2
  go_ret2
  exact ⟨rfl, rfl⟩
set_option maxHeartbeats 1000000 in
theorem implMul_any {x1 x2 y1 y2 : Nat} {w : World} (h1 : isN .f32 x1) (h2 : isN .f32 x2) (h3 : isN .f32 y1) (h4 : isN .f32 y2) (h : MulOk (wid x1) (wid x2) (wid y1) (wid y2)) :
    Calls Try.prog 105 #[.complex .f32 x1 x2, .complex .f32 y1 y2] w fun e w' => e = .returned (.complex .f32 (narP (mRe (wid x1) (wid x2) (wid y1) (wid y2))) (narP (mIm (wid x1) (wid x2) (wid y1) (wid y2)))) ∧ w = w' := by
  have HX := Lib.hid (parts_any (w := w) h1 h2)
  have HY := Lib.hid (parts_any (w := w) h3 h4)
  have HT := Lib.hid (times_any (w := w) h)
  have a1 := fun w' : World => run_convert_float_float (P := Try.prog) w' 34 28 .f64 .f32 _ _ und_f64s und_f32k h.cr
  have a2 := fun w' : World => run_convert_float_float (P := Try.prog) w' 34 28 .f64 .f32 _ _ und_f64s und_f32k h.ci
  clear h h1 h2 h3 h4
  generalize wid x1 = a at *
  generalize wid x2 = b at *
  generalize wid y1 = c at *
  generalize wid y2 = d at *
  generalize mRe a b c d = R at *
  generalize mIm a b c d = I at *
  generalize narP R = R' at *
  generalize narP I = I' at *
  go_enter Try.func105, Try.ntmps105
  go_wp2_with fail
  refine HX.out.mono ?_
  rintro e w' ⟨rfl, rfl⟩
  go_wp2_with fail
  refine HY.out.mono ?_
  rintro e w' ⟨rfl, rfl⟩
  go_wp2_with fail
  refine HT.out.mono ?_
  rintro e w' ⟨rfl, rfl⟩
  go_wp2
  go_ret
  exact ⟨rfl, rfl⟩

set_option maxHeartbeats 1000000 in
theorem wide_any {x1 x2 : Nat} {w : World} (h1 : isN .f32 x1) (h2 : isN .f32 x2) : Calls Try.prog 187 #[.complex .f32 x1 x2] w fun e w' => e = .returned (.complex .f64 (wid x1) (wid x2)) ∧ w = w' := by
  have a1 := fun w' : World => run_convert_float_float (P := Try.prog) w' 28 34 .f32 .f64 x1 _ und_f32 und_f64 (wid_val h1).2.2
  have a2 := fun w' : World => run_convert_float_float (P := Try.prog) w' 28 34 .f32 .f64 x2 _ und_f32 und_f64 (wid_val h2).2.2
  go_enter Try.func187, Try.ntmps187
  go_wp2
  go_ret
  exact ⟨rfl, rfl⟩
set_option maxHeartbeats 1000000 in
theorem wideMul_any {a b c d : Nat} {w : World} (h : MulOk a b c d) : Calls Try.prog 186 #[.complex .f64 a b, .complex .f64 c d] w fun e w' => e = .returned (.complex .f64 (mRe a b c d) (mIm a b c d)) ∧ w = w' := by
  have a1 := ar h.ac 34
  have a2 := ar h.bd 34
  have a3 := ar h.re 34
  have a4 := ar h.ad 34
  have a5 := ar h.bc 34
  have a6 := ar h.im 34
  clear h
  generalize mRe a b c d = R at *
  generalize mIm a b c d = I at *
  generalize fo .mul a c = t1 at *
  generalize fo .mul b d = t2 at *
  generalize fo .mul a d = t3 at *
  generalize fo .mul b c = t4 at *
  go_enter Try.func186, Try.ntmps186
  go_wp2
  go_ret
  exact ⟨rfl, rfl⟩
set_option maxHeartbeats 1000000 in
theorem cNarrow_any {a b : Nat} {w : World} (h1 : floatToFloatBits .f64 a .f32 = some (narP a)) (h2 : floatToFloatBits .f64 b .f32 = some (narP b)) : Calls Try.prog 185 #[.complex .f64 a b] w fun e w' => e = .returned (.complex .f32 (narP a) (narP b)) ∧ w = w' := by
  have H1 := Lib.hid (narrow_any (w := w) h1)
  have H2 := Lib.hid (narrow_any (w := w) h2)
  clear h1 h2
  generalize narP a = R' at *
  generalize narP b = I' at *
  go_enter Try.func185, Try.ntmps185
  go_wp2_with fail
  refine H1.out.mono ?_
  rintro e w' ⟨rfl, rfl⟩
  go_wp2_with fail
  refine H2.out.mono ?_
  rintro e w' ⟨rfl, rfl⟩
  go_wp2
  go_ret
  exact ⟨rfl, rfl⟩
set_option maxHeartbeats 1000000 in
theorem specMul_any {x1 x2 y1 y2 : Nat} {w : World} (h1 : isN .f32 x1) (h2 : isN .f32 x2) (h3 : isN .f32 y1) (h4 : isN .f32 y2) (h : MulOk (wid x1) (wid x2) (wid y1) (wid y2)) :
    Calls Try.prog 158 #[.complex .f32 x1 x2, .complex .f32 y1 y2] w fun e w' => e = .returned (.complex .f32 (narP (mRe (wid x1) (wid x2) (wid y1) (wid y2))) (narP (mIm (wid x1) (wid x2) (wid y1) (wid y2)))) ∧ w = w' := by
  have HX := Lib.hid (wide_any (w := w) h1 h2)
  have HY := Lib.hid (wide_any (w := w) h3 h4)
  have HT := Lib.hid (wideMul_any (w := w) h)
  have HN := Lib.hid (cNarrow_any (w := w) h.cr h.ci)
  clear h h1 h2 h3 h4
  generalize wid x1 = a at *
  generalize wid x2 = b at *
  generalize wid y1 = c at *
  generalize wid y2 = d at *
  generalize mRe a b c d = R at *
  generalize mIm a b c d = I at *
  generalize narP R = R' at *
  generalize narP I = I' at *
  go_enter Try.func158, Try.ntmps158
  go_wp2_with fail
  refine HX.out.mono ?_
  rintro e w' ⟨rfl, rfl⟩
  go_wp2_with fail
  refine HY.out.mono ?_
  rintro e w' ⟨rfl, rfl⟩
  go_wp2_with fail
  refine HT.out.mono ?_
  rintro e w' ⟨rfl, rfl⟩
  go_wp2_with fail
  refine HN.out.mono ?_
  rintro e w' ⟨rfl, rfl⟩
  go_wp2
  go_ret
  exact ⟨rfl, rfl⟩

/-- What is at most the greatest float32 is narrowed to a number. -/
theorem enc32_max {s : Bool} {m : Nat} {e : Int} (h : (m : Rat) * tp e ≤ 16777215 * tp 104) : ∃ m' e', FloatKind.f32.decode (FloatKind.f32.encode (.number s m e)) = .number s m' e' := by
  by_cases hmag : mag (.number s m e) 126
  · obtain ⟨m', e', hd, _⟩ := enc32_RN (s := s) hmag
    exact ⟨m', e', hd⟩
  have h0 : m ≠ 0 := fun h0 => hmag (.inl h0)
  have hlt : (m : Rat) * tp e < tp (127 + 1) := by
    have : (16777215 : Rat) * tp 104 < tp (127 + 1) := by decide +kernel
    grind
  have hb : (m.log2 : Int) + e ≤ 127 := by rcases mag_of_val (s := s) (B := 127) hlt with h | h; exact absurd h h0; exact h
  have hb2 : ¬ (m.log2 : Int) + e ≤ 126 := fun h => hmag (.inr h)
  show ∃ m' e', Ieee.single.read (Ieee.single.nearest s m e) = .number s m' e'
  unfold Ieee.Format.nearest
  rw [if_neg h0]
  have e4 : Ieee.single.leastPlace = -149 := by decide
  have e5 : Ieee.single.fractionBits = 23 := rfl
  have e2 : Ieee.single.binade = 8388608 := by decide
  have e3 : Ieee.single.infRung = 2139095040 := by decide
  simp only [e4, e5, e2, e3]
  have hlast : max (e + (m.log2 : Int) - ((23 : Nat) : Int)) (-149) = 104 := by omega
  rw [hlast]
  have hk : Ieee.Toward.even.cut s (m <<< (e - 104).toNat) (104 - e).toNat ≤ 16777215 := by
    refine cut_up ?_
    rw [Nat.shiftLeft_eq]
    have h' : (m : Rat) * tp e ≤ ((16777215 : Nat) : Rat) * tp 104 := h
    rcases Int.le_total e 104 with hc | hc
    · have z1 : (e - 104).toNat = 0 := by omega
      rw [z1]
      rw [tp_shift hc] at h'
      have h2 : ((m : Rat)) * tp e ≤ ((16777215 * 2 ^ (104 - e).toNat : Nat) : Rat) * tp e := by rw [Rat.natCast_mul]; grind
      have := Rat.natCast_le_natCast.1 (Rat.le_of_mul_le_mul_right h2 (tp_pos e))
      simpa using this
    · have z1 : (104 - e).toNat = 0 := by omega
      rw [z1]
      rw [tp_shift hc] at h'
      have h2 : ((m * 2 ^ (e - 104).toNat : Nat) : Rat) * tp 104 ≤ ((16777215 : Nat) : Rat) * tp 104 := by rw [Rat.natCast_mul]; grind
      have := Rat.natCast_le_natCast.1 (Rat.le_of_mul_le_mul_right h2 (tp_pos 104))
      simpa using this
  have hk2 : 8388608 ≤ Ieee.Toward.even.cut s (m <<< (e - 104).toNat) (104 - e).toNat := by
    have hr := rung_le Ieee.single s m e h0
    obtain ⟨_, hge⟩ := kept_RN (k := .f32) (neg := s) (e := e) h0 rfl rfl hr
    have e6 : lP .f32 = -149 := by decide
    have e7 : fB .f32 = 23 := rfl
    rw [e6, e7] at hge
    rw [hlast] at hge
    rcases hge with h | h
    · omega
    · simpa using h
  generalize Ieee.Toward.even.cut s (m <<< (e - 104).toNat) (104 - e).toNat = kept at hk hk2 ⊢
  have z2 : ((104 : Int) - -149).toNat = 253 := by decide
  rw [z2, Nat.min_eq_left (by omega)]
  obtain ⟨m', e', h1, _⟩ := read32_val s 253 kept (by omega) (.inr hk2) (by omega)
  exact ⟨m', e', h1⟩
theorem narP_max {b : Nat} (hb : isN .f64 b) (h1 : -(16777215 * tp 104) ≤ val .f64 b) (h2 : val .f64 b ≤ 16777215 * tp 104) : isN .f32 (narP b) ∧ floatToFloatBits .f64 b .f32 = some (narP b) := by
  have hb' := hb
  obtain ⟨s, m, e, hd⟩ := hb
  have hv : val .f64 b = sg s * ((m : Rat) * tp e) := by unfold val; rw [hd]; rfl
  rw [hv] at h1 h2
  have h3 : (m : Rat) * tp e ≤ 16777215 * tp 104 := by
    rcases sg_cases s ((m : Rat) * tp e) with ⟨_, e'⟩ | ⟨_, e'⟩ <;> rw [e'] at h1 h2 <;> grind
  obtain ⟨m', e', g1⟩ := enc32_max (s := s) h3
  have hn : FloatKind.f32.decode (narP b) = .number s m' e' := by unfold narP; rw [hd]; exact g1
  exact ⟨⟨_, _, _, hn⟩, narP_conv hb' (by rw [hn]; rfl)⟩

theorem val32_max {x : Nat} (h : isN .f32 x) : -(16777215 * tp 104) ≤ val .f32 x ∧ val .f32 x ≤ 16777215 * tp 104 := by
  obtain ⟨s, m, e, hd⟩ := h
  obtain ⟨hm, he1, he2⟩ := read32_bd x hd
  have hv : val .f32 x = sg s * ((m : Rat) * tp e) := by unfold val; rw [hd]; rfl
  rw [hv]
  have h1 : (m : Rat) ≤ ((16777215 : Nat) : Rat) := Rat.natCast_le_natCast.2 (by omega)
  have h2 := Rat.mul_le_mul_of_nonneg_right h1 (Rat.le_of_lt (tp_pos e))
  have h3 := Rat.mul_le_mul_of_nonneg_left (tp_mono he2) (Rat.natCast_nonneg (a := 16777215))
  have h4 : ((16777215 : Nat) : Rat) = 16777215 := rfl
  rw [h4] at h2 h3
  have h5 := nn m e
  rcases sg_cases s ((m : Rat) * tp e) with ⟨_, e'⟩ | ⟨_, e'⟩ <;> rw [e'] <;> constructor <;> grind

theorem fo_of {op : BinOp} {a b r : Nat} (h : fbin op .f64 (some a) (some b) = some r) : fo op a b = r := by unfold fo; rw [h]; rfl
theorem maxF_in {x : Rat} (h1 : -(16777215 * tp 104) ≤ x) (h2 : x ≤ 16777215 * tp 104) : inT .f64 x := by
  have h3 : (16777215 : Rat) * tp 104 < tp (tB .f64) := by
    have e1 : (16777215 : Rat) * tp 104 < tp 128 := by decide +kernel
    have e2 : tp 128 < tp (tB .f64) := tp_lt (by decide)
    grind
  constructor <;> grind
theorem rep_max : Rep .f64 (16777215 * tp 104) := ⟨16777215, 104, by decide, by decide, rfl⟩
theorem abs_mul {a c M : Rat} (h1 : -M ≤ a) (h2 : a ≤ M) (h3 : -1 ≤ c) (h4 : c ≤ 1) : -M ≤ a * c ∧ a * c ≤ M := by
  have k1 := Rat.mul_nonneg (show 0 ≤ M - a by grind) (show 0 ≤ 1 - c by grind)
  have k2 := Rat.mul_nonneg (show 0 ≤ M - a by grind) (show 0 ≤ 1 + c by grind)
  have k3 := Rat.mul_nonneg (show 0 ≤ M + a by grind) (show 0 ≤ 1 - c by grind)
  have k4 := Rat.mul_nonneg (show 0 ≤ M + a by grind) (show 0 ≤ 1 + c by grind)
  constructor <;> grind

/-- A number times a point of the unit square. -/
theorem mul_ok {a b c d : Nat} (ha : isN .f64 a) (hb : isN .f64 b) (hc : isN .f64 c) (hd : isN .f64 d) (a1 : -(16777215 * tp 104) ≤ val .f64 a) (a2 : val .f64 a ≤ 16777215 * tp 104) (b0 : val .f64 b = 0)
    (c1 : -1 ≤ val .f64 c) (c2 : val .f64 c ≤ 1) (d1 : -1 ≤ val .f64 d) (d2 : val .f64 d ≤ 1) : MulOk a b c d ∧ isN .f32 (narP (mRe a b c d)) ∧ isN .f32 (narP (mIm a b c d)) := by
  obtain ⟨m1, m2⟩ := abs_mul a1 a2 c1 c2
  obtain ⟨m3, m4⟩ := abs_mul a1 a2 d1 d2
  have hM0 : (0 : Rat) ≤ 16777215 * tp 104 := by decide +kernel
  obtain ⟨r1, e1, n1, R1⟩ := mul_RN ha hc (maxF_in m1 m2)
  have k1 := R1.up _ rep_max m2
  have k2 := R1.dn _ rep_max.neg m1
  obtain ⟨r2, e2, n2, R2⟩ := mul_RN hb hd (by rw [b0, Rat.zero_mul]; exact maxF_in (by grind) (by grind))
  rw [b0, Rat.zero_mul] at R2
  have z2 := R2.exact (rep_zero _)
  obtain ⟨r3, e3, n3, R3⟩ := mul_RN ha hd (maxF_in m3 m4)
  have k3 := R3.up _ rep_max m4
  have k4 := R3.dn _ rep_max.neg m3
  obtain ⟨r4, e4, n4, R4⟩ := mul_RN hb hc (by rw [b0, Rat.zero_mul]; exact maxF_in (by grind) (by grind))
  rw [b0, Rat.zero_mul] at R4
  have z4 := R4.exact (rep_zero _)
  obtain ⟨r5, e5, n5, R5⟩ := sub_RN n1 n2 (by rw [z2]; exact maxF_in (by grind) (by grind))
  rw [z2] at R5
  have k5 := R5.up _ rep_max (by grind)
  have k6 := R5.dn _ rep_max.neg (by grind)
  obtain ⟨r6, e6, n6, R6⟩ := add_RN n3 n4 (by rw [z4]; exact maxF_in (by grind) (by grind))
  rw [z4] at R6
  have k7 := R6.up _ rep_max (by grind)
  have k8 := R6.dn _ rep_max.neg (by grind)
  have f1 := fo_of e1
  have f2 := fo_of e2
  have f3 := fo_of e3
  have f4 := fo_of e4
  have f5 := fo_of e5
  have f6 := fo_of e6
  have hre : mRe a b c d = r5 := by unfold mRe; rw [f1, f2, f5]
  have him : mIm a b c d = r6 := by unfold mIm; rw [f3, f4, f6]
  obtain ⟨g1, g2⟩ := narP_max n5 k6 k5
  obtain ⟨g3, g4⟩ := narP_max n6 k8 k7
  refine ⟨⟨by rw [f1]; exact e1, by rw [f2]; exact e2, by rw [f1, f2, hre]; exact e5, by rw [f3]; exact e3, by rw [f4]; exact e4, by rw [f3, f4, him]; exact e6, by rw [hre]; exact g2, by rw [him]; exact g4⟩, by rw [hre]; exact g1, by rw [him]; exact g3⟩

end Go.Proofs.Ytfclkbppmkjkeaa
