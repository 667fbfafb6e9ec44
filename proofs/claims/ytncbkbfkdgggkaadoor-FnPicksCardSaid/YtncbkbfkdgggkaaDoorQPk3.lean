/- Floats, whatever the bits of a NaN are: 'cn' forgets them; each operation is a function of what 'cn' leaves. The walks of the laws' small helpers on slices of float32. slices.IndexFunc and slices.ContainsFunc at []float32, for whatever closure. IsFinite, finite lists, vectors. sameFloat, and eq.. on lists of float32. eq.. on lists of float32. The sum of the products of two vectors, in both texts; a number if it is finite. Narrowing a float64 to a float32 where it fits; the square root. The values of floats as rational numbers; what is rounded lies between the same numbers of the format: plain. What the operations on floats make of their values: plain. The sine and the point of the unit circle, as both texts compute them: plain. What is rounded lies near: plain. A float32 as a whole number of parts: plain. The sine is at most 1, but for less than a float32 shows: plain; by intervals of whole numbers over 2 ^ 40. What is hardly more than 1 is narrowed to 1 at most; the point of the unit circle: plain. The point of the unit circle at some turns, as both texts compute it: plain. Numbers of at most a power of two among floats; the exponential function of what is below nought, plain. Decays: what is computed of floats: plain. RootNumber: the square root of a float32, narrowed. A rounded number of single precision beside the true one, up to 64, 128, 1024. A float32 as a float64: the same number. The walks of the laws' small helpers on slices of bool. mark.., held.. on lists of float32. eq.. on bools. Are two slices equal: SlB. The walks of the laws' small helpers on slices of string. -/
import Derived.Test.YtncbkbfkdgggkaaDoorQPk2
import Derived.Test.YtncbkbfkdgggkaaDoorRows
set_option linter.unusedVariables false
set_option linter.unusedSimpArgs false
namespace Go.Proofs.YtncbkbfkdgggkaaDoor
open Go.RowKit

/-- The bits of a float that is a number or an infinity; nothing of a NaN. -/
def cn (k : FloatKind) (b : Nat) : Option Nat := if (k.decode b).isNaN then none else some b

theorem read_word32 (neg : Bool) (r : Nat) (h : r ≤ 2139095040) : (Ieee.single.read (Ieee.single.word neg r)).isNaN = false := by
  have e1 : Ieee.single.signWeight = 2147483648 := by decide
  have e2 : Ieee.single.binade = 8388608 := by decide
  have e3 : Ieee.single.infRung = 2139095040 := by decide
  unfold Ieee.Format.read Ieee.Format.word
  simp only [e1, e2, e3]
  have hm : (if neg = true then 2147483648 + r else r) % 2147483648 = r := by split <;> omega
  rw [hm]
  split
  · rfl
  · split
    · rfl
    · split
      · rfl
      · omega
theorem read_word64 (neg : Bool) (r : Nat) (h : r ≤ 9218868437227405312) : (Ieee.double.read (Ieee.double.word neg r)).isNaN = false := by
  have e1 : Ieee.double.signWeight = 9223372036854775808 := by decide
  have e2 : Ieee.double.binade = 4503599627370496 := by decide
  have e3 : Ieee.double.infRung = 9218868437227405312 := by decide
  unfold Ieee.Format.read Ieee.Format.word
  simp only [e1, e2, e3]
  have hm : (if neg = true then 9223372036854775808 + r else r) % 9223372036854775808 = r := by split <;> omega
  rw [hm]
  split
  · rfl
  · split
    · rfl
    · split
      · rfl
      · omega

theorem read_word (k : FloatKind) (neg : Bool) (r : Nat) (h : r ≤ k.format.infRung) : (k.decode (k.format.word neg r)).isNaN = false := by
  cases k
  · exact read_word32 neg r (by have e3 : Ieee.single.infRung = 2139095040 := by decide
                                rw [← e3]; exact h)
  · exact read_word64 neg r (by have e3 : Ieee.double.infRung = 9218868437227405312 := by decide
                                rw [← e3]; exact h)

theorem nearest_notNaN (k : FloatKind) (neg : Bool) (m : Nat) (p : Int) : (k.decode (k.format.nearest neg m p)).isNaN = false := by
  unfold Ieee.Format.nearest
  split
  · exact read_word k neg 0 (Nat.zero_le _)
  · exact read_word k neg _ (Nat.min_le_right _ _)

theorem write_notNaN (k : FloatKind) (d : Ieee.Datum) (h : d.isNaN = false) : (k.decode (k.format.write d)).isNaN = false := by
  cases d with
  | number s m e => exact nearest_notNaN k s m e
  | infinity s => exact read_word k s _ (Nat.le_refl _)
  | nan s t => simp [Ieee.Datum.isNaN] at h

theorem cn_write (k : FloatKind) (d : Ieee.Datum) (h : d.isNaN = false) : cn k (k.format.write d) = some (k.format.write d) := by simp [cn, write_notNaN k d h]
theorem cn_ofInt (k : FloatKind) (n : Int) : cn k (floatOfInt k n) = some (floatOfInt k n) := cn_write k (.number (n < 0) n.natAbs 0) rfl

theorem cn_some {k : FloatKind} {b c : Nat} (h : cn k b = some c) : b = c ∧ (k.decode b).isNaN = false := by
  unfold cn at h
  split at h
  · simp at h
  · rename_i h2; simp at h; exact ⟨h, by simpa using h2⟩
theorem cn_none {k : FloatKind} {b : Nat} (h : cn k b = none) : ∃ s t, k.decode b = .nan s t := by
  unfold cn at h
  split at h
  · rename_i h2
    cases hd : k.decode b with
    | nan s t => exact ⟨s, t, rfl⟩
    | number => rw [hd] at h2; simp [Ieee.Datum.isNaN] at h2
    | infinity => rw [hd] at h2; simp [Ieee.Datum.isNaN] at h2
  · simp at h

/-- An operation on what 'cn' leaves. -/
def fbin (bop : BinOp) (k : FloatKind) (x y : Option Nat) : Option Nat := x.bind fun a => y.bind fun b => floatBits bop k a b

theorem sum_nan {d e f : Ieee.Datum} (h : d.sum e = some f) : d.isNaN = false ∧ e.isNaN = false ∧ f.isNaN = false := by
  cases d <;> cases e <;> simp [Ieee.Datum.sum, Ieee.Datum.isNaN] at h ⊢ <;> first | (obtain ⟨_, rfl⟩ := h; simp) | (subst h; simp)
theorem product_nan {d e f : Ieee.Datum} (h : d.product e = some f) : d.isNaN = false ∧ e.isNaN = false ∧ f.isNaN = false := by
  cases d <;> cases e <;> simp [Ieee.Datum.product, Ieee.Datum.isNaN] at h ⊢ <;> first | (obtain ⟨_, rfl⟩ := h; simp) | (subst h; simp)
theorem quotient_nan {q : Nat} {d e f : Ieee.Datum} (h : d.quotient q e = some f) : d.isNaN = false ∧ e.isNaN = false ∧ f.isNaN = false := by
  cases d <;> cases e <;> simp [Ieee.Datum.quotient, Ieee.Datum.isNaN] at h ⊢ <;> first | (subst h; simp; done) | skip
  split at h
  · split at h
    · simp at h
    · simp at h; subst h; simp
  · simp at h; subst h; simp

theorem opposite_nan (d : Ieee.Datum) : d.opposite.isNaN = d.isNaN := by cases d <;> rfl

theorem floatBits_nan {bop : BinOp} {k : FloatKind} {a b r : Nat} (h : floatBits bop k a b = some r) : (k.decode a).isNaN = false ∧ (k.decode b).isNaN = false ∧ (k.decode r).isNaN = false := by
  unfold floatBits at h
  split at h
  · unfold Ieee.Format.add at h
    simp at h; obtain ⟨d, hd, rfl⟩ := h
    have := sum_nan hd
    exact ⟨this.1, this.2.1, write_notNaN k d this.2.2⟩
  · unfold Ieee.Format.sub at h
    simp at h; obtain ⟨d, hd, rfl⟩ := h
    have := sum_nan hd
    rw [opposite_nan] at this
    exact ⟨this.1, this.2.1, write_notNaN k d this.2.2⟩
  · unfold Ieee.Format.mul at h
    simp at h; obtain ⟨d, hd, rfl⟩ := h
    have := product_nan hd
    exact ⟨this.1, this.2.1, write_notNaN k d this.2.2⟩
  · unfold Ieee.Format.div at h
    simp at h; obtain ⟨d, hd, rfl⟩ := h
    have := quotient_nan hd
    exact ⟨this.1, this.2.1, write_notNaN k d this.2.2⟩
  · simp at h

theorem nan32 (p q : Nat) (hp : p < 2) (hq : q < 8388607) : (Ieee.single.read (p * 2147483648 + 2139095041 + q)).isNaN = true := by
  have e1 : Ieee.single.signWeight = 2147483648 := by decide
  have e2 : Ieee.single.binade = 8388608 := by decide
  have e3 : Ieee.single.infRung = 2139095040 := by decide
  have hm : (p * 2147483648 + 2139095041 + q) % 2147483648 = 2139095041 + q := by omega
  unfold Ieee.Format.read
  simp only [e1, e2, e3, hm]
  rw [if_neg (by omega), if_neg (by omega), if_neg (by omega)]
  rfl
theorem nan64 (p q : Nat) (hp : p < 2) (hq : q < 4503599627370495) : (Ieee.double.read (p * 9223372036854775808 + 9218868437227405313 + q)).isNaN = true := by
  have e1 : Ieee.double.signWeight = 9223372036854775808 := by decide
  have e2 : Ieee.double.binade = 4503599627370496 := by decide
  have e3 : Ieee.double.infRung = 9218868437227405312 := by decide
  have hm : (p * 9223372036854775808 + 9218868437227405313 + q) % 9223372036854775808 = 9218868437227405313 + q := by omega
  unfold Ieee.Format.read
  simp only [e1, e2, e3, hm]
  rw [if_neg (by omega), if_neg (by omega), if_neg (by omega)]
  rfl

theorem nanCut32 (t : Nat) : (Ieee.single.read ((t % 2) * 2147483648 + 2139095040 + 1 + (t / 2) % 8388607)).isNaN = true := by
  have := nan32 (t % 2) ((t / 2) % 8388607) (by omega) (Nat.mod_lt _ (by omega))
  rwa [show (t % 2) * 2147483648 + 2139095040 + 1 + (t / 2) % 8388607 = (t % 2) * 2147483648 + 2139095041 + (t / 2) % 8388607 by omega]
theorem nanCut64 (t : Nat) : (Ieee.double.read ((t % 2) * 9223372036854775808 + 9218868437227405312 + 1 + (t / 2) % 4503599627370495)).isNaN = true := by
  have := nan64 (t % 2) ((t / 2) % 4503599627370495) (by omega) (Nat.mod_lt _ (by omega))
  rwa [show (t % 2) * 9223372036854775808 + 9218868437227405312 + 1 + (t / 2) % 4503599627370495 = (t % 2) * 9223372036854775808 + 9218868437227405313 + (t / 2) % 4503599627370495 by omega]

theorem nanBits_cn (k : FloatKind) (a b t : Nat) : cn k ((Question.nanBits k a b).cut t) = none := by
  have h : (k.decode ((Question.nanBits k a b).cut t)).isNaN = true := by
    cases k
    · exact nanCut32 t
    · exact nanCut64 t
  simp [cn, h]

def arith (bop : BinOp) : Bool := match bop with | .add | .sub | .mul | .quo => true | _ => false

/-- + - * / on floats: the result, whatever bits a NaN gets. -/
theorem run_fbin {P : Program} (w : World) (bop : BinOp) (hb : arith bop = true) (t : TypeId) (k : FloatKind) (a b : Nat) :
    ∃ r w', (binOp bop t (.float k a) (.float k b)).run P w = .ok (.float k r) w' ∧ (∃ n, w' = w.drewN n) ∧ cn k r = fbin bop k (cn k a) (cn k b) := by
  cases h : floatBits bop k a b with
  | some r =>
    refine ⟨r, w, run_float_arith w bop t k a b r h, ⟨0, rfl⟩, ?_⟩
    have hn := floatBits_nan h
    simp [cn, fbin, hn.1, hn.2.1, hn.2.2, h]
  | none =>
    have hz : fbin bop k (cn k a) (cn k b) = none := by
      unfold fbin
      cases h1 : cn k a with
      | none => rfl
      | some a' =>
        cases h2 : cn k b with
        | none => rfl
        | some b' =>
          obtain ⟨rfl, _⟩ := cn_some h1
          obtain ⟨rfl, _⟩ := cn_some h2
          exact h
    refine ⟨(Question.nanBits k a b).cut (w.tape w.drawn (.nanBits k a b)), w.drew, ?_, ⟨1, rfl⟩, by rw [hz]; exact nanBits_cn k a b _⟩
    unfold floatBits at h
    cases bop <;> simp [arith] at hb <;> simp only at h <;> simp [binOp, Op.floatArith, h, Question.forced] <;> rfl

/-- + - * / on floats, in a walk. -/
theorem wpl_fbin {P : Program} {w : World} {ops : Array Oper} {rest : List Oper} {o : Oper} {ac : Act} {Q : Exit → Act → World → Prop}
    (hw : Region.wanted o (yielded ops ac.tmps) = true) (bop : BinOp) (t t2 : TypeId) (x y : Operand) (hop : o.op = .binOp bop t x y t2) (hb : arith bop = true) (k : FloatKind) (a b : Nat)
    (hx : ac.eval x = .float k a) (hy : ac.eval y = .float k b)
    (hK : ∀ r w', (∃ n, w' = w.drewN n) → cn k r = fbin bop k (cn k a) (cn k b) → wpList P ops Q rest (ac.put o.dst (.float k r)) w') : wpList P ops Q (o :: rest) ac w := by
  obtain ⟨r, w', hru, hn, hc⟩ := run_fbin (P := P) w bop hb t k a b
  have hge : (eqGuard bop t x y (.float k a) (.float k b)).run P w = .ok () w := by cases bop <;> simp [arith] at hb <;> rfl
  unfold wpList
  rw [if_pos hw]
  left
  unfold Oper.wp execOp
  simp only [hop, Sem.run_bind, Sem.run_pure, Result.andThen_ok, hx, hy, hge, hru]
  exact hK r w' hn hc

/-- The same at a step of a region that draws its order. -/
theorem step_fbin {P : Program} {w : World} {ops : Array Oper} {o : Oper} {ac : Act} {K : Act → World → Prop} {Q : Exit → Act → World → Prop} {E : Prop}
    (hg : o.guard = none) (bop : BinOp) (t t2 : TypeId) (x y : Operand) (hop : o.op = .binOp bop t x y t2) (hb : arith bop = true) (k : FloatKind) (a b : Nat)
    (hx : ac.eval x = .float k a) (hy : ac.eval y = .float k b)
    (hK : ∀ r w', (∃ n, w' = w.drewN n) → cn k r = fbin bop k (cn k a) (cn k b) → K (ac.put o.dst (.float k r)) w') :
    if Region.wanted o (yielded ops ac.tmps) = true then Oper.wp P o ac w K Q else E := by
  obtain ⟨r, w', hru, hn, hc⟩ := run_fbin (P := P) w bop hb t k a b
  have hge : (eqGuard bop t x y (.float k a) (.float k b)).run P w = .ok () w := by cases bop <;> simp [arith] at hb <;> rfl
  have hw : Region.wanted o (yielded ops ac.tmps) = true := by simp [Region.wanted, hg]
  rw [if_pos hw]
  unfold Oper.wp execOp
  simp only [hop, Sem.run_bind, Sem.run_pure, Result.andThen_ok, hx, hy, hge, hru]
  exact hK r w' hn hc

theorem read32_bd (b : Nat) {s : Bool} {m : Nat} {e : Int} (h : FloatKind.f32.decode b = .number s m e) : m < 16777216 ∧ -149 ≤ e ∧ e ≤ 104 := by
  have e1 : Ieee.single.signWeight = 2147483648 := by decide
  have e2 : Ieee.single.binade = 8388608 := by decide
  have e3 : Ieee.single.infRung = 2139095040 := by decide
  have e4 : Ieee.single.leastPlace = -149 := by decide
  have h' : Ieee.single.read b = .number s m e := h
  unfold Ieee.Format.read at h'
  simp only [e1, e2, e3, e4] at h'
  split at h'
  · simp only [Ieee.Datum.number.injEq] at h'
    omega
  · split at h'
    · simp only [Ieee.Datum.number.injEq] at h'
      omega
    · split at h' <;> simp at h'

theorem shl_lt {m : Nat} (hm : m ≠ 0) (q : Nat) (hq : m.log2 ≤ q) : m <<< (q - m.log2) < 2 ^ (q + 1) := by
  rw [Nat.shiftLeft_eq]
  have h1 : m < 2 ^ (m.log2 + 1) := Nat.lt_log2_self
  calc m * 2 ^ (q - m.log2) < 2 ^ (m.log2 + 1) * 2 ^ (q - m.log2) := Nat.mul_lt_mul_of_pos_right h1 (Nat.two_pow_pos _)
    _ = 2 ^ (q + 1) := by rw [← Nat.pow_add]; congr 1; omega

theorem cut_zero (neg : Bool) (n : Nat) : Ieee.Toward.even.cut neg n 0 = n := by
  unfold Ieee.Toward.cut
  simp [Nat.mod_one]

theorem word64_notInf (neg : Bool) (r : Nat) (h : r < 9218868437227405312) : (Ieee.double.read (Ieee.double.word neg r)).isInfinity = false := by
  have e1 : Ieee.double.signWeight = 9223372036854775808 := by decide
  have e2 : Ieee.double.binade = 4503599627370496 := by decide
  have e3 : Ieee.double.infRung = 9218868437227405312 := by decide
  unfold Ieee.Format.read Ieee.Format.word
  simp only [e1, e2, e3]
  have hm : (if neg = true then 9223372036854775808 + r else r) % 9223372036854775808 = r := by split <;> omega
  rw [hm]
  by_cases h1 : r < 4503599627370496
  · rw [if_pos h1]; rfl
  · rw [if_neg h1, if_pos h]; rfl

theorem log2_lt24 {m : Nat} (h0 : m ≠ 0) (h : m < 16777216) : m.log2 ≤ 23 := by
  have : m.log2 < 24 := (Nat.log2_lt h0).2 (by simpa using h)
  omega

/-- A float32 that is a number fits a float64. -/
theorem widen_fits (b : Nat) {s : Bool} {m : Nat} {e : Int} (h : FloatKind.f32.decode b = .number s m e) : (FloatKind.f64.decode (FloatKind.f64.encode (.number s m e))).isInfinity = false := by
  obtain ⟨hm, he1, he2⟩ := read32_bd b h
  show (Ieee.double.read (Ieee.double.nearest s m e)).isInfinity = false
  unfold Ieee.Format.nearest
  split
  · exact word64_notInf s 0 (by omega)
  · rename_i h0
    have hl := log2_lt24 h0 hm
    have e4 : Ieee.double.leastPlace = -1074 := by decide
    have e5 : Ieee.double.fractionBits = 52 := rfl
    have e2 : Ieee.double.binade = 4503599627370496 := by decide
    simp only [e4, e5, e2]
    have hlast : max (e + (m.log2 : Int) - ((52 : Nat) : Int)) (-1074) = e + m.log2 - 52 := by omega
    rw [hlast]
    have h1 : (e - (e + (m.log2 : Int) - 52)).toNat = 52 - m.log2 := by omega
    have h2 : ((e + (m.log2 : Int) - 52) - e).toNat = 0 := by omega
    rw [h1, h2, cut_zero]
    have h3 : m <<< (52 - m.log2) < 9007199254740992 := shl_lt h0 52 (by omega)
    generalize m <<< (52 - m.log2) = kk at h3
    have h4 : ((e + (m.log2 : Int) - 52) - -1074).toNat ≤ 1149 := by omega
    generalize ((e + (m.log2 : Int) - 52) - -1074).toNat = qq at h4
    refine word64_notInf s _ ?_
    exact Nat.lt_of_le_of_lt (Nat.min_le_left _ _) (by omega)

/-- A float32 as a float64. -/
def widen (o : Option Nat) : Option Nat := o.map fun b => FloatKind.f64.encode (FloatKind.f32.decode b)

theorem nanConv_cn (b t : Nat) : cn .f64 ((Question.nanConv .f64 b).cut t) = none := by
  have h : (FloatKind.f64.decode ((Question.nanConv .f64 b).cut t)).isNaN = true := nanCut64 t
  simp [cn, h]

theorem run_widen {P : Program} (w : World) (src dst : TypeId) (hs : (P.underlying src).isSome = true) (hd : P.underlying dst = some (.float .f64)) (b : Nat) :
    ∃ r w', (convert src dst (.float .f32 b)).run P w = .ok (.float .f64 r) w' ∧ (∃ n, w' = w.drewN n) ∧ cn .f64 r = widen (cn .f32 b) := by
  obtain ⟨u, hs'⟩ := Option.isSome_iff_exists.1 hs
  cases hc : cn .f32 b with
  | none =>
    obtain ⟨s, t, hdec⟩ := cn_none hc
    refine ⟨(Question.nanConv .f64 b).cut (w.tape w.drawn (.nanConv .f64 b)), w.drew, ?_, ⟨1, rfl⟩, nanConv_cn b _⟩
    cases u <;> simp [convert, run_underlying hs', run_underlying hd, Conv.floatToFloat, hdec, Question.forced] <;> rfl
  | some b' =>
    obtain ⟨rfl, hn⟩ := cn_some hc
    have hk : FloatKind.f32 ≠ FloatKind.f64 := by decide
    cases hdec : FloatKind.f32.decode b with
    | nan s t => rw [hdec] at hn; simp [Ieee.Datum.isNaN] at hn
    | infinity s =>
      refine ⟨FloatKind.f64.encode (.infinity s), w, ?_, ⟨0, rfl⟩, ?_⟩
      · cases u <;> simp [convert, run_underlying hs', run_underlying hd, Conv.floatToFloat, hdec]
      · simp [widen, hdec]; exact cn_write .f64 (.infinity s) rfl
    | number s m e =>
      have hf := widen_fits b hdec
      refine ⟨FloatKind.f64.encode (.number s m e), w, ?_, ⟨0, rfl⟩, ?_⟩
      · cases u <;> simp [convert, run_underlying hs', run_underlying hd, Conv.floatToFloat, hdec, hf]
      · simp [widen, hdec]; exact cn_write .f64 (.number s m e) rfl

theorem wpl_widen {P : Program} {w : World} {ops : Array Oper} {rest : List Oper} {o : Oper} {ac : Act} {Q : Exit → Act → World → Prop}
    (hw : Region.wanted o (yielded ops ac.tmps) = true) (src dst : TypeId) (x : Operand) (hop : o.op = .convert src dst x) (hs : (P.underlying src).isSome = true) (hd : P.underlying dst = some (.float .f64)) (b : Nat)
    (hx : ac.eval x = .float .f32 b)
    (hK : ∀ r w', (∃ n, w' = w.drewN n) → cn .f64 r = widen (cn .f32 b) → wpList P ops Q rest (ac.put o.dst (.float .f64 r)) w') : wpList P ops Q (o :: rest) ac w := by
  obtain ⟨r, w', hru, hn, hc⟩ := run_widen (P := P) w src dst hs hd b
  unfold wpList
  rw [if_pos hw]
  left
  unfold Oper.wp execOp
  simp only [hop, Sem.run_bind, Sem.run_pure, Result.andThen_ok, hx, hru]
  exact hK r w' hn hc

theorem upon_fbin {P : Program} {w : World} {o : Oper} {ac : Act} {K : Act → World → Prop} {Q : Exit → Act → World → Prop} {bop : BinOp} {t : TypeId} {k : FloatKind} (hb : arith bop = true) (a b : Nat)
    (hK : ∀ r w', (∃ n, w' = w.drewN n) → cn k r = fbin bop k (cn k a) (cn k b) → K (ac.put o.dst (.float k r)) w') :
    Oper.upon P o ac K Q (((binOp bop t (.float k a) (.float k b)).run P w).andThen fun a w' => .ok (Next.value a) w') := by
  obtain ⟨r, w', hru, hn, hc⟩ := run_fbin (P := P) w bop hb t k a b
  rw [hru]
  exact hK r w' hn hc

/-- A float and a bool: what 'cn' leaves of the float. -/
def RetFB (w : World) (o : Option Nat) (b : Bool) (en : Ending) (w' : World) : Prop :=
  ∃ r, en = .returned (.tuple #[.float .f32 r, .bool b]) ∧ cn .f32 r = o ∧ Below w.heap.size w w'
/-- A float. -/
def RetF (w : World) (o : Option Nat) (en : Ending) (w' : World) : Prop :=
  ∃ r, en = .returned (.float .f32 r) ∧ cn .f32 r = o ∧ Below w.heap.size w w'
theorem cn_zero : cn .f32 0 = some 0 := by kernel_rfl

theorem upon_widen {P : Program} {w : World} {o : Oper} {ac : Act} {K : Act → World → Prop} {Q : Exit → Act → World → Prop} {src dst : TypeId} (hs : (P.underlying src).isSome = true) (hd : P.underlying dst = some (.float .f64)) (b : Nat)
    (hK : ∀ r w', (∃ n, w' = w.drewN n) → cn .f64 r = widen (cn .f32 b) → K (ac.put o.dst (.float .f64 r)) w') :
    Oper.upon P o ac K Q (((convert src dst (.float .f32 b)).run P w).andThen fun a w' => .ok (Next.value a) w') := by
  obtain ⟨r, w', hru, hn, hc⟩ := run_widen (P := P) w src dst hs hd b
  rw [hru]
  exact hK r w' hn hc

theorem step_widen {P : Program} {w : World} {ops : Array Oper} {o : Oper} {ac : Act} {K : Act → World → Prop} {Q : Exit → Act → World → Prop} {E : Prop}
    (hg : o.guard = none) (src dst : TypeId) (x : Operand) (hop : o.op = .convert src dst x) (hs : (P.underlying src).isSome = true) (hd : P.underlying dst = some (.float .f64)) (b : Nat)
    (hx : ac.eval x = .float .f32 b)
    (hK : ∀ r w', (∃ n, w' = w.drewN n) → cn .f64 r = widen (cn .f32 b) → K (ac.put o.dst (.float .f64 r)) w') :
    if Region.wanted o (yielded ops ac.tmps) = true then Oper.wp P o ac w K Q else E := by
  obtain ⟨r, w', hru, hn, hc⟩ := run_widen (P := P) w src dst hs hd b
  have hw : Region.wanted o (yielded ops ac.tmps) = true := by simp [Region.wanted, hg]
  rw [if_pos hw]
  unfold Oper.wp execOp
  simp only [hop, Sem.run_bind, Sem.run_pure, Result.andThen_ok, hx, hru]
  exact hK r w' hn hc

end Go.Proofs.YtncbkbfkdgggkaaDoor

namespace Go.Proofs.YtncbkbfkdgggkaaDoor
open Go.RowKit

theorem und_fs : Tryd.prog.underlying 30 = some (.slice (Tryd.prog.elem 30)) := by kernel_rfl
theorem siz_fs (w : World) : (sizeOf (Tryd.prog.elem 30)).run Tryd.prog w = .ok 1 w := by kernel_rfl
theorem und_fse : Tryd.prog.underlying 30 = some (.slice 32) := by kernel_rfl
theorem info_f : (Tryd.prog.info? 32).map (fun i => (i.zero, i.size, i.bytes)) = some (some (.float .f32 0), 1, 4) := by kernel_rfl

end Go.Proofs.YtncbkbfkdgggkaaDoor

namespace Go.Proofs.YtncbkbfkdgggkaaDoor
open Go.RowKit

set_option maxHeartbeats 400000 in
theorem indexFuncf_any (a : Option Addr) (c : Nat) (xs : List Nat) (w : World) (F : Nat) (caps : Array Value) (p : Nat → Bool) (hF : ∀ (vs : Array Value) (w : World), (callFunc F vs).run Tryd.prog w = .ok (.enter F vs) w) (hr : Rd (Value.float .f32) w a c xs)
    (hclo : ∀ k (h : k < xs.length) wr, Below w.heap.size w wr → Calls Tryd.prog F (#[(Value.float .f32) xs[k]] ++ caps) wr fun e w' => e = .returned (.bool (p xs[k])) ∧ Below wr.heap.size wr w') :
    Calls Tryd.prog 58 #[.slice a xs.length c, .func (.func F) #[] caps] w fun e w' => e = .returned (.int .i64 (idxOf p xs)) ∧ Below w.heap.size w w' := by
  have hln := hr.len
  go_enter Tryd.func58, Tryd.ntmps58
  go_wp2
  go_loopw [5, 8] (fun _ i wr => ∃ k : Nat, k ≤ xs.length ∧ i = .int .i64 k ∧ (∀ x ∈ xs.take k, p x = false) ∧ Below w.heap.size w wr) (fun _ i _ => xs.length - (intOf i).toNat)
  case atStart => exact ⟨0, Nat.zero_le _, rfl, by simp, Below.refl _ _⟩
  case round =>
    obtain ⟨k, hk, rfl, hp, hb⟩ := hrel
    have HP : Hid (∀ x ∈ xs.take k, p x = false) := hp
    clear hp
    by_cases hlt : k < xs.length
    · have hr' := hr.below hb (Nat.le_refl _)
      have hix := hr'.idx und_fs siz_fs
      have hcx := hr'.cell k hlt
      have HC : Hid (∀ k (h : k < xs.length) wr, Below w.heap.size w wr → Calls Tryd.prog F (#[(Value.float .f32) xs[k]] ++ caps) wr fun e w' => e = .returned (.bool (p xs[k])) ∧ Below wr.heap.size wr w') := hclo
      clear hclo
      simp only [List.getElem?_eq_getElem hlt, Option.getD_some] at hcx
      go_wp2_with fail
      refine (HC.out k hlt wr hb).mono ?_
      rintro e w1 ⟨rfl, hb1⟩
      by_cases hpx : p xs[k] = true
      · have HX : Hid (p xs[k] = true) := hpx
        rw [hpx]
        clear hpx
        go_wp2
        go_ret
        refine ⟨ret_int ?_, hb.trans (hb1.mono hb.size)⟩
        rw [idxOf_here HX.out HP.out]
      · have hpx' : p xs[k] = false := by simpa using hpx
        have HX : Hid (p xs[k] = false) := hpx'
        rw [hpx']
        clear hpx hpx'
        go_wp2
        go_roundw
        case rel => exact ⟨k + 1, by omega, by go_num, snoc_none hlt HP.out HX.out, hb.trans (hb1.mono hb.size)⟩
        case measure => simp [intOf]; omega
    · obtain rfl : k = xs.length := by omega
      have HC : Hid (∀ k (h : k < xs.length) wr, Below w.heap.size w wr → Calls Tryd.prog F (#[(Value.float .f32) xs[k]] ++ caps) wr fun e w' => e = .returned (.bool (p xs[k])) ∧ Below wr.heap.size wr w') := hclo
      clear hclo
      go_wp2
      go_ret
      refine ⟨ret_int ?_, hb⟩
      rw [idxOf_none (by simpa using HP.out)]

set_option maxHeartbeats 400000 in
theorem containsFuncf_any (a : Option Addr) (c : Nat) (xs : List Nat) (w : World) (F : Nat) (caps : Array Value) (p : Nat → Bool) (hF : ∀ (vs : Array Value) (w : World), (callFunc F vs).run Tryd.prog w = .ok (.enter F vs) w) (hr : Rd (Value.float .f32) w a c xs)
    (hclo : ∀ k (h : k < xs.length) wr, Below w.heap.size w wr → Calls Tryd.prog F (#[(Value.float .f32) xs[k]] ++ caps) wr fun e w' => e = .returned (.bool (p xs[k])) ∧ Below wr.heap.size wr w') :
    Calls Tryd.prog 32 #[.slice a xs.length c, .func (.func F) #[] caps] w fun e w' => e = .returned (.bool (xs.any p)) ∧ Below w.heap.size w w' := by
  have HC := Lib.hid (indexFuncf_any a c xs w F caps p hF hr hclo)
  clear hclo
  go_enter Tryd.func32, Tryd.ntmps32
  go_wp2_with fail
  refine HC.out.mono ?_
  rintro e w1 ⟨rfl, hb1⟩
  have HB := Lib.hid (idxOf_any p xs)
  go_wp2
  go_ret
  exact ⟨ret_bool (by simpa using HB.out), hb1⟩

end Go.Proofs.YtncbkbfkdgggkaaDoor

namespace Go.Proofs.YtncbkbfkdgggkaaDoor
open Go.RowKit

/-- Is it a number (no NaN, no infinity)? -/
def fin (k : FloatKind) (o : Option Nat) : Bool := match o with
  | none => false
  | some b => !(k.decode b).isInfinity

/-- How two floats stand to one another, by what 'cn' leaves. -/
def ford (k : FloatKind) (x y : Option Nat) : Option Ordering := x.bind fun a => y.bind fun b => k.format.order a b

theorem order_cn (k : FloatKind) (a b : Nat) : k.format.order a b = ford k (cn k a) (cn k b) := by
  unfold ford
  cases h1 : cn k a with
  | none =>
    obtain ⟨s, t, hd⟩ := cn_none h1
    show (k.decode a).order (k.decode b) = none
    rw [hd]; cases k.decode b <;> rfl
  | some a' =>
    obtain ⟨rfl, _⟩ := cn_some h1
    cases h2 : cn k b with
    | none =>
      obtain ⟨s, t, hd⟩ := cn_none h2
      show (k.decode a).order (k.decode b) = none
      rw [hd]; cases k.decode a <;> rfl
    | some b' =>
      obtain ⟨rfl, _⟩ := cn_some h2
      rfl

theorem signed_neg (s : Bool) (m u : Nat) : Ieee.signed (!s) m u = - Ieee.signed s m u := by
  cases s <;> simp [Ieee.signed]

theorem decode_zero (k : FloatKind) : ∃ p, k.decode 0 = .number false 0 p := by
  cases k
  · exact ⟨_, rfl⟩
  · exact ⟨_, rfl⟩

theorem nearest_zero (k : FloatKind) (p : Int) : k.format.nearest false 0 p = 0 := by
  unfold Ieee.Format.nearest Ieee.Format.word
  simp

/-- x - x == 0 just where x is finite. -/
theorem sub_self_zero (k : FloatKind) (x r : Nat) (h : cn k r = fbin .sub k (cn k x) (cn k x)) : (k.format.order r 0 == some Ordering.eq) = fin k (cn k x) := by
  cases hx : cn k x with
  | none =>
    rw [hx] at h
    have : k.format.order r 0 = none := by rw [order_cn, h]; rfl
    rw [this]; rfl
  | some b =>
    obtain ⟨rfl, hn⟩ := cn_some hx
    rw [hx] at h
    have hs : fbin .sub k (some x) (some x) = k.format.sub x x := rfl
    rw [hs] at h
    unfold Ieee.Format.sub at h
    have hd' : k.format.read x = k.decode x := rfl
    rw [hd'] at h
    cases hd : k.decode x with
    | nan s t => rw [hd] at hn; simp [Ieee.Datum.isNaN] at hn
    | infinity s =>
      rw [hd] at h
      have : (Ieee.Datum.infinity s).sum (Ieee.Datum.infinity s).opposite = none := by cases s <;> rfl
      rw [this] at h
      have : k.format.order r 0 = none := by rw [order_cn, h]; rfl
      rw [this]; simp [fin, hd, Ieee.Datum.isInfinity]
    | number s m e =>
      rw [hd] at h
      have : (Ieee.Datum.number s m e).sum (Ieee.Datum.number s m e).opposite = some (.number false 0 e) := by
        simp only [Ieee.Datum.opposite, Ieee.Datum.sum, signed_neg]
        have h0 : ∀ u, Ieee.signed s m u + -Ieee.signed s m u = 0 := fun u => by omega
        simp [h0]
      rw [this] at h
      simp only [Option.map_some, Ieee.Format.write, nearest_zero] at h
      obtain ⟨rfl, _⟩ := cn_some h
      obtain ⟨p, hp⟩ := decode_zero k
      have : k.format.order 0 0 = some .eq := by
        show (k.decode 0).order (k.decode 0) = _
        rw [hp]; simp [Ieee.Datum.order]
      rw [this]; simp [fin, hd, Ieee.Datum.isInfinity]

theorem isFinite_any {x : Nat} {w : World} : Calls Tryd.prog 34 #[.float .f32 x] w fun e w' => e = .returned (.bool (fin .f32 (cn .f32 x))) ∧ Below w.heap.size w w' := by
  have H := Lib.hid (sub_self_zero .f32 x)
  go_enter Tryd.func34, Tryd.ntmps34
  go_wp2_with (refine wpl_fbin rfl _ _ _ _ _ rfl rfl .f32 _ _ rfl rfl ?_; rintro r w' ⟨n, rfl⟩ hr; have HR := Lib.hid hr; clear hr)
  go_ret
  exact ⟨ret_bool (H.out _ HR.out), below_of_drewN _ _ _⟩

def fins (xs : List Nat) : Bool := xs.all fun x => fin .f32 (cn .f32 x)

theorem areFinite1_any {x : Nat} {w : World} : Calls Tryd.prog 59 #[.float .f32 x] w fun e w' => e = .returned (.bool (!fin .f32 (cn .f32 x))) ∧ Below w.heap.size w w' := by
  go_enter Tryd.func59, Tryd.ntmps59
  go_wp2_with fail
  refine isFinite_any.mono ?_
  rintro e w1 ⟨rfl, hb⟩
  go_wp2
  go_ret
  exact ⟨rfl, hb⟩

theorem call_areFinite1 (vs : Array Value) (w : World) : (callFunc 59 vs).run Tryd.prog w = .ok (.enter 59 vs) w := by kernel_rfl

theorem areFinite_any {a : Option Addr} {c : Nat} {xs : List Nat} {w : World} (hr : Rd (Value.float .f32) w a c xs) :
    Calls Tryd.prog 38 #[.slice a xs.length c] w fun e w' => e = .returned (.bool (fins xs)) ∧ Below w.heap.size w w' := by
  have HC := Lib.hid (containsFuncf_any a c xs w 59 #[] (fun x => !fin .f32 (cn .f32 x)) call_areFinite1 hr (fun k h wr hb => by simpa using areFinite1_any))
  go_enter Tryd.func38, Tryd.ntmps38
  go_wp2_with fail
  refine HC.out.mono ?_
  rintro e w1 ⟨rfl, hb1⟩
  go_wp2
  go_ret
  refine ⟨ret_bool ?_, hb1⟩
  rw [Bool.eq_iff_iff]; simp [fins, List.all_eq_true, List.any_eq_true]

def isVec (xs : List Nat) : Bool := decide (1 ≤ xs.length) && decide (xs.length ≤ 32) && fins xs


end Go.Proofs.YtncbkbfkdgggkaaDoor

namespace Go.Proofs.YtncbkbfkdgggkaaDoor
open Go.RowKit

theorem compare_self (n : Int) : compare n n = .eq := by simp
theorem order_self {k : FloatKind} {a : Nat} (h : (k.decode a).isNaN = false) : k.format.order a a = some .eq := by
  show (k.decode a).order (k.decode a) = _
  cases hd : k.decode a with
  | nan s t => rw [hd] at h; simp [Ieee.Datum.isNaN] at h
  | infinity s => simp [Ieee.Datum.order]
  | number s m e => simp [Ieee.Datum.order]
theorem order_nan {k : FloatKind} {a b : Nat} (h : cn k a = none) : k.format.order a b = none := by rw [order_cn, h]; rfl

/-- Two lists of floats, the same but for the bits of their NaNs. -/
def sameF (xs ys : List Nat) : Prop := xs.map (cn .f32) = ys.map (cn .f32)


end Go.Proofs.YtncbkbfkdgggkaaDoor

namespace Go.Proofs.YtncbkbfkdgggkaaDoor
open Go.RowKit

theorem und_f32 : (Tryd.prog.underlying 32).isSome = true := by kernel_rfl
theorem und_f64 : Tryd.prog.underlying 31 = some (.float .f64) := by kernel_rfl

end Go.Proofs.YtncbkbfkdgggkaaDoor

namespace Go.Proofs.YtncbkbfkdgggkaaDoor
open Go.RowKit

/-- The sum of products, from left to right, each rounded. -/
def dotC (xs ys : List Nat) : Option Nat := (List.zip xs ys).foldl (fun s p => fbin .add .f32 s (fbin .mul .f32 (cn .f32 p.1) (cn .f32 p.2))) (some 0)
theorem dotC_snoc (xs ys : List Nat) (k : Nat) (h1 : k < xs.length) (h2 : k < ys.length) :
    dotC (xs.take (k + 1)) (ys.take (k + 1)) = fbin .add .f32 (dotC (xs.take k) (ys.take k)) (fbin .mul .f32 (cn .f32 xs[k]) (cn .f32 ys[k])) := by
  unfold dotC
  rw [List.take_add_one, List.take_add_one, List.getElem?_eq_getElem h1, List.getElem?_eq_getElem h2]
  simp only [Option.toList_some]
  rw [List.zip_append (by simp; omega), List.foldl_append]
  rfl

/-- A number, if it is finite. -/
def ifFin (o : Option Nat) : Option Nat := if fin .f32 o then o else some 0

theorem ifFinite_any {x : Nat} {w : World} : Calls Tryd.prog 41 #[.float .f32 x] w (RetFB w (ifFin (cn .f32 x)) (fin .f32 (cn .f32 x))) := by
  cases h : fin .f32 (cn .f32 x) with
  | false =>
    go_enter Tryd.func41, Tryd.ntmps41
    go_wp2_with fail
    refine isFinite_any.mono ?_
    rintro e w1 ⟨rfl, hb1⟩
    go_wp2
    go_ret2
    exact ⟨0, rfl, by simp [ifFin, h, cn_zero], hb1⟩
  | true =>
    go_enter Tryd.func41, Tryd.ntmps41
    go_wp2_with fail
    refine isFinite_any.mono ?_
    rintro e w1 ⟨rfl, hb1⟩
    go_wp2
    go_ret2
    exact ⟨x, rfl, by simp [ifFin, h], hb1⟩

def dotOk (xs ys : List Nat) : Bool := isVec xs && isVec ys && decide (xs.length = ys.length)
def dotR (xs ys : List Nat) : Option Nat := if dotOk xs ys then ifFin (dotC xs ys) else some 0
def dotB (xs ys : List Nat) : Bool := dotOk xs ys && fin .f32 (dotC xs ys)

end Go.Proofs.YtncbkbfkdgggkaaDoor

namespace Go.Proofs.YtncbkbfkdgggkaaDoor
open Go.RowKit

/-- The number is less than 2 ^ (B + 1). -/
def mag (d : Ieee.Datum) (B : Int) : Prop := match d with
  | .number _ m e => m = 0 ∨ (m.log2 : Int) + e ≤ B
  | _ => True

theorem mag_mono {d : Ieee.Datum} {B C : Int} (h : mag d B) (hc : B ≤ C) : mag d C := by
  cases d with
  | number s m e => rcases h with h | h; exact .inl h; exact .inr (by omega)
  | infinity s => trivial
  | nan s t => trivial

theorem log2_div_pow {m d : Nat} : m / 2 ^ d < 2 ^ (m.log2 + 1 - d) := by
  by_cases h : d ≤ m.log2 + 1
  · rw [Nat.div_lt_iff_lt_mul (Nat.two_pow_pos _), ← Nat.pow_add]
    have : m.log2 + 1 - d + d = m.log2 + 1 := by omega
    rw [this]; exact Nat.lt_log2_self
  · have h1 : m < 2 ^ d := Nat.lt_of_lt_of_le Nat.lt_log2_self (Nat.pow_le_pow_right (by omega) (by omega))
    rw [Nat.div_eq_of_lt h1]
    exact Nat.two_pow_pos _

/-- What is kept of the digits is at most 2 ^ (F + 1). -/
theorem cut_le (neg : Bool) (m drop F : Nat) (h : m.log2 ≤ F + drop) : Ieee.Toward.even.cut neg m drop ≤ 2 ^ (F + 1) := by
  unfold Ieee.Toward.cut
  simp only
  have hb : ∀ b : Bool, b.toNat ≤ 1 := by intro b; cases b <;> simp
  rw [Nat.one_shiftLeft]
  generalize hmd : min drop (m.log2 + 2) = md
  have h1 : m / 2 ^ md < 2 ^ (F + 1) := by
    rcases Nat.le_total drop (m.log2 + 2) with hd | hd
    · have : md = drop := by omega
      rw [this]
      refine Nat.lt_of_lt_of_le log2_div_pow (Nat.pow_le_pow_right (by omega) (by omega))
    · have : md = m.log2 + 2 := by omega
      rw [this]
      refine Nat.lt_of_lt_of_le log2_div_pow (Nat.pow_le_pow_right (by omega) (by omega))
  have h2 := hb (decide (2 ^ md < 2 * (m % 2 ^ md)) || (2 ^ md == 2 * (m % 2 ^ md) && m / 2 ^ md % 2 == 1))
  omega

/-- The rung of the nearest word. -/
theorem rung_le (f : Ieee.Format) (neg : Bool) (m : Nat) (e : Int) (h0 : m ≠ 0) :
    Ieee.Toward.even.cut neg (m <<< (e - max (e + (m.log2 : Int) - (f.fractionBits : Int)) f.leastPlace).toNat) ((max (e + (m.log2 : Int) - (f.fractionBits : Int)) f.leastPlace) - e).toNat ≤ 2 ^ (f.fractionBits + 1) := by
  generalize hl : max (e + (m.log2 : Int) - (f.fractionBits : Int)) f.leastPlace = last
  have hge : e + (m.log2 : Int) - (f.fractionBits : Int) ≤ last := by omega
  by_cases hc : last ≤ e
  · have h1 : (last - e).toNat = 0 := by omega
    rw [h1]
    unfold Ieee.Toward.cut
    simp only [Nat.zero_min, Nat.shiftLeft_zero, Nat.div_one, Nat.mod_one]
    have h2 : m <<< (e - last).toNat < 2 ^ (f.fractionBits + 1) := by
      rw [Nat.shiftLeft_eq]
      calc m * 2 ^ (e - last).toNat < 2 ^ (m.log2 + 1) * 2 ^ (e - last).toNat := Nat.mul_lt_mul_of_pos_right Nat.lt_log2_self (Nat.two_pow_pos _)
        _ = 2 ^ (m.log2 + 1 + (e - last).toNat) := by rw [← Nat.pow_add]
        _ ≤ 2 ^ (f.fractionBits + 1) := Nat.pow_le_pow_right (by omega) (by omega)
    simp
    omega
  · have h1 : (e - last).toNat = 0 := by omega
    rw [h1, Nat.shiftLeft_zero]
    exact cut_le neg m _ f.fractionBits (by omega)

theorem word32_notInf (neg : Bool) (r : Nat) (h : r < 2139095040) : (Ieee.single.read (Ieee.single.word neg r)).isInfinity = false := by
  have e1 : Ieee.single.signWeight = 2147483648 := by decide
  have e2 : Ieee.single.binade = 8388608 := by decide
  have e3 : Ieee.single.infRung = 2139095040 := by decide
  unfold Ieee.Format.read Ieee.Format.word
  simp only [e1, e2, e3]
  have hm : (if neg = true then 2147483648 + r else r) % 2147483648 = r := by split <;> omega
  rw [hm]
  by_cases h1 : r < 8388608
  · rw [if_pos h1]; rfl
  · rw [if_neg h1, if_pos h]; rfl

/-- A number less than 2 ^ 127 fits a float32. -/
theorem narrow_fits {s : Bool} {m : Nat} {e : Int} (h : mag (.number s m e) 126) : (FloatKind.f32.decode (FloatKind.f32.encode (.number s m e))).isInfinity = false := by
  show (Ieee.single.read (Ieee.single.nearest s m e)).isInfinity = false
  unfold Ieee.Format.nearest
  split
  · exact word32_notInf s 0 (by omega)
  · rename_i h0
    have hb : (m.log2 : Int) + e ≤ 126 := by rcases h with h | h; exact absurd h h0; exact h
    have hr := rung_le Ieee.single s m e h0
    have e4 : Ieee.single.leastPlace = -149 := by decide
    have e5 : Ieee.single.fractionBits = 23 := rfl
    have e2 : Ieee.single.binade = 8388608 := by decide
    simp only [e4, e5, e2] at hr ⊢
    generalize Ieee.Toward.even.cut s (m <<< (e - max (e + (m.log2 : Int) - ((23 : Nat) : Int)) (-149)).toNat) (max (e + (m.log2 : Int) - ((23 : Nat) : Int)) (-149) - e).toNat = kept at hr ⊢
    have h4 : (max (e + (m.log2 : Int) - ((23 : Nat) : Int)) (-149) - -149).toNat ≤ 252 := by omega
    generalize (max (e + (m.log2 : Int) - ((23 : Nat) : Int)) (-149) - -149).toNat = qq at h4 ⊢
    have hr' : kept ≤ 16777216 := hr
    refine word32_notInf s _ ?_
    exact Nat.lt_of_le_of_lt (Nat.min_le_left _ _) (by omega)

theorem log2_le_of_lt {m k : Nat} (h : m < 2 ^ (k + 1)) : m.log2 ≤ k := by
  by_cases h0 : m = 0
  · rw [h0]; simp
  · have := (Nat.log2_lt h0).2 h
    omega

/-- What a float64 word of a rung stands for. -/
theorem read64_mag (neg : Bool) (r : Nat) (q : Nat) (h : r < (q + 1) * 4503599627370496) (hr : r ≤ 9218868437227405312) : mag (Ieee.double.read (Ieee.double.word neg r)) ((q : Int) - 1023) := by
  have e1 : Ieee.double.signWeight = 9223372036854775808 := by decide
  have e2 : Ieee.double.binade = 4503599627370496 := by decide
  have e3 : Ieee.double.infRung = 9218868437227405312 := by decide
  have e4 : Ieee.double.leastPlace = -1074 := by decide
  unfold Ieee.Format.read Ieee.Format.word
  simp only [e1, e2, e3, e4]
  have hm : (if neg = true then 9223372036854775808 + r else r) % 9223372036854775808 = r := by split <;> omega
  rw [hm]
  by_cases h1 : r < 4503599627370496
  · rw [if_pos h1]
    right
    have : r.log2 ≤ 51 := log2_le_of_lt (by simpa using h1)
    omega
  · rw [if_neg h1]
    by_cases h2 : r < 9218868437227405312
    · rw [if_pos h2]
      right
      have : (4503599627370496 + r % 4503599627370496).log2 ≤ 52 := log2_le_of_lt (by
        have : r % 4503599627370496 < 4503599627370496 := Nat.mod_lt _ (by omega)
        simp; omega)
      have h3 : r / 4503599627370496 ≤ q := by
        have := (Nat.div_lt_iff_lt_mul (by omega : 0 < 4503599627370496)).2 h
        omega
      omega
    · rw [if_neg h2]
      split <;> trivial

/-- A number written as a float64 and read again is hardly greater. -/
theorem enc64_mag {s : Bool} {m : Nat} {e : Int} {B : Int} (h : mag (.number s m e) B) (hB : -1022 ≤ B) : mag (FloatKind.f64.decode (FloatKind.f64.encode (.number s m e))) (B + 1) := by
  show mag (Ieee.double.read (Ieee.double.nearest s m e)) (B + 1)
  unfold Ieee.Format.nearest
  split
  · have := read64_mag s 0 0 (by omega) (by omega)
    exact mag_mono this (by omega)
  · rename_i h0
    have hb : (m.log2 : Int) + e ≤ B := by rcases h with h | h; exact absurd h h0; exact h
    have hr := rung_le Ieee.double s m e h0
    have e4 : Ieee.double.leastPlace = -1074 := by decide
    have e5 : Ieee.double.fractionBits = 52 := rfl
    have e2 : Ieee.double.binade = 4503599627370496 := by decide
    have e3 : Ieee.double.infRung = 9218868437227405312 := by decide
    simp only [e4, e5, e2, e3] at hr ⊢
    generalize Ieee.Toward.even.cut s (m <<< (e - max (e + (m.log2 : Int) - ((52 : Nat) : Int)) (-1074)).toNat) (max (e + (m.log2 : Int) - ((52 : Nat) : Int)) (-1074) - e).toNat = kept at hr ⊢
    have h4 : ((max (e + (m.log2 : Int) - ((52 : Nat) : Int)) (-1074) - -1074).toNat : Int) ≤ B + 1022 := by omega
    generalize (max (e + (m.log2 : Int) - ((52 : Nat) : Int)) (-1074) - -1074).toNat = qq at h4 ⊢
    have hr' : kept ≤ 9007199254740992 := hr
    have h5 : qq * 4503599627370496 + kept < (qq + 2 + 1) * 4503599627370496 := by omega
    have := read64_mag s (min (qq * 4503599627370496 + kept) 9218868437227405312) (qq + 2) (Nat.lt_of_le_of_lt (Nat.min_le_left _ _) h5) (Nat.min_le_right _ _)
    exact mag_mono this (by omega)

theorem rootFrom_lt (n : Nat) : ∀ todo root, Ieee.Datum.rootFrom n todo root < root + 2 ^ todo := by
  intro todo
  induction todo with
  | zero => intro root; simp [Ieee.Datum.rootFrom]
  | succ t ih =>
    intro root
    unfold Ieee.Datum.rootFrom
    simp only [Nat.one_shiftLeft]
    have hp : 2 ^ (t + 1) = 2 ^ t + 2 ^ t := by rw [Nat.pow_succ]; omega
    have hpos := Nat.two_pow_pos t
    generalize 2 ^ t = p2 at *
    have ha := ih (root + p2)
    have hb := ih root
    split <;> omega

/-- The root of a number less than 2 ^ (B + 1). -/
theorem root_mag {d r : Ieee.Datum} {B : Int} (q : Nat) (h : mag d B) (hr : d.root q = some r) : mag r (B / 2) ∨ ∃ s e, r = .number s 0 e := by
  cases d with
  | nan s t => simp [Ieee.Datum.root] at hr
  | infinity s =>
    left
    simp only [Ieee.Datum.root] at hr
    split at hr
    · simp at hr
    · simp at hr
      subst hr; trivial
  | number s m i =>
    simp only [Ieee.Datum.root] at hr
    split at hr
    · rename_i hm
      simp at hr
      subst hr; subst hm
      exact .inr ⟨s, i, rfl⟩
    · rename_i hm
      split at hr
      · simp at hr
      · simp only [Option.some.injEq] at hr
        subst hr
        left
        have hb : (m.log2 : Int) + i ≤ B := by rcases h with h | h; exact absurd h hm; exact h
        right
        generalize (2 * q - m.log2 + ((i - ((2 * q - m.log2 : Nat) : Int)) % 2).toNat) = more
        have hl : (m <<< more).log2 ≤ m.log2 + more := by
          refine log2_le_of_lt ?_
          rw [Nat.shiftLeft_eq]
          calc m * 2 ^ more < 2 ^ (m.log2 + 1) * 2 ^ more := Nat.mul_lt_mul_of_pos_right Nat.lt_log2_self (Nat.two_pow_pos _)
            _ = 2 ^ (m.log2 + more + 1) := by rw [← Nat.pow_add]; congr 1; omega
        generalize hn : m <<< more = n at hl ⊢
        have hw := rootFrom_lt n (n.log2 / 2 + 1) 0
        rw [Nat.zero_add] at hw
        generalize Ieee.Datum.rootFrom n (n.log2 / 2 + 1) 0 = whole at hw ⊢
        have hbit : (whole * whole != n).toNat ≤ 1 := by cases (whole * whole != n) <;> simp
        have h2 : (2 * whole + (whole * whole != n).toNat).log2 ≤ n.log2 / 2 + 1 := by
          refine log2_le_of_lt ?_
          have : 2 ^ (n.log2 / 2 + 1 + 1) = 2 * 2 ^ (n.log2 / 2 + 1) := by rw [Nat.pow_succ]; omega
          omega
        omega

/-- The square root of a float64. -/
def fsqrt (o : Option Nat) : Option Nat := o.bind FloatKind.f64.format.sqrt
/-- A float64 as a float32. -/
def narrow (o : Option Nat) : Option Nat := o.map fun b => FloatKind.f32.encode (FloatKind.f64.decode b)
/-- It fits. -/
def fits (o : Option Nat) : Prop := ∀ b, o = some b → mag (FloatKind.f64.decode b) 126

theorem nanConv32_cn (b t : Nat) : cn .f32 ((Question.nanConv .f32 b).cut t) = none := by
  have h : (FloatKind.f32.decode ((Question.nanConv .f32 b).cut t)).isNaN = true := nanCut32 t
  simp [cn, h]

theorem run_narrow {P : Program} (w : World) (src dst : TypeId) (hs : (P.underlying src).isSome = true) (hd : P.underlying dst = some (.float .f32)) (b : Nat) (hf : fits (cn .f64 b)) :
    ∃ r w', (convert src dst (.float .f64 b)).run P w = .ok (.float .f32 r) w' ∧ (∃ n, w' = w.drewN n) ∧ cn .f32 r = narrow (cn .f64 b) := by
  obtain ⟨u, hs'⟩ := Option.isSome_iff_exists.1 hs
  cases hc : cn .f64 b with
  | none =>
    obtain ⟨s, t, hdec⟩ := cn_none hc
    refine ⟨(Question.nanConv .f32 b).cut (w.tape w.drawn (.nanConv .f32 b)), w.drew, ?_, ⟨1, rfl⟩, nanConv32_cn b _⟩
    cases u <;> simp [convert, run_underlying hs', run_underlying hd, Conv.floatToFloat, hdec, Question.forced] <;> rfl
  | some b' =>
    obtain ⟨rfl, hn⟩ := cn_some hc
    have hm := hf b hc
    cases hdec : FloatKind.f64.decode b with
    | nan s t => rw [hdec] at hn; simp [Ieee.Datum.isNaN] at hn
    | infinity s =>
      refine ⟨FloatKind.f32.encode (.infinity s), w, ?_, ⟨0, rfl⟩, ?_⟩
      · cases u <;> simp [convert, run_underlying hs', run_underlying hd, Conv.floatToFloat, hdec]
      · simp [narrow, hdec]; exact cn_write .f32 (.infinity s) rfl
    | number s m e =>
      rw [hdec] at hm
      have hf := narrow_fits hm
      refine ⟨FloatKind.f32.encode (.number s m e), w, ?_, ⟨0, rfl⟩, ?_⟩
      · cases u <;> simp [convert, run_underlying hs', run_underlying hd, Conv.floatToFloat, hdec, hf]
      · simp [narrow, hdec]; exact cn_write .f32 (.number s m e) rfl

theorem wpl_narrow {P : Program} {w : World} {ops : Array Oper} {rest : List Oper} {o : Oper} {ac : Act} {Q : Exit → Act → World → Prop}
    (hw : Region.wanted o (yielded ops ac.tmps) = true) (src dst : TypeId) (x : Operand) (hop : o.op = .convert src dst x) (hs : (P.underlying src).isSome = true) (hd : P.underlying dst = some (.float .f32)) (b : Nat)
    (hx : ac.eval x = .float .f64 b) (hf : fits (cn .f64 b))
    (hK : ∀ r w', (∃ n, w' = w.drewN n) → cn .f32 r = narrow (cn .f64 b) → wpList P ops Q rest (ac.put o.dst (.float .f32 r)) w') : wpList P ops Q (o :: rest) ac w := by
  obtain ⟨r, w', hru, hn, hc⟩ := run_narrow (P := P) w src dst hs hd b hf
  unfold wpList
  rw [if_pos hw]
  left
  unfold Oper.wp execOp
  simp only [hop, Sem.run_bind, Sem.run_pure, Result.andThen_ok, hx, hru]
  exact hK r w' hn hc

theorem root_nan {q : Nat} {d r : Ieee.Datum} (h : d.root q = some r) : d.isNaN = false ∧ r.isNaN = false := by
  cases d with
  | nan s t => simp [Ieee.Datum.root] at h
  | infinity s =>
    simp only [Ieee.Datum.root] at h
    split at h
    · simp at h
    · simp at h; subst h; exact ⟨rfl, rfl⟩
  | number s m i =>
    refine ⟨rfl, ?_⟩
    simp only [Ieee.Datum.root] at h
    split at h
    · simp at h; subst h; rfl
    · split at h
      · simp at h
      · simp only [Option.some.injEq] at h; subst h; rfl

/-- The root of a float32 fits a float32. -/
theorem sqrt_fits (b : Nat) : fits (fsqrt (widen (cn .f32 b))) := by
  intro r hr
  unfold fsqrt widen at hr
  cases hc : cn .f32 b with
  | none => rw [hc] at hr; simp at hr
  | some b' =>
    obtain ⟨rfl, hn⟩ := cn_some hc
    rw [hc] at hr
    simp only [Option.map_some, Option.bind_some] at hr
    unfold Ieee.Format.sqrt at hr
    simp only [Option.map_eq_some_iff] at hr
    obtain ⟨d, hd, rfl⟩ := hr
    have hw : mag (FloatKind.f64.decode (FloatKind.f64.encode (FloatKind.f32.decode b))) 128 := by
      cases hdec : FloatKind.f32.decode b with
      | nan s t => rw [hdec] at hn; simp [Ieee.Datum.isNaN] at hn
      | infinity s => cases s <;> trivial
      | number s m e =>
        obtain ⟨hm, he1, he2⟩ := read32_bd b hdec
        have : mag (.number s m e) 127 := by
          by_cases h0 : m = 0
          · exact .inl h0
          · have := log2_lt24 h0 hm
            exact .inr (by omega)
        exact enc64_mag this (by omega)
    rcases root_mag _ hw hd with h | ⟨s, e, rfl⟩
    · cases d with
      | nan s t => have := (root_nan hd).2; simp [Ieee.Datum.isNaN] at this
      | infinity s => cases s <;> trivial
      | number s m e => exact mag_mono (enc64_mag (B := 64) h (by omega)) (by omega)
    · exact mag_mono (enc64_mag (s := s) (m := 0) (e := e) (B := 64) (.inl rfl) (by omega)) (by omega)

end Go.Proofs.YtncbkbfkdgggkaaDoor

namespace Go.Proofs.YtncbkbfkdgggkaaDoor
open Go.RowKit

/-- 2 ^ e. -/
def tp (e : Int) : Rat := (2 : Rat) ^ e
theorem tp_pos (e : Int) : 0 < tp e := Rat.zpow_pos (by decide)
theorem tp_ne (e : Int) : tp e ≠ 0 := fun h => by have := tp_pos e; rw [h] at this; exact Rat.lt_irrefl this
theorem tp_add (a b : Int) : tp (a + b) = tp a * tp b := Rat.zpow_add (by decide) a b
theorem tp_nat (n : Nat) : tp (n : Int) = ((2 ^ n : Nat) : Rat) := by
  show (2 : Rat) ^ (n : Int) = _
  rw [Rat.zpow_natCast, Rat.natCast_pow]; rfl
theorem tp_zero : tp 0 = 1 := Rat.zpow_zero 2
theorem tp_one_le {a : Int} (h : 0 ≤ a) : 1 ≤ tp a := by
  obtain ⟨n, rfl⟩ := Int.eq_ofNat_of_zero_le h
  rw [tp_nat]
  have : 1 ≤ 2 ^ n := Nat.one_le_two_pow
  have := Rat.natCast_le_natCast.2 this
  simpa using this
theorem tp_mono {a b : Int} (h : a ≤ b) : tp a ≤ tp b := by
  have h1 : b = a + (b - a) := by omega
  rw [h1, tp_add]
  have := Rat.mul_le_mul_of_nonneg_left (tp_one_le (a := b - a) (by omega)) (Rat.le_of_lt (tp_pos a))
  simpa using this
theorem tp_shift {a b : Int} (h : b ≤ a) : tp a = ((2 ^ (a - b).toNat : Nat) : Rat) * tp b := by
  have h1 : a = ((a - b).toNat : Int) + b := by omega
  conv => lhs; rw [h1]
  rw [tp_add, tp_nat]

theorem rlt_le {a b c : Rat} (h : a < b) (g : b ≤ c) : a < c := by grind
/-- The sign. -/
def sg (s : Bool) : Rat := if s then -1 else 1
def valD : Ieee.Datum → Rat
  | .number s m e => sg s * ((m : Rat) * tp e)
  | _ => 0
/-- The value of a float. -/
def val (k : FloatKind) (b : Nat) : Rat := valD (k.decode b)
/-- It is a number. -/
def isN (k : FloatKind) (b : Nat) : Prop := ∃ s m e, k.decode b = .number s m e

def fB (k : FloatKind) : Nat := k.format.fractionBits
def lP (k : FloatKind) : Int := k.format.leastPlace
/-- A number that the format has (but for its bound). -/
def Rep (k : FloatKind) (V : Rat) : Prop := ∃ (n g : Int), n.natAbs ≤ 2 ^ (fB k + 1) ∧ lP k ≤ g ∧ V = (n : Rat) * tp g
/-- y is x, rounded. -/
structure RN (k : FloatKind) (x y : Rat) : Prop where
  up : ∀ V, Rep k V → x ≤ V → y ≤ V
  dn : ∀ V, Rep k V → V ≤ x → V ≤ y
  rep : Rep k y
theorem Rep.neg {k : FloatKind} {V : Rat} (h : Rep k V) : Rep k (-V) := by
  obtain ⟨n, g, h1, h2, rfl⟩ := h
  exact ⟨-n, g, by rw [Int.natAbs_neg]; exact h1, h2, by rw [Rat.intCast_neg]; grind⟩
theorem RN.neg {k : FloatKind} {x y : Rat} (h : RN k x y) : RN k (-x) (-y) :=
  ⟨fun V hV hx => by have := h.dn (-V) hV.neg (by grind); grind, fun V hV hx => by have := h.up (-V) hV.neg (by grind); grind, h.rep.neg⟩
theorem RN.sgn {k : FloatKind} {x y : Rat} (h : RN k x y) (s : Bool) : RN k (sg s * x) (sg s * y) := by
  cases s
  · simp only [sg, Bool.false_eq_true, if_false, Rat.one_mul]; exact h
  · have e : ∀ z : Rat, sg true * z = -z := fun z => by simp only [sg, if_true]; grind
    rw [e, e]; exact h.neg
theorem RN.exact {k : FloatKind} {x y : Rat} (h : RN k x y) (hx : Rep k x) : y = x := Rat.le_antisymm (h.up x hx Rat.le_refl) (h.dn x hx Rat.le_refl)

/-- The digits that are kept. -/
theorem cut_up {neg : Bool} {n drop N : Nat} (h : n ≤ N * 2 ^ drop) : Ieee.Toward.even.cut neg n drop ≤ N := by
  unfold Ieee.Toward.cut
  simp only
  rw [Nat.one_shiftLeft]
  rcases Nat.le_total drop (n.log2 + 2) with hd | hd
  · rw [Nat.min_eq_left hd]
    have hp := Nat.two_pow_pos drop
    generalize 2 ^ drop = g at h hp ⊢
    have hdm := Nat.div_add_mod n g
    have hm := Nat.mod_lt n hp
    generalize n / g = q at hdm ⊢
    generalize n % g = r at hdm hm ⊢
    by_cases hr : r = 0
    · subst hr
      have hf : (decide (g < 2 * 0) || (g == 2 * 0 && q % 2 == 1)) = false := by simp; omega
      rw [hf]
      have : q * g ≤ N * g := by rw [Nat.mul_comm q g]; omega
      have := Nat.le_of_mul_le_mul_right this hp
      simpa using this
    · have hq : q < N := by
        rcases Nat.lt_or_ge q N with h1 | h1
        · exact h1
        · have := Nat.mul_le_mul_right g h1
          rw [Nat.mul_comm q g] at this
          omega
      have : (decide (g < 2 * r) || (g == 2 * r && q % 2 == 1)).toNat ≤ 1 := by cases (decide (g < 2 * r) || (g == 2 * r && q % 2 == 1)) <;> simp
      omega
  · rw [Nat.min_eq_right hd]
    have h1 : n < 2 ^ (n.log2 + 1) := Nat.lt_log2_self
    have h2 : 2 ^ (n.log2 + 2) = 2 * 2 ^ (n.log2 + 1) := by rw [Nat.pow_succ]; omega
    rw [Nat.div_eq_of_lt (by omega), Nat.mod_eq_of_lt (by omega)]
    have hf : (decide (2 ^ (n.log2 + 2) < 2 * n) || (2 ^ (n.log2 + 2) == 2 * n && 0 % 2 == 1)) = false := by
      have : ¬ 2 ^ (n.log2 + 2) < 2 * n := by omega
      simp [this]
    rw [hf]; simp
theorem cut_dn {neg : Bool} {n drop N : Nat} (h : N * 2 ^ drop ≤ n) : N ≤ Ieee.Toward.even.cut neg n drop := by
  unfold Ieee.Toward.cut
  simp only
  rw [Nat.one_shiftLeft]
  refine Nat.le_trans ?_ (Nat.le_add_right _ _)
  rcases Nat.le_total drop (n.log2 + 2) with hd | hd
  · rw [Nat.min_eq_left hd]
    exact (Nat.le_div_iff_mul_le (Nat.two_pow_pos _)).2 h
  · rcases Nat.eq_zero_or_pos N with rfl | hN
    · exact Nat.zero_le _
    · exfalso
      have h1 : n < 2 ^ (n.log2 + 1) := Nat.lt_log2_self
      have h2 : 2 ^ (n.log2 + 1) ≤ 2 ^ drop := Nat.pow_le_pow_right (by omega) (by omega)
      have h3 := Nat.mul_le_mul_right (2 ^ drop) hN
      omega

/-- What a word of a rung stands for. -/
theorem read64_val (neg : Bool) (q kept : Nat) (h1 : kept ≤ 9007199254740992) (h2 : q = 0 ∨ 4503599627370496 ≤ kept) (h3 : q * 4503599627370496 + kept < 9218868437227405312) :
    ∃ m e, Ieee.double.read (Ieee.double.word neg (q * 4503599627370496 + kept)) = .number neg m e ∧ (m : Rat) * tp e = (kept : Rat) * tp (-1074 + q) := by
  have e1 : Ieee.double.signWeight = 9223372036854775808 := by decide
  have e2 : Ieee.double.binade = 4503599627370496 := by decide
  have e3 : Ieee.double.infRung = 9218868437227405312 := by decide
  have e4 : Ieee.double.leastPlace = -1074 := by decide
  unfold Ieee.Format.read Ieee.Format.word
  simp only [e1, e2, e3, e4]
  generalize hr : q * 4503599627370496 + kept = r at h3
  have hm : (if neg = true then 9223372036854775808 + r else r) % 9223372036854775808 = r := by split <;> omega
  have hs : ((if neg = true then 9223372036854775808 + r else r) / 9223372036854775808 % 2 == 1) = neg := by
    cases neg
    · simp; omega
    · simp; omega
  rw [hm, hs]
  by_cases c1 : r < 4503599627370496
  · rw [if_pos c1]
    have hq : q = 0 := by omega
    subst hq
    refine ⟨_, _, rfl, ?_⟩
    have : r = kept := by omega
    rw [this]; simp
  · rw [if_neg c1, if_pos h3]
    by_cases c2 : kept = 9007199254740992
    · subst c2
      have hd : r / 4503599627370496 = q + 2 := by omega
      have hmd : r % 4503599627370496 = 0 := by omega
      refine ⟨_, _, rfl, ?_⟩
      rw [hd, hmd]
      have : (-1074 : Int) + ((q + 2 - 1 : Nat) : Int) = 1 + (-1074 + q) := by omega
      rw [this, tp_add]
      have h4 : tp 1 = 2 := Rat.zpow_one 2
      rw [h4]
      have : ((9007199254740992 : Nat) : Rat) = ((4503599627370496 + 0 : Nat) : Rat) * 2 := by decide +kernel
      rw [this]; grind
    · have hd : r / 4503599627370496 = q + 1 ∨ (q = 0 ∧ r / 4503599627370496 = 1) := by omega
      have hd : r / 4503599627370496 = q + 1 := by omega
      have hmd : 4503599627370496 + r % 4503599627370496 = kept := by omega
      refine ⟨_, _, rfl, ?_⟩
      rw [hd, hmd]
      have : (-1074 : Int) + ((q + 1 - 1 : Nat) : Int) = -1074 + q := by omega
      rw [this]
theorem read32_val (neg : Bool) (q kept : Nat) (h1 : kept ≤ 16777216) (h2 : q = 0 ∨ 8388608 ≤ kept) (h3 : q * 8388608 + kept < 2139095040) :
    ∃ m e, Ieee.single.read (Ieee.single.word neg (q * 8388608 + kept)) = .number neg m e ∧ (m : Rat) * tp e = (kept : Rat) * tp (-149 + q) := by
  have e1 : Ieee.single.signWeight = 2147483648 := by decide
  have e2 : Ieee.single.binade = 8388608 := by decide
  have e3 : Ieee.single.infRung = 2139095040 := by decide
  have e4 : Ieee.single.leastPlace = -149 := by decide
  unfold Ieee.Format.read Ieee.Format.word
  simp only [e1, e2, e3, e4]
  generalize hr : q * 8388608 + kept = r at h3
  have hm : (if neg = true then 2147483648 + r else r) % 2147483648 = r := by split <;> omega
  have hs : ((if neg = true then 2147483648 + r else r) / 2147483648 % 2 == 1) = neg := by
    cases neg
    · simp; omega
    · simp; omega
  rw [hm, hs]
  by_cases c1 : r < 8388608
  · rw [if_pos c1]
    have hq : q = 0 := by omega
    subst hq
    refine ⟨_, _, rfl, ?_⟩
    have : r = kept := by omega
    rw [this]; simp
  · rw [if_neg c1, if_pos h3]
    by_cases c2 : kept = 16777216
    · subst c2
      have hd : r / 8388608 = q + 2 := by omega
      have hmd : r % 8388608 = 0 := by omega
      refine ⟨_, _, rfl, ?_⟩
      rw [hd, hmd]
      have : (-149 : Int) + ((q + 2 - 1 : Nat) : Int) = 1 + (-149 + q) := by omega
      rw [this, tp_add]
      have h4 : tp 1 = 2 := Rat.zpow_one 2
      rw [h4]
      have : ((16777216 : Nat) : Rat) = ((8388608 + 0 : Nat) : Rat) * 2 := by decide +kernel
      rw [this]; grind
    · have hd : r / 8388608 = q + 1 := by omega
      have hmd : 8388608 + r % 8388608 = kept := by omega
      refine ⟨_, _, rfl, ?_⟩
      rw [hd, hmd]
      have : (-149 : Int) + ((q + 1 - 1 : Nat) : Int) = -149 + q := by omega
      rw [this]

theorem log2_ge {m : Nat} (h0 : m ≠ 0) : 2 ^ m.log2 ≤ m := Nat.log2_self_le h0

/-- The digits that are kept, as rounding. -/
theorem kept_RN {k : FloatKind} {neg : Bool} {m : Nat} {e last : Int} (h0 : m ≠ 0) (hl : last = max (e + (m.log2 : Int) - (fB k : Int)) (lP k))
    {kept : Nat} (hk : kept = Ieee.Toward.even.cut neg (m <<< (e - last).toNat) (last - e).toNat) (hle : kept ≤ 2 ^ (fB k + 1)) :
    RN k ((m : Rat) * tp e) ((kept : Rat) * tp last) ∧ (last = lP k ∨ 2 ^ fB k ≤ kept) := by
  have hup : ∀ N : Nat, (m : Rat) * tp e ≤ (N : Rat) * tp last → kept ≤ N := by
    intro N hN
    rw [hk]
    refine cut_up ?_
    rw [Nat.shiftLeft_eq]
    rcases Int.le_total e last with h | h
    · have h1 : (e - last).toNat = 0 := by omega
      rw [h1]
      rw [tp_shift h] at hN
      have hN' : ((m : Rat)) * tp e ≤ ((N * 2 ^ (last - e).toNat : Nat) : Rat) * tp e := by rw [Rat.natCast_mul]; grind
      have := Rat.natCast_le_natCast.1 (Rat.le_of_mul_le_mul_right hN' (tp_pos e))
      simpa using this
    · have h1 : (last - e).toNat = 0 := by omega
      rw [h1]
      rw [tp_shift h] at hN
      have hN' : ((m * 2 ^ (e - last).toNat : Nat) : Rat) * tp last ≤ (N : Rat) * tp last := by rw [Rat.natCast_mul]; grind
      have := Rat.natCast_le_natCast.1 (Rat.le_of_mul_le_mul_right hN' (tp_pos last))
      simpa using this
  have hdn : ∀ N : Nat, (N : Rat) * tp last ≤ (m : Rat) * tp e → N ≤ kept := by
    intro N hN
    rw [hk]
    refine cut_dn ?_
    rw [Nat.shiftLeft_eq]
    rcases Int.le_total e last with h | h
    · have h1 : (e - last).toNat = 0 := by omega
      rw [h1]
      rw [tp_shift h] at hN
      have hN' : ((N * 2 ^ (last - e).toNat : Nat) : Rat) * tp e ≤ ((m : Rat)) * tp e := by rw [Rat.natCast_mul]; grind
      have := Rat.natCast_le_natCast.1 (Rat.le_of_mul_le_mul_right hN' (tp_pos e))
      simpa using this
    · have h1 : (last - e).toNat = 0 := by omega
      rw [h1]
      rw [tp_shift h] at hN
      have hN' : (N : Rat) * tp last ≤ ((m * 2 ^ (e - last).toNat : Nat) : Rat) * tp last := by rw [Rat.natCast_mul]; grind
      have := Rat.natCast_le_natCast.1 (Rat.le_of_mul_le_mul_right hN' (tp_pos last))
      simpa using this
  -- x is at least 2 ^ (log2 m + e)
  have hx : tp ((m.log2 : Int) + e) ≤ (m : Rat) * tp e := by
    rw [tp_add, tp_nat]
    exact Rat.mul_le_mul_of_nonneg_right (Rat.natCast_le_natCast.2 (log2_ge h0)) (Rat.le_of_lt (tp_pos e))
  have hge : last = lP k ∨ 2 ^ fB k ≤ kept := by
    by_cases h : last = lP k
    · exact .inl h
    · right
      refine hdn _ ?_
      rw [← tp_nat, ← tp_add]
      have : ((fB k : Nat) : Int) + last = (m.log2 : Int) + e := by omega
      rw [this]; exact hx
  refine ⟨⟨fun V hV hxV => ?_, fun V hV hVx => ?_, ⟨kept, last, by simpa using hle, by omega, by rw [Rat.intCast_natCast]⟩⟩, hge⟩
  · obtain ⟨n, g, hn, hg, rfl⟩ := hV
    have hpos : 0 < (m : Rat) * tp e := rlt_le (tp_pos _) hx
    have hn0 : 0 < n := by
      have := rlt_le hpos hxV
      rcases Int.lt_or_le 0 n with h | h
      · exact h
      · exfalso
        have h1 : (n : Rat) ≤ 0 := Rat.intCast_nonpos.2 h
        have h2 := Rat.mul_le_mul_of_nonneg_right h1 (Rat.le_of_lt (tp_pos g))
        rw [Rat.zero_mul] at h2
        exact Rat.lt_irrefl (rlt_le this h2)
    obtain ⟨N, rfl⟩ := Int.eq_ofNat_of_zero_le (Int.le_of_lt hn0)
    rw [Rat.intCast_natCast] at hxV ⊢
    rcases Int.le_total last g with h | h
    · rw [tp_shift h] at hxV ⊢
      rw [← Rat.mul_assoc, ← Rat.natCast_mul] at hxV ⊢
      exact Rat.mul_le_mul_of_nonneg_right (Rat.natCast_le_natCast.2 (hup _ hxV)) (Rat.le_of_lt (tp_pos last))
    · rcases Int.lt_or_eq_of_le h with h | rfl
      · have hl2 : ((fB k : Nat) : Int) + last = (m.log2 : Int) + e := by omega
        have hVle : (N : Rat) * tp g ≤ tp (((fB k : Nat) : Int) + last) := by
          have h1 : (N : Rat) ≤ ((2 ^ (fB k + 1) : Nat) : Rat) := Rat.natCast_le_natCast.2 (by simpa using hn)
          have h2 := Rat.mul_le_mul_of_nonneg_right h1 (Rat.le_of_lt (tp_pos g))
          rw [← tp_nat, ← tp_add] at h2
          exact Rat.le_trans h2 (tp_mono (by omega))
        have hxe : (m : Rat) * tp e = tp (((fB k : Nat) : Int) + last) := Rat.le_antisymm (Rat.le_trans hxV hVle) (by rw [hl2]; exact hx)
        have hk1 : kept ≤ 2 ^ fB k := hup _ (by rw [hxe, tp_add, tp_nat]; exact Rat.le_refl)
        have h3 : (kept : Rat) * tp last ≤ tp (((fB k : Nat) : Int) + last) := by
          rw [tp_add, tp_nat]
          exact Rat.mul_le_mul_of_nonneg_right (Rat.natCast_le_natCast.2 hk1) (Rat.le_of_lt (tp_pos last))
        exact Rat.le_trans h3 (by rw [← hxe]; exact hxV)
      · exact Rat.mul_le_mul_of_nonneg_right (Rat.natCast_le_natCast.2 (hup _ hxV)) (Rat.le_of_lt (tp_pos g))
  · obtain ⟨n, g, hn, hg, rfl⟩ := hV
    rcases Int.lt_or_le 0 n with hn0 | hn0
    · obtain ⟨N, rfl⟩ := Int.eq_ofNat_of_zero_le (Int.le_of_lt hn0)
      rw [Rat.intCast_natCast] at hVx ⊢
      rcases Int.le_total last g with h | h
      · rw [tp_shift h] at hVx ⊢
        rw [← Rat.mul_assoc, ← Rat.natCast_mul] at hVx ⊢
        exact Rat.mul_le_mul_of_nonneg_right (Rat.natCast_le_natCast.2 (hdn _ hVx)) (Rat.le_of_lt (tp_pos last))
      · rcases Int.lt_or_eq_of_le h with h | rfl
        · rcases hge with h4 | h4
          · omega
          · have h1 : (N : Rat) ≤ ((2 ^ (fB k + 1) : Nat) : Rat) := Rat.natCast_le_natCast.2 (by simpa using hn)
            have h2 := Rat.mul_le_mul_of_nonneg_right h1 (Rat.le_of_lt (tp_pos g))
            rw [← tp_nat, ← tp_add] at h2
            have h3 : tp (((fB k : Nat) : Int) + last) ≤ (kept : Rat) * tp last := by
              rw [tp_add, tp_nat]
              exact Rat.mul_le_mul_of_nonneg_right (Rat.natCast_le_natCast.2 h4) (Rat.le_of_lt (tp_pos last))
            exact Rat.le_trans h2 (Rat.le_trans (tp_mono (by omega)) h3)
        · exact Rat.mul_le_mul_of_nonneg_right (Rat.natCast_le_natCast.2 (hdn _ hVx)) (Rat.le_of_lt (tp_pos g))
    · have h1 : (n : Rat) ≤ 0 := Rat.intCast_nonpos.2 hn0
      have h2 := Rat.mul_le_mul_of_nonneg_right h1 (Rat.le_of_lt (tp_pos g))
      rw [Rat.zero_mul] at h2
      exact Rat.le_trans h2 (Rat.mul_nonneg Rat.natCast_nonneg (Rat.le_of_lt (tp_pos last)))

/-- A number of a bounded greatness is written as what it is rounded to. -/
theorem enc64_RN {s : Bool} {m : Nat} {e : Int} (h : mag (.number s m e) 1022) : ∃ m' e', FloatKind.f64.decode (FloatKind.f64.encode (.number s m e)) = .number s m' e' ∧ RN .f64 ((m : Rat) * tp e) ((m' : Rat) * tp e') := by
  show ∃ m' e', Ieee.double.read (Ieee.double.nearest s m e) = .number s m' e' ∧ _
  unfold Ieee.Format.nearest
  split
  · rename_i h0
    obtain ⟨m', e', h1, h2⟩ := read64_val s 0 0 (by omega) (.inl rfl) (by omega)
    refine ⟨m', e', h1, ?_⟩
    rw [h2, h0]
    rw [show ((0 : Nat) : Rat) = 0 from rfl, Rat.zero_mul, Rat.zero_mul]
    exact ⟨fun V _ h => h, fun V _ h => h, ⟨0, -1074, by simp, by decide, by simp [Rat.zero_mul]⟩⟩
  · rename_i h0
    have hb : (m.log2 : Int) + e ≤ 1022 := by rcases h with h | h; exact absurd h h0; exact h
    have e4 : Ieee.double.leastPlace = -1074 := by decide
    have e5 : Ieee.double.fractionBits = 52 := rfl
    have e2 : Ieee.double.binade = 4503599627370496 := by decide
    have e3 : Ieee.double.infRung = 9218868437227405312 := by decide
    have hr := rung_le Ieee.double s m e h0
    obtain ⟨hRN, hge⟩ := kept_RN (k := .f64) (neg := s) (e := e) h0 rfl rfl hr
    have e6 : lP .f64 = -1074 := by decide
    have e7 : fB .f64 = 52 := rfl
    rw [e6, e7] at hRN hge
    simp only [e4, e5, e2, e3] at hr ⊢
    generalize hl : max (e + (m.log2 : Int) - ((52 : Nat) : Int)) (-1074) = last at hr hRN hge ⊢
    generalize Ieee.Toward.even.cut s (m <<< (e - last).toNat) (last - e).toNat = kept at hr hRN hge ⊢
    have hr' : kept ≤ 9007199254740992 := hr
    have h5 : (last - -1074).toNat ≤ 2044 := by omega
    rw [Nat.min_eq_left (by omega)]
    obtain ⟨m', e', h1, h2⟩ := read64_val s (last - -1074).toNat kept hr' (by rcases hge with h | h; left; omega; right; simpa using h) (by omega)
    refine ⟨m', e', h1, ?_⟩
    rw [h2]
    have : (-1074 : Int) + ((last - -1074).toNat : Int) = last := by omega
    rw [this]; exact hRN
theorem enc32_RN {s : Bool} {m : Nat} {e : Int} (h : mag (.number s m e) 126) : ∃ m' e', FloatKind.f32.decode (FloatKind.f32.encode (.number s m e)) = .number s m' e' ∧ RN .f32 ((m : Rat) * tp e) ((m' : Rat) * tp e') := by
  show ∃ m' e', Ieee.single.read (Ieee.single.nearest s m e) = .number s m' e' ∧ _
  unfold Ieee.Format.nearest
  split
  · rename_i h0
    obtain ⟨m', e', h1, h2⟩ := read32_val s 0 0 (by omega) (.inl rfl) (by omega)
    refine ⟨m', e', h1, ?_⟩
    rw [h2, h0]
    rw [show ((0 : Nat) : Rat) = 0 from rfl, Rat.zero_mul, Rat.zero_mul]
    exact ⟨fun V _ h => h, fun V _ h => h, ⟨0, -149, by simp, by decide, by simp [Rat.zero_mul]⟩⟩
  · rename_i h0
    have hb : (m.log2 : Int) + e ≤ 126 := by rcases h with h | h; exact absurd h h0; exact h
    have e4 : Ieee.single.leastPlace = -149 := by decide
    have e5 : Ieee.single.fractionBits = 23 := rfl
    have e2 : Ieee.single.binade = 8388608 := by decide
    have e3 : Ieee.single.infRung = 2139095040 := by decide
    have hr := rung_le Ieee.single s m e h0
    obtain ⟨hRN, hge⟩ := kept_RN (k := .f32) (neg := s) (e := e) h0 rfl rfl hr
    have e6 : lP .f32 = -149 := by decide
    have e7 : fB .f32 = 23 := rfl
    rw [e6, e7] at hRN hge
    simp only [e4, e5, e2, e3] at hr ⊢
    generalize hl : max (e + (m.log2 : Int) - ((23 : Nat) : Int)) (-149) = last at hr hRN hge ⊢
    generalize Ieee.Toward.even.cut s (m <<< (e - last).toNat) (last - e).toNat = kept at hr hRN hge ⊢
    have hr' : kept ≤ 16777216 := hr
    have h5 : (last - -149).toNat ≤ 252 := by omega
    rw [Nat.min_eq_left (by omega)]
    obtain ⟨m', e', h1, h2⟩ := read32_val s (last - -149).toNat kept hr' (by rcases hge with h | h; left; omega; right; simpa using h) (by omega)
    refine ⟨m', e', h1, ?_⟩
    rw [h2]
    have : (-149 : Int) + ((last - -149).toNat : Int) = last := by omega
    rw [this]; exact hRN

end Go.Proofs.YtncbkbfkdgggkaaDoor

namespace Go.Proofs.YtncbkbfkdgggkaaDoor
open Go.RowKit

/-- Below this a sum or a product fits. -/
def tB : FloatKind → Int | .f32 => 127 | .f64 => 1023
def inT (k : FloatKind) (x : Rat) : Prop := - tp (tB k) < x ∧ x < tp (tB k)

theorem tp_lt {a b : Int} (h : a < b) : tp a < tp b := by
  have h1 : b = (b - a - 1) + 1 + a := by omega
  rw [h1, tp_add, tp_add]
  have h2 := tp_one_le (a := b - a - 1) (by omega)
  have h3 : tp 1 = 2 := Rat.zpow_one 2
  rw [h3]
  have h4 := tp_pos a
  have h5 := Rat.mul_le_mul_of_nonneg_right h2 (Rat.le_of_lt h4)
  generalize tp (b - a - 1) = Y at *
  have h6 : Y * 2 * tp a = Y * tp a + Y * tp a := by grind
  rw [h6]
  generalize Y * tp a = X at *
  grind
theorem lt_of_tp {a b : Int} (h : tp a < tp b) : a < b := by
  rcases Int.lt_or_le a b with h1 | h1
  · exact h1
  · exact absurd (rlt_le h (tp_mono h1)) (Rat.lt_irrefl)
theorem mag_of_val {m : Nat} {e B : Int} {s : Bool} (h : (m : Rat) * tp e < tp (B + 1)) : mag (.number s m e) B := by
  by_cases h0 : m = 0
  · exact .inl h0
  · right
    have hx : tp ((m.log2 : Int) + e) ≤ (m : Rat) * tp e := by
      rw [tp_add, tp_nat]
      exact Rat.mul_le_mul_of_nonneg_right (Rat.natCast_le_natCast.2 (log2_ge h0)) (Rat.le_of_lt (tp_pos e))
    have := lt_of_tp (show tp ((m.log2 : Int) + e) < tp (B + 1) by grind)
    omega

theorem nn (m : Nat) (e : Int) : 0 ≤ (m : Rat) * tp e := Rat.mul_nonneg Rat.natCast_nonneg (Rat.le_of_lt (tp_pos e))
theorem sg_cases (s : Bool) (x : Rat) : (s = false ∧ sg s * x = x) ∨ (s = true ∧ sg s * x = -x) := by
  cases s
  · left; exact ⟨rfl, by simp only [sg, Bool.false_eq_true, if_false, Rat.one_mul]⟩
  · right; exact ⟨rfl, by simp only [sg, if_true]; grind⟩
theorem inT_abs {k : FloatKind} {s : Bool} {x : Rat} (h : inT k (sg s * x)) : x < tp (tB k) := by
  obtain ⟨h1, h2⟩ := h
  rcases sg_cases s x with ⟨_, e⟩ | ⟨_, e⟩ <;> rw [e] at h1 h2 <;> grind

/-- A number is written as what it is rounded to. -/
theorem write_RN {k : FloatKind} {s : Bool} {m : Nat} {e : Int} (h : inT k (valD (.number s m e))) : isN k (k.format.write (.number s m e)) ∧ RN k (valD (.number s m e)) (val k (k.format.write (.number s m e))) := by
  have h1 := inT_abs h
  cases k with
  | f32 =>
    obtain ⟨m', e', hd, hr⟩ := enc32_RN (s := s) (mag_of_val (B := 126) h1)
    refine ⟨⟨_, _, _, hd⟩, ?_⟩
    unfold val
    have hd' : FloatKind.f32.decode (FloatKind.f32.format.write (.number s m e)) = .number s m' e' := hd
    rw [hd']
    exact hr.sgn s
  | f64 =>
    obtain ⟨m', e', hd, hr⟩ := enc64_RN (s := s) (mag_of_val (B := 1022) h1)
    refine ⟨⟨_, _, _, hd⟩, ?_⟩
    unfold val
    have hd' : FloatKind.f64.decode (FloatKind.f64.format.write (.number s m e)) = .number s m' e' := hd
    rw [hd']
    exact hr.sgn s

theorem signed_val (s : Bool) (m u : Nat) : ((Ieee.signed s m u : Int) : Rat) = sg s * ((m : Rat) * ((2 ^ u : Nat) : Rat)) := by
  unfold Ieee.signed
  rw [Nat.shiftLeft_eq]
  cases s
  · simp only [Bool.false_eq_true, if_false, sg, Rat.one_mul]
    rw [Rat.intCast_natCast, Rat.natCast_mul]
  · simp only [if_true, sg]
    rw [Rat.intCast_neg, Rat.intCast_natCast, Rat.natCast_mul]
    grind
theorem sg_natAbs (t : Int) (b : Bool) (h : b = (if t = 0 then b else decide (t < 0))) : sg b * ((t.natAbs : Nat) : Rat) = (t : Rat) := by
  by_cases h0 : t = 0
  · subst h0; simp
  · rw [if_neg h0] at h
    rcases Int.lt_or_lt_of_ne h0 with hn | hp
    · rw [h, decide_eq_true hn]
      simp only [sg, if_true]
      have : (t.natAbs : Int) = -t := by omega
      rw [← Rat.intCast_natCast, this, Rat.intCast_neg]; grind
    · rw [h, decide_eq_false (by omega)]
      simp only [sg, Bool.false_eq_true, if_false, Rat.one_mul]
      have : (t.natAbs : Int) = t := by omega
      rw [← Rat.intCast_natCast, this]
theorem sum_val {s t : Bool} {m n : Nat} {i j : Int} : ∃ b c e, (Ieee.Datum.number s m i).sum (.number t n j) = some (.number b c e) ∧ valD (.number b c e) = valD (.number s m i) + valD (.number t n j) := by
  refine ⟨_, _, _, rfl, ?_⟩
  generalize hb : min i j = base
  generalize hT : Ieee.signed s m (i - base).toNat + Ieee.signed t n (j - base).toNat = total
  show sg (if total = 0 then s && t else decide (total < 0)) * (((total.natAbs : Nat) : Rat) * tp base) = sg s * ((m : Rat) * tp i) + sg t * ((n : Rat) * tp j)
  rw [← Rat.mul_assoc, sg_natAbs total _ (by split <;> rfl), ← hT, Rat.intCast_add, signed_val, signed_val]
  rw [tp_shift (a := i) (b := base) (by omega), tp_shift (a := j) (b := base) (by omega)]
  grind
theorem opp_val {d : Ieee.Datum} : valD d.opposite = - valD d := by
  cases d with
  | number s m e =>
    show sg (!s) * _ = -(sg s * _)
    cases s
    · simp only [Bool.not_false, sg, if_true, Bool.false_eq_true, if_false]; grind
    · simp only [Bool.not_true, sg, if_true, Bool.false_eq_true, if_false]; grind
  | infinity s => show (0 : Rat) = -0; grind
  | nan s t => show (0 : Rat) = -0; grind
theorem sg_xor (s t : Bool) : sg (s ^^ t) = sg s * sg t := by cases s <;> cases t <;> decide +kernel

theorem dec_fmt (k : FloatKind) (b : Nat) : k.format.read b = k.decode b := by cases k <;> rfl
theorem add_RN {k : FloatKind} {a b : Nat} (ha : isN k a) (hb : isN k b) (h : inT k (val k a + val k b)) : ∃ r, fbin .add k (some a) (some b) = some r ∧ isN k r ∧ RN k (val k a + val k b) (val k r) := by
  obtain ⟨s, m, i, ha⟩ := ha
  obtain ⟨t, n, j, hb⟩ := hb
  obtain ⟨u, c, e, hs, hv⟩ := sum_val (s := s) (t := t) (m := m) (n := n) (i := i) (j := j)
  unfold val at h ⊢
  rw [ha, hb, ← hv] at h
  rw [ha, hb, ← hv]
  obtain ⟨h1, h2⟩ := write_RN h
  refine ⟨_, ?_, h1, h2⟩
  show floatBits .add k a b = _
  unfold floatBits Ieee.Format.add
  simp only [dec_fmt, ha, hb, hs, Option.map_some]
theorem sub_RN {k : FloatKind} {a b : Nat} (ha : isN k a) (hb : isN k b) (h : inT k (val k a - val k b)) : ∃ r, fbin .sub k (some a) (some b) = some r ∧ isN k r ∧ RN k (val k a - val k b) (val k r) := by
  obtain ⟨s, m, i, ha⟩ := ha
  obtain ⟨t, n, j, hb⟩ := hb
  obtain ⟨u, c, e, hs, hv⟩ := sum_val (s := s) (t := !t) (m := m) (n := n) (i := i) (j := j)
  have ho : valD (.number (!t) n j) = - valD (.number t n j) := opp_val (d := .number t n j)
  have hv : valD (.number u c e) = valD (.number s m i) - valD (.number t n j) := by rw [hv, ho, Rat.sub_eq_add_neg]
  unfold val at h ⊢
  rw [ha, hb, ← hv] at h
  rw [ha, hb, ← hv]
  obtain ⟨h1, h2⟩ := write_RN h
  refine ⟨_, ?_, h1, h2⟩
  show floatBits .sub k a b = _
  unfold floatBits Ieee.Format.sub
  simp only [dec_fmt, ha, hb]
  show (((Ieee.Datum.number s m i).sum (.number (!t) n j)).map _) = _
  rw [hs]; rfl
theorem mul_RN {k : FloatKind} {a b : Nat} (ha : isN k a) (hb : isN k b) (h : inT k (val k a * val k b)) : ∃ r, fbin .mul k (some a) (some b) = some r ∧ isN k r ∧ RN k (val k a * val k b) (val k r) := by
  obtain ⟨s, m, i, ha⟩ := ha
  obtain ⟨t, n, j, hb⟩ := hb
  have hv : valD (.number (s ^^ t) (m * n) (i + j)) = valD (.number s m i) * valD (.number t n j) := by
    show sg (s ^^ t) * (((m * n : Nat) : Rat) * tp (i + j)) = (sg s * ((m : Rat) * tp i)) * (sg t * ((n : Rat) * tp j))
    rw [sg_xor, tp_add, Rat.natCast_mul]; grind
  unfold val at h ⊢
  rw [ha, hb, ← hv] at h
  rw [ha, hb, ← hv]
  obtain ⟨h1, h2⟩ := write_RN h
  refine ⟨_, ?_, h1, h2⟩
  show floatBits .mul k a b = _
  unfold floatBits Ieee.Format.mul
  simp only [dec_fmt, ha, hb]
  rfl

theorem Rep.shrink {k : FloatKind} {n : Int} {g : Int} (h : n.natAbs ≤ 2 ^ (fB k + 1)) (hg : lP k ≤ g) : Rep k ((n : Rat) * tp g) := ⟨n, g, h, hg, rfl⟩

/-- What is told of the quotient is enough to round it. -/
theorem sticky {k : FloatKind} {M n q st : Nat} {u : Int} {V : Rat} (hn : 0 < n) (hq : q = M / n) (hst : st = (M % n != 0).toNat) (hbig : 2 ^ (fB k + 1) < 2 * q) (hV : Rep k V) :
    ((M : Rat) * tp (u + 1) ≤ V * (n : Rat) → ((2 * q + st : Nat) : Rat) * tp u ≤ V) ∧ (V * (n : Rat) ≤ (M : Rat) * tp (u + 1) → V ≤ ((2 * q + st : Nat) : Rat) * tp u) := by
  obtain ⟨N, g, hN, hg0, rfl⟩ := hV
  subst hst
  have hdm := Nat.div_add_mod M n
  have hml := Nat.mod_lt M hn
  rw [← hq] at hdm
  generalize M % n = r at hdm hml ⊢
  have hst1 : (r != 0).toNat ≤ 1 := by cases (r != 0) <;> simp
  have h2t : tp (u + 1) = 2 * tp u := by rw [tp_add, show tp 1 = 2 from Rat.zpow_one 2]; grind
  have hTp := tp_pos u
  rcases Int.le_total (u + 1) g with hg | hg
  · have e1 : (N : Rat) * tp g = ((N * (2 ^ (g - (u + 1)).toNat : Nat) : Int) : Rat) * tp (u + 1) := by
      rw [tp_shift hg, Rat.intCast_mul, Rat.intCast_natCast, Rat.mul_assoc]
    rw [e1]
    generalize N * ((2 ^ (g - (u + 1)).toNat : Nat) : Int) = V
    have hV1 : ((V : Rat) * tp (u + 1)) * (n : Rat) = ((V * (n : Int) : Int) : Rat) * tp (u + 1) := by
      rw [Rat.intCast_mul, Rat.intCast_natCast]; grind
    have hM1 : (M : Rat) * tp (u + 1) = (((M : Int)) : Rat) * tp (u + 1) := by rw [Rat.intCast_natCast]
    have hD1 : ((2 * q + (r != 0).toNat : Nat) : Rat) * tp u = (((2 * q + (r != 0).toNat : Nat) : Int) : Rat) * tp u := by rw [Rat.intCast_natCast]
    have hV2 : (V : Rat) * tp (u + 1) = ((2 * V : Int) : Rat) * tp u := by rw [h2t, Rat.intCast_mul]; grind
    rw [hV1, hM1, hV2, hD1]
    refine ⟨fun h => ?_, fun h => ?_⟩
    · have h1 := Rat.intCast_le_intCast.1 (Rat.le_of_mul_le_mul_right h (tp_pos (u + 1)))
      refine Rat.mul_le_mul_of_nonneg_right (Rat.intCast_le_intCast.2 ?_) (Rat.le_of_lt hTp)
      have hq1 : (q : Int) ≤ V := by
        rcases Int.lt_or_le V q with h5 | h5
        · exfalso
          have h6 : (V + 1) * (n : Int) ≤ (q : Int) * n := Int.mul_le_mul_of_nonneg_right h5 (by omega)
          have h7 : ((n * q : Nat) : Int) = (q : Int) * n := by push_cast; rw [Int.mul_comm]
          rw [Int.add_mul, Int.one_mul] at h6
          omega
        · exact h5
      rcases Int.lt_or_eq_of_le hq1 with h5 | h5
      · omega
      · have : r = 0 := by
          have h7 : ((n * q : Nat) : Int) = V * n := by push_cast; rw [Int.mul_comm, h5]
          omega
        subst this
        simp; omega
    · have h1 := Rat.intCast_le_intCast.1 (Rat.le_of_mul_le_mul_right h (tp_pos (u + 1)))
      refine Rat.mul_le_mul_of_nonneg_right (Rat.intCast_le_intCast.2 ?_) (Rat.le_of_lt hTp)
      have hq1 : V ≤ (q : Int) := by
        rcases Int.lt_or_le (q : Int) V with h5 | h5
        · exfalso
          have h6 : ((q : Int) + 1) * (n : Int) ≤ V * n := Int.mul_le_mul_of_nonneg_right h5 (by omega)
          have h7 : ((n * q : Nat) : Int) = (q : Int) * n := by push_cast; rw [Int.mul_comm]
          rw [Int.add_mul, Int.one_mul] at h6
          omega
        · exact h5
      omega
  · have hgu : g ≤ u ∨ g = u + 1 := by omega
    have hg : g ≤ u + 1 := hg
    -- the bound lies below
    have hlow : ∀ g, g ≤ u → (N : Rat) * tp g < ((2 * q : Nat) : Rat) * tp u := by
      intro g hg
      have h1 : (N : Rat) ≤ ((N.natAbs : Nat) : Rat) := by rw [← Rat.intCast_natCast]; exact Rat.intCast_le_intCast.2 (by omega)
      have h2 := Rat.mul_le_mul_of_nonneg_right h1 (Rat.le_of_lt (tp_pos g))
      have h3 := Rat.mul_le_mul_of_nonneg_left (tp_mono hg) (Rat.natCast_nonneg (a := N.natAbs))
      have h4 : ((N.natAbs : Nat) : Rat) < ((2 * q : Nat) : Rat) := Rat.natCast_lt_natCast.2 (by omega)
      have h5 := Rat.mul_lt_mul_of_pos_right h4 hTp
      generalize (N : Rat) * tp g = A at *
      generalize ((N.natAbs : Nat) : Rat) * tp g = B at *
      generalize ((N.natAbs : Nat) : Rat) * tp u = C at *
      grind
    have hDle : ((2 * q : Nat) : Rat) * tp u ≤ ((2 * q + (r != 0).toNat : Nat) : Rat) * tp u := Rat.mul_le_mul_of_nonneg_right (Rat.natCast_le_natCast.2 (by omega)) (Rat.le_of_lt hTp)
    rcases hgu with hgu | rfl
    · have hl := hlow g hgu
      refine ⟨fun h => ?_, fun _ => by grind⟩
      exfalso
      have h1 : (((2 * q : Nat) : Rat) * tp u) * (n : Rat) ≤ (M : Rat) * tp (u + 1) := by
        have h2 : ((2 * q : Nat) : Rat) * tp u * (n : Rat) = ((q * n : Nat) : Rat) * tp (u + 1) := by
          rw [h2t, Rat.natCast_mul, Rat.natCast_mul]
          have : ((2 : Nat) : Rat) = 2 := rfl
          rw [this]; grind
        rw [h2]
        refine Rat.mul_le_mul_of_nonneg_right (Rat.natCast_le_natCast.2 ?_) (Rat.le_of_lt (tp_pos _))
        rw [Nat.mul_comm]; omega
      have h3 := Rat.mul_lt_mul_of_pos_right hl (Rat.natCast_pos.2 hn)
      generalize (N : Rat) * tp g * (n : Rat) = A at *
      grind
    · -- g = u + 1: as above
      have e1 : (N : Rat) * tp (u + 1) = (N : Rat) * tp (u + 1) := rfl
      have hV1 : ((N : Rat) * tp (u + 1)) * (n : Rat) = ((N * (n : Int) : Int) : Rat) * tp (u + 1) := by
        rw [Rat.intCast_mul, Rat.intCast_natCast]; grind
      have hM1 : (M : Rat) * tp (u + 1) = (((M : Int)) : Rat) * tp (u + 1) := by rw [Rat.intCast_natCast]
      have hV2 : (N : Rat) * tp (u + 1) = ((2 * N : Int) : Rat) * tp u := by rw [h2t, Rat.intCast_mul]; grind
      have hD1 : ((2 * q + (r != 0).toNat : Nat) : Rat) * tp u = (((2 * q + (r != 0).toNat : Nat) : Int) : Rat) * tp u := by rw [Rat.intCast_natCast]
      rw [hV1, hM1, hV2, hD1]
      refine ⟨fun h => ?_, fun h => ?_⟩
      · have h1 := Rat.intCast_le_intCast.1 (Rat.le_of_mul_le_mul_right h (tp_pos (u + 1)))
        refine Rat.mul_le_mul_of_nonneg_right (Rat.intCast_le_intCast.2 ?_) (Rat.le_of_lt hTp)
        have hq1 : (q : Int) ≤ N := by
          rcases Int.lt_or_le N q with h5 | h5
          · exfalso
            have h6 : (N + 1) * (n : Int) ≤ (q : Int) * n := Int.mul_le_mul_of_nonneg_right h5 (by omega)
            have h7 : ((n * q : Nat) : Int) = (q : Int) * n := by push_cast; rw [Int.mul_comm]
            rw [Int.add_mul, Int.one_mul] at h6
            omega
          · exact h5
        rcases Int.lt_or_eq_of_le hq1 with h5 | h5
        · omega
        · have : r = 0 := by
            have h7 : ((n * q : Nat) : Int) = N * n := by push_cast; rw [Int.mul_comm, h5]
            omega
          subst this
          simp; omega
      · have h1 := Rat.intCast_le_intCast.1 (Rat.le_of_mul_le_mul_right h (tp_pos (u + 1)))
        refine Rat.mul_le_mul_of_nonneg_right (Rat.intCast_le_intCast.2 ?_) (Rat.le_of_lt hTp)
        have hq1 : N ≤ (q : Int) := by
          rcases Int.lt_or_le (q : Int) N with h5 | h5
          · exfalso
            have h6 : ((q : Int) + 1) * (n : Int) ≤ N * n := Int.mul_le_mul_of_nonneg_right h5 (by omega)
            have h7 : ((n * q : Nat) : Int) = (q : Int) * n := by push_cast; rw [Int.mul_comm]
            rw [Int.add_mul, Int.one_mul] at h6
            omega
          · exact h5
        omega

theorem quot_big {m n d : Nat} (h0 : m ≠ 0) (hn : 0 < n) : 2 ^ d ≤ m * 2 ^ (d + 1 + n.log2 - m.log2) / n := by
  rw [Nat.le_div_iff_mul_le hn]
  have h1 : n < 2 ^ (n.log2 + 1) := Nat.lt_log2_self
  have h2 : 2 ^ m.log2 ≤ m := log2_ge h0
  calc 2 ^ d * n ≤ 2 ^ d * 2 ^ (n.log2 + 1) := Nat.mul_le_mul_left _ (by omega)
    _ = 2 ^ (d + (n.log2 + 1)) := by rw [← Nat.pow_add]
    _ ≤ 2 ^ (m.log2 + (d + 1 + n.log2 - m.log2)) := Nat.pow_le_pow_right (by omega) (by omega)
    _ = 2 ^ m.log2 * 2 ^ (d + 1 + n.log2 - m.log2) := by rw [← Nat.pow_add]
    _ ≤ m * 2 ^ (d + 1 + n.log2 - m.log2) := Nat.mul_le_mul_right _ h2

theorem rep_zero (k : FloatKind) : Rep k 0 := ⟨0, lP k, by simp, Int.le_refl _, by rw [show ((0 : Int) : Rat) = 0 from rfl, Rat.zero_mul]⟩

theorem RN.of_between {k : FloatKind} {X D y : Rat} {s : Bool} (h : ∀ V, Rep k V → (X ≤ V → D ≤ V) ∧ (V ≤ X → V ≤ D)) (hr : RN k (sg s * D) y) : RN k (sg s * X) y := by
  refine ⟨fun V hV hx => hr.up V hV ?_, fun V hV hx => hr.dn V hV ?_, hr.rep⟩
  · rcases sg_cases s X with ⟨hs, e⟩ | ⟨hs, e⟩
    · subst hs
      rw [e] at hx
      simp only [sg, Bool.false_eq_true, if_false, Rat.one_mul]
      exact (h V hV).1 hx
    · subst hs
      rw [e] at hx
      have := (h (-V) hV.neg).2 (by grind)
      simp only [sg, if_true]; grind
  · rcases sg_cases s X with ⟨hs, e⟩ | ⟨hs, e⟩
    · subst hs
      rw [e] at hx
      simp only [sg, Bool.false_eq_true, if_false, Rat.one_mul]
      exact (h V hV).2 hx
    · subst hs
      rw [e] at hx
      have := (h (-V) hV.neg).1 (by grind)
      simp only [sg, if_true]; grind
theorem sg_sq (s : Bool) : sg s * sg s = 1 := by cases s <;> decide +kernel
theorem sg_ne (s : Bool) : sg s ≠ 0 := by cases s <;> decide +kernel

/-- The quotient, rounded: x is the number with x * b = a. -/
theorem quo_RN {k : FloatKind} {a b : Nat} {x : Rat} (ha : isN k a) (hb : isN k b) (hb0 : val k b ≠ 0) (hx : x * val k b = val k a) (h : inT k (x + x)) : ∃ r, fbin .quo k (some a) (some b) = some r ∧ isN k r ∧ RN k x (val k r) := by
  obtain ⟨s, m, i, ha⟩ := ha
  obtain ⟨t, n, j, hb⟩ := hb
  unfold val at hb0 hx
  rw [hb] at hb0 hx
  rw [ha] at hx
  have hx : x * (sg t * ((n : Rat) * tp j)) = sg s * ((m : Rat) * tp i) := hx
  have hn0 : n ≠ 0 := by
    rintro rfl
    apply hb0
    show sg t * (((0 : Nat) : Rat) * tp j) = 0
    rw [show ((0 : Nat) : Rat) = 0 from rfl, Rat.zero_mul, Rat.mul_zero]
  have hn : 0 < n := Nat.pos_of_ne_zero hn0
  have e0 : fbin .quo k (some a) (some b) = ((Ieee.Datum.number s m i).quotient (fB k + 2) (.number t n j)).map k.format.write := by
    show floatBits .quo k a b = _
    unfold floatBits Ieee.Format.div
    simp only [dec_fmt, ha, hb]
    rfl
  rw [e0]
  unfold Ieee.Datum.quotient
  simp only [if_neg hn0, Option.map_some]
  generalize hmore : fB k + 2 + n.log2 - m.log2 = more
  generalize hM : m <<< more = M
  have hM' : M = m * 2 ^ more := by rw [← hM, Nat.shiftLeft_eq]
  generalize hu : i - j - (more : Int) - 1 = u
  -- the quotient without its sign
  obtain ⟨X, hX⟩ : ∃ X, X = sg (s ^^ t) * x := ⟨_, rfl⟩
  have hxX : x = sg (s ^^ t) * X := by rw [hX, ← Rat.mul_assoc, sg_sq, Rat.one_mul]
  have hXn : X * (n : Rat) = (M : Rat) * tp (u + 1) := by
    have h1 : tp (u + 1) * ((2 ^ more : Nat) : Rat) * tp j = tp i := by
      rw [← tp_nat, ← tp_add, ← tp_add]; congr 1; omega
    have h2 : X * (n : Rat) * tp j = (m : Rat) * tp i := by
      rw [hX, sg_xor]
      have h3 := sg_sq s
      have h4 : sg s * (x * (sg t * ((n : Rat) * tp j))) = sg s * (sg s * ((m : Rat) * tp i)) := by rw [hx]
      rw [← Rat.mul_assoc (sg s) (sg s), h3, Rat.one_mul] at h4
      rw [← h4]; grind
    have h5 : (M : Rat) * tp (u + 1) * tp j = (m : Rat) * tp i := by rw [← h1, hM', Rat.natCast_mul]; grind
    have h6 : X * (n : Rat) * tp j = (M : Rat) * tp (u + 1) * tp j := by rw [h2, h5]
    have h7 := tp_pos j
    exact Rat.le_antisymm (Rat.le_of_mul_le_mul_right (by rw [h6]; exact Rat.le_refl) h7) (Rat.le_of_mul_le_mul_right (by rw [h6]; exact Rat.le_refl) h7)
  have hnp : (0 : Rat) < (n : Rat) := Rat.natCast_pos.2 hn
  by_cases hm0 : m = 0
  · have hM0 : M = 0 := by rw [hM', hm0, Nat.zero_mul]
    rw [hM0]
    have hX0 : X = 0 := by
      rw [hM0, show ((0 : Nat) : Rat) = 0 from rfl, Rat.zero_mul] at hXn
      have : X * (n : Rat) = 0 * (n : Rat) := by rw [hXn, Rat.zero_mul]
      exact Rat.le_antisymm (Rat.le_of_mul_le_mul_right (by rw [this]; exact Rat.le_refl) hnp) (Rat.le_of_mul_le_mul_right (by rw [this]; exact Rat.le_refl) hnp)
    have hx0 : x = 0 := by rw [hxX, hX0, Rat.mul_zero]
    have hv : valD (.number (s ^^ t) (2 * (0 / n) + (0 % n != 0).toNat) u) = 0 := by
      have e : 2 * (0 / n) + (0 % n != 0).toNat = 0 := by simp
      rw [e]
      show sg (s ^^ t) * (((0 : Nat) : Rat) * tp u) = 0
      rw [show ((0 : Nat) : Rat) = 0 from rfl, Rat.zero_mul, Rat.mul_zero]
    have hin : inT k (valD (.number (s ^^ t) (2 * (0 / n) + (0 % n != 0).toNat) u)) := by
      rw [hv]; have := tp_pos (tB k); exact ⟨by grind, by grind⟩
    obtain ⟨h1, h2⟩ := write_RN hin
    rw [hv] at h2
    exact ⟨_, rfl, h1, by rw [hx0]; exact h2⟩
  · have hbig : 2 ^ (fB k + 1) < 2 * (M / n) := by
      have := quot_big (d := fB k + 1) hm0 hn
      rw [hM', ← hmore]
      have h3 := Nat.two_pow_pos (fB k + 1)
      have h4 : 2 ^ (fB k + 1) ≤ m * 2 ^ (fB k + 2 + n.log2 - m.log2) / n := this
      omega
    have hst := fun (V : Rat) (hV : Rep k V) => sticky (k := k) (M := M) (n := n) (q := M / n) (st := (M % n != 0).toNat) (u := u) (V := V) hn rfl rfl hbig hV
    generalize hD : 2 * (M / n) + (M % n != 0).toNat = D at hst
    have hbet : ∀ V, Rep k V → (X ≤ V → (D : Rat) * tp u ≤ V) ∧ (V ≤ X → V ≤ (D : Rat) * tp u) := fun V hV => by
      obtain ⟨h1, h2⟩ := hst V hV
      refine ⟨fun h => h1 ?_, fun h => h2 ?_⟩
      · rw [← hXn]; exact Rat.mul_le_mul_of_nonneg_right h (Rat.le_of_lt hnp)
      · rw [← hXn]; exact Rat.mul_le_mul_of_nonneg_right h (Rat.le_of_lt hnp)
    -- it is at most the double
    have hD2 : (D : Rat) * tp u ≤ X + X := by
      have h1 : D ≤ 4 * (M / n) := by
        have : (M % n != 0).toNat ≤ 1 := by cases (M % n != 0) <;> simp
        have := Nat.two_pow_pos (fB k + 1)
        omega
      have h2 : (D : Rat) * tp u ≤ ((4 * (M / n) : Nat) : Rat) * tp u := Rat.mul_le_mul_of_nonneg_right (Rat.natCast_le_natCast.2 h1) (Rat.le_of_lt (tp_pos u))
      have h3 : ((4 * (M / n) : Nat) : Rat) * tp u = ((M / n : Nat) : Rat) * tp (u + 1) + ((M / n : Nat) : Rat) * tp (u + 1) := by
        rw [tp_add, show tp 1 = 2 from Rat.zpow_one 2, Rat.natCast_mul]
        have : ((4 : Nat) : Rat) = 4 := rfl
        rw [this]; grind
      have h4 : ((M / n : Nat) : Rat) * tp (u + 1) ≤ X := by
        have h5 : (((M / n : Nat) : Rat) * tp (u + 1)) * (n : Rat) ≤ X * (n : Rat) := by
          rw [hXn]
          have h6 : ((M / n : Nat) : Rat) * tp (u + 1) * (n : Rat) = ((M / n * n : Nat) : Rat) * tp (u + 1) := by rw [Rat.natCast_mul]; grind
          rw [h6]
          exact Rat.mul_le_mul_of_nonneg_right (Rat.natCast_le_natCast.2 (Nat.div_mul_le_self _ _)) (Rat.le_of_lt (tp_pos _))
        exact Rat.le_of_mul_le_mul_right h5 hnp
      rw [h3] at h2
      generalize ((M / n : Nat) : Rat) * tp (u + 1) = A at *
      grind
    have hD0 : 0 ≤ (D : Rat) * tp u := nn D u
    have hxin : X + X < tp (tB k) := by
      have : inT k (sg (s ^^ t) * (X + X)) := by
        have e : sg (s ^^ t) * (X + X) = x + x := by rw [hxX]; grind
        rw [e]; exact h
      exact inT_abs this
    have hin : inT k (valD (.number (s ^^ t) D u)) := by
      show inT k (sg (s ^^ t) * ((D : Rat) * tp u))
      have h1 := tp_pos (tB k)
      rcases sg_cases (s ^^ t) ((D : Rat) * tp u) with ⟨_, e⟩ | ⟨_, e⟩
      · rw [e]; exact ⟨by grind, by grind⟩
      · rw [e]; exact ⟨by grind, by grind⟩
    obtain ⟨h1, h2⟩ := write_RN hin
    refine ⟨_, rfl, h1, ?_⟩
    rw [hxX]
    exact RN.of_between hbet h2

/-- A whole number as a float. -/
theorem ofInt_RN {k : FloatKind} {n : Int} (h : inT k (n : Rat)) : isN k (floatOfInt k n) ∧ RN k (n : Rat) (val k (floatOfInt k n)) := by
  have hv : valD (.number (decide (n < 0)) n.natAbs 0) = (n : Rat) := by
    show sg (decide (n < 0)) * (((n.natAbs : Nat) : Rat) * tp 0) = _
    rw [tp_zero, Rat.mul_one]
    by_cases h0 : n = 0
    · subst h0; simp
    · exact sg_natAbs n _ (by rw [if_neg h0])
  have := write_RN (k := k) (s := decide (n < 0)) (m := n.natAbs) (e := 0) (by rw [hv]; exact h)
  rw [hv] at this
  exact this
theorem rep_int {k : FloatKind} {n : Int} (h : n.natAbs ≤ 2 ^ (fB k + 1)) (hk : lP k ≤ 0) : Rep k (n : Rat) := ⟨n, 0, h, hk, by rw [tp_zero, Rat.mul_one]⟩
theorem lP_le (k : FloatKind) : lP k ≤ -149 := by cases k <;> decide
theorem inT_int {k : FloatKind} {n : Int} (h : n.natAbs ≤ 2 ^ 62) : inT k (n : Rat) := by
  have h1 : tp 62 < tp (tB k) := tp_lt (by cases k <;> decide)
  have h2 : (n : Rat) ≤ tp 62 := by
    rw [show (62 : Int) = ((62 : Nat) : Int) from rfl, tp_nat, ← Rat.intCast_natCast]
    exact Rat.intCast_le_intCast.2 (by omega)
  have h3 : - tp 62 ≤ (n : Rat) := by
    rw [show (62 : Int) = ((62 : Nat) : Int) from rfl, tp_nat, ← Rat.intCast_natCast, ← Rat.intCast_neg]
    exact Rat.intCast_le_intCast.2 (by omega)
  exact ⟨by grind, by grind⟩
/-- A small whole number is exactly a float. -/
theorem ofInt_val {k : FloatKind} {n : Int} (h : n.natAbs ≤ 2 ^ (fB k + 1)) : isN k (floatOfInt k n) ∧ val k (floatOfInt k n) = (n : Rat) := by
  have h62 : (2 : Nat) ^ (fB k + 1) ≤ 2 ^ 62 := by cases k <;> decide
  obtain ⟨h1, h2⟩ := ofInt_RN (k := k) (n := n) (inT_int (by omega))
  exact ⟨h1, h2.exact (rep_int h (by have := lP_le k; omega))⟩

/-- How two floats stand is how their values do. -/
theorem order_val {k : FloatKind} {a b : Nat} (ha : isN k a) (hb : isN k b) : ford k (some a) (some b) = some (if val k a < val k b then .lt else if val k a = val k b then .eq else .gt) := by
  obtain ⟨s, m, i, ha⟩ := ha
  obtain ⟨t, n, j, hb⟩ := hb
  show k.format.order a b = _
  unfold Ieee.Format.order val
  rw [dec_fmt, dec_fmt, ha, hb]
  show some (compare (Ieee.signed s m (i - min i j).toNat) (Ieee.signed t n (j - min i j).toNat)) = _
  have h1 : valD (.number s m i) = ((Ieee.signed s m (i - min i j).toNat : Int) : Rat) * tp (min i j) := by
    show sg s * ((m : Rat) * tp i) = _
    rw [signed_val, tp_shift (a := i) (b := min i j) (by omega)]; grind
  have h2 : valD (.number t n j) = ((Ieee.signed t n (j - min i j).toNat : Int) : Rat) * tp (min i j) := by
    show sg t * ((n : Rat) * tp j) = _
    rw [signed_val, tp_shift (a := j) (b := min i j) (by omega)]; grind
  rw [h1, h2]
  generalize Ieee.signed s m _ = A
  generalize Ieee.signed t n _ = B
  have hp := tp_pos (min i j)
  have hlt : (A : Rat) * tp (min i j) < (B : Rat) * tp (min i j) ↔ A < B := by
    rw [Rat.mul_lt_mul_right hp, Rat.intCast_lt_intCast]
  have heq : (A : Rat) * tp (min i j) = (B : Rat) * tp (min i j) ↔ A = B := by
    constructor
    · intro h
      have h1 : ¬ A < B := fun h2 => by have := hlt.2 h2; rw [h] at this; exact Rat.lt_irrefl this
      have h2 : ¬ B < A := fun h2 => by
        have : (B : Rat) * tp (min i j) < (A : Rat) * tp (min i j) := by rw [Rat.mul_lt_mul_right hp, Rat.intCast_lt_intCast]; exact h2
        rw [h] at this; exact Rat.lt_irrefl this
      omega
    · rintro rfl; rfl
  rcases Int.lt_trichotomy A B with h | h | h
  · rw [if_pos (hlt.2 h), Int.compare_eq_lt.2 h]
  · subst h
    rw [if_neg Rat.lt_irrefl, if_pos rfl]; simp
  · rw [if_neg (fun h2 => by have := hlt.1 h2; omega), if_neg (fun h2 => by have := heq.1 h2; omega), Int.compare_eq_gt.2 h]

/-- A float32 as a float64 is the same number. -/
theorem widen_val {b : Nat} (hb : isN .f32 b) : ∃ r, widen (some b) = some r ∧ isN .f64 r ∧ val .f64 r = val .f32 b := by
  obtain ⟨s, m, e, hb⟩ := hb
  obtain ⟨hm, he1, he2⟩ := read32_bd b hb
  refine ⟨_, rfl, ?_⟩
  show isN .f64 (FloatKind.f64.encode (FloatKind.f32.decode b)) ∧ val .f64 (FloatKind.f64.encode (FloatKind.f32.decode b)) = _
  have hmag : mag (.number s m e) 1022 := by
    by_cases h0 : m = 0
    · exact .inl h0
    · have := log2_lt24 h0 hm
      exact .inr (by omega)
  obtain ⟨m', e', h1, h2⟩ := enc64_RN hmag
  unfold val
  rw [hb]
  have h1' : FloatKind.f64.decode (FloatKind.f64.encode (.number s m e)) = .number s m' e' := h1
  refine ⟨⟨_, _, _, h1'⟩, ?_⟩
  rw [h1']
  have e6 : (2 : Nat) ^ (fB .f64 + 1) = 9007199254740992 := by decide
  have e7 : lP .f64 = -1074 := by decide
  have h3 := h2.exact ⟨(m : Int), e, by rw [e6, Int.natAbs_natCast]; omega, by omega, by rw [Rat.intCast_natCast]⟩
  show sg s * ((m' : Rat) * tp e') = sg s * ((m : Rat) * tp e)
  rw [h3]
/-- A float64 as a float32: rounded. -/
theorem narrow_RN {b : Nat} (hb : isN .f64 b) (h : inT .f32 (val .f64 b)) : fits (some b) ∧ ∃ r, narrow (some b) = some r ∧ isN .f32 r ∧ RN .f32 (val .f64 b) (val .f32 r) := by
  obtain ⟨s, m, e, hb⟩ := hb
  have hv : val .f64 b = valD (.number s m e) := by unfold val; rw [hb]
  rw [hv] at h ⊢
  have hm := mag_of_val (s := s) (B := 126) (inT_abs h)
  refine ⟨fun b' hb' => ?_, _, rfl, ?_⟩
  · obtain rfl : b = b' := Option.some.inj hb'
    rw [hb]; exact hm
  · show isN .f32 (FloatKind.f32.encode (FloatKind.f64.decode b)) ∧ RN .f32 _ (val .f32 (FloatKind.f32.encode (FloatKind.f64.decode b)))
    rw [hb]
    exact write_RN h

end Go.Proofs.YtncbkbfkdgggkaaDoor

namespace Go.Proofs.YtncbkbfkdgggkaaDoor
open Go.RowKit

/-- An operation on float64s that has a number for a result. -/
def fo (op : BinOp) (a b : Nat) : Nat := (fbin op .f64 (some a) (some b)).getD 0
theorem inT_1024 {x : Rat} (h1 : -1024 ≤ x) (h2 : x ≤ 1024) : inT .f64 x := by
  have h3 : (1024 : Rat) < tp 1023 := by
    have : (1024 : Rat) = tp 10 := by decide +kernel
    rw [this]; exact tp_lt (by decide)
  have h4 : tB .f64 = 1023 := rfl
  constructor <;> (rw [h4]; grind)
theorem fo_add {a b : Nat} (ha : isN .f64 a) (hb : isN .f64 b) (h1 : -1024 ≤ val .f64 a + val .f64 b) (h2 : val .f64 a + val .f64 b ≤ 1024) : fbin .add .f64 (some a) (some b) = some (fo .add a b) ∧ isN .f64 (fo .add a b) ∧ RN .f64 (val .f64 a + val .f64 b) (val .f64 (fo .add a b)) := by
  obtain ⟨r, e, hn, hr⟩ := add_RN ha hb (inT_1024 h1 h2)
  have : fo .add a b = r := by unfold fo; rw [e]; rfl
  rw [this]; exact ⟨e, hn, hr⟩
theorem fo_sub {a b : Nat} (ha : isN .f64 a) (hb : isN .f64 b) (h1 : -1024 ≤ val .f64 a - val .f64 b) (h2 : val .f64 a - val .f64 b ≤ 1024) : fbin .sub .f64 (some a) (some b) = some (fo .sub a b) ∧ isN .f64 (fo .sub a b) ∧ RN .f64 (val .f64 a - val .f64 b) (val .f64 (fo .sub a b)) := by
  obtain ⟨r, e, hn, hr⟩ := sub_RN ha hb (inT_1024 h1 h2)
  have : fo .sub a b = r := by unfold fo; rw [e]; rfl
  rw [this]; exact ⟨e, hn, hr⟩
theorem fo_mul {a b : Nat} (ha : isN .f64 a) (hb : isN .f64 b) (h1 : -1024 ≤ val .f64 a * val .f64 b) (h2 : val .f64 a * val .f64 b ≤ 1024) : fbin .mul .f64 (some a) (some b) = some (fo .mul a b) ∧ isN .f64 (fo .mul a b) ∧ RN .f64 (val .f64 a * val .f64 b) (val .f64 (fo .mul a b)) := by
  obtain ⟨r, e, hn, hr⟩ := mul_RN ha hb (inT_1024 h1 h2)
  have : fo .mul a b = r := by unfold fo; rw [e]; rfl
  rw [this]; exact ⟨e, hn, hr⟩
theorem fo_quo {a b : Nat} {x : Rat} (ha : isN .f64 a) (hb : isN .f64 b) (h0 : val .f64 b ≠ 0) (hx : x * val .f64 b = val .f64 a) (h1 : -512 ≤ x) (h2 : x ≤ 512) : fbin .quo .f64 (some a) (some b) = some (fo .quo a b) ∧ isN .f64 (fo .quo a b) ∧ RN .f64 x (val .f64 (fo .quo a b)) := by
  obtain ⟨r, e, hn, hr⟩ := quo_RN ha hb h0 hx (inT_1024 (by grind) (by grind))
  have : fo .quo a b = r := by unfold fo; rw [e]; rfl
  rw [this]; exact ⟨e, hn, hr⟩

theorem rep_of {k : FloatKind} {V : Rat} (n g : Int) (h1 : n.natAbs ≤ 2 ^ (fB k + 1)) (h2 : lP k ≤ g) (h3 : V = (n : Rat) * tp g) : Rep k V := ⟨n, g, h1, h2, h3⟩
theorem rep64 (n : Int) (h : n.natAbs ≤ 1099511627776) : Rep .f64 ((n : Rat) * tp (-40)) := ⟨n, -40, by show n.natAbs ≤ 2 ^ 53; omega, by decide, rfl⟩
theorem rep64i (n : Int) (h : n.natAbs ≤ 1099511627776) : Rep .f64 (n : Rat) := ⟨n, 0, by show n.natAbs ≤ 2 ^ 53; omega, by decide, by rw [tp_zero, Rat.mul_one]⟩

theorem isN_of {k : FloatKind} {b : Nat} (h : (match k.decode b with | .number .. => true | _ => false) = true) : isN k b := by
  unfold isN
  cases hd : k.decode b with
  | number s m e => exact ⟨s, m, e, rfl⟩
  | infinity s => rw [hd] at h; simp at h
  | nan s t => rw [hd] at h; simp at h

/-- 0.25, 0.5, 1, 2 ^ 52, -2 ^ 52, a full turn. -/
def c14 : Nat := 4598175219545276416
def c12 : Nat := 4602678819172646912
def c1 : Nat := 4607182418800017408
def c52 : Nat := 4841369599423283200
def cm52 : Nat := 14064741636278059008
def cTau : Nat := 4618760256179416344
theorem n_0 : isN .f64 0 := isN_of (by decide +kernel)
theorem v_0 : val .f64 0 = 0 := by decide +kernel
theorem n_14 : isN .f64 c14 := isN_of (by decide +kernel)
theorem v_14 : val .f64 c14 = 1 / 4 := by decide +kernel
theorem n_12 : isN .f64 c12 := isN_of (by decide +kernel)
theorem v_12 : val .f64 c12 = 1 / 2 := by decide +kernel
theorem n_1 : isN .f64 c1 := isN_of (by decide +kernel)
theorem v_1 : val .f64 c1 = 1 := by decide +kernel
theorem n_52 : isN .f64 c52 := isN_of (by decide +kernel)
theorem v_52 : val .f64 c52 = 4503599627370496 := by decide +kernel
theorem n_m52 : isN .f64 cm52 := isN_of (by decide +kernel)
theorem v_m52 : val .f64 cm52 = -4503599627370496 := by decide +kernel
theorem n_tau : isN .f64 cTau := isN_of (by decide +kernel)
theorem v_tau : val .f64 cTau = 884279719003555 / 140737488355328 := by decide +kernel

/-- 8 - i as a float, and the divisor of that round. -/
def s8 (i : Nat) : Nat := (#[4620693217682128896, 4619567317775286272, 4618441417868443648, 4617315517961601024, 4616189618054758400, 4613937818241073152, 4611686018427387904, 4607182418800017408, 0] : Array Nat).getD i 0
def d8 (i : Nat) : Nat := floatOfInt .f64 (((2 * (8 - i)) * (2 * (8 - i) + 1) : Nat) : Int)
theorem s8_ge : ∀ i : Fin 8, FloatKind.f64.format.order (s8 i.val) c1 = some .gt ∨ FloatKind.f64.format.order (s8 i.val) c1 = some .eq := by decide +kernel
theorem s8_end : FloatKind.f64.format.order (s8 8) c1 = some .lt := by decide +kernel
theorem s8_sub : ∀ i : Fin 8, fbin .sub .f64 (some (s8 i.val)) (some c1) = some (s8 (i.val + 1)) := by decide +kernel
theorem s8_dn : ∀ i : Fin 8, s8 (i.val + 1) < s8 i.val := by decide +kernel
theorem s8_d1 : ∀ i : Fin 8, fbin .mul .f64 (some 4611686018427387904) (some (s8 i.val)) = some (floatOfInt .f64 ((2 * (8 - i.val) : Nat) : Int)) := by decide +kernel
theorem s8_d2 : ∀ i : Fin 8, fbin .add .f64 (some (floatOfInt .f64 ((2 * (8 - i.val) : Nat) : Int))) (some c1) = some (floatOfInt .f64 ((2 * (8 - i.val) + 1 : Nat) : Int)) := by decide +kernel
theorem s8_d3 : ∀ i : Fin 8, fbin .mul .f64 (some (floatOfInt .f64 ((2 * (8 - i.val) : Nat) : Int))) (some (floatOfInt .f64 ((2 * (8 - i.val) + 1 : Nat) : Int))) = some (d8 i.val) := by decide +kernel
theorem d8_val (i : Nat) (hi : i < 8) : isN .f64 (d8 i) ∧ val .f64 (d8 i) = (((2 * (8 - i)) * (2 * (8 - i) + 1) : Nat) : Rat) := by
  have h : ∀ i : Fin 8, (2 * (8 - i.val)) * (2 * (8 - i.val) + 1) ≤ 272 := by decide
  have h1 := h ⟨i, hi⟩
  simp only at h1
  obtain ⟨h2, h3⟩ := ofInt_val (k := .f64) (n := (((2 * (8 - i)) * (2 * (8 - i) + 1) : Nat) : Int)) (by
    have : (2 : Nat) ^ (fB .f64 + 1) = 9007199254740992 := by decide
    rw [this, Int.natAbs_natCast]; omega)
  exact ⟨h2, by unfold d8; rw [h3, Rat.intCast_natCast]⟩

/-- The rounds: 1 - u p / d. -/
def horn (u : Nat) : Nat → Nat
  | 0 => c1
  | i + 1 => fo .sub c1 (fo .quo (fo .mul u (horn u i)) (d8 i))
def sineP (x : Nat) : Nat :=
  let z := fo .mul x cTau
  fo .mul z (horn (fo .mul z z) 8)

theorem mul_nn {a b : Rat} (ha : 0 ≤ a) (hb : 0 ≤ b) : 0 ≤ a * b := Rat.mul_nonneg ha hb
theorem mul_le2 {a b A B : Rat} (ha : 0 ≤ a) (hb : 0 ≤ b) (h1 : a ≤ A) (h2 : b ≤ B) : a * b ≤ A * B := by
  have e1 := Rat.mul_le_mul_of_nonneg_right h1 hb
  have e2 := Rat.mul_le_mul_of_nonneg_left h2 (show 0 ≤ A by grind)
  grind
theorem div_ex {a d : Rat} (hd : 0 < d) : ∃ x, x * d = a ∧ x = a / d := ⟨a / d, by rw [Rat.div_mul_cancel (by grind)], rfl⟩

/-- One round is a number from 0 to 1. -/
theorem horn_step {u p i : Nat} (hi : i < 8) (hu : isN .f64 u) (hp : isN .f64 p) (hu0 : 0 ≤ val .f64 u) (hu1 : val .f64 u ≤ 5 / 2) (hp0 : 0 ≤ val .f64 p) (hp1 : val .f64 p ≤ 1) :
    (fbin .mul .f64 (some u) (some p) = some (fo .mul u p) ∧ isN .f64 (fo .mul u p) ∧ RN .f64 (val .f64 u * val .f64 p) (val .f64 (fo .mul u p))) ∧
    (fbin .quo .f64 (some (fo .mul u p)) (some (d8 i)) = some (fo .quo (fo .mul u p) (d8 i)) ∧ isN .f64 (fo .quo (fo .mul u p) (d8 i)) ∧ ∃ x, x * val .f64 (d8 i) = val .f64 (fo .mul u p) ∧ RN .f64 x (val .f64 (fo .quo (fo .mul u p) (d8 i)))) ∧
    (fbin .sub .f64 (some c1) (some (fo .quo (fo .mul u p) (d8 i))) = some (fo .sub c1 (fo .quo (fo .mul u p) (d8 i))) ∧ isN .f64 (fo .sub c1 (fo .quo (fo .mul u p) (d8 i))) ∧ RN .f64 (1 - val .f64 (fo .quo (fo .mul u p) (d8 i))) (val .f64 (fo .sub c1 (fo .quo (fo .mul u p) (d8 i))))) ∧
    0 ≤ val .f64 (fo .sub c1 (fo .quo (fo .mul u p) (d8 i))) ∧ val .f64 (fo .sub c1 (fo .quo (fo .mul u p) (d8 i))) ≤ 1 := by
  have hup0 := mul_nn hu0 hp0
  have hup1 : val .f64 u * val .f64 p ≤ 5 / 2 := by have := mul_le2 hu0 hp0 hu1 hp1; grind
  have a1 := fo_mul hu hp (by grind) (by grind)
  have r0 : Rep .f64 0 := rep_zero _
  have r52 : Rep .f64 (5 / 2) := rep_of 5 (-1) (by decide) (by decide) (by decide +kernel)
  have b0 := a1.2.2.dn 0 r0 hup0
  have b1 := a1.2.2.up _ r52 hup1
  generalize fo .mul u p = t at a1 b0 b1 ⊢
  obtain ⟨hd, hdv⟩ := d8_val i hi
  have hd6 : ∀ i : Fin 8, 6 ≤ (2 * (8 - i.val)) * (2 * (8 - i.val) + 1) := by decide
  have hd6 := hd6 ⟨i, hi⟩
  simp only at hd6
  have hD : (6 : Rat) ≤ val .f64 (d8 i) := by
    rw [hdv]
    have := Rat.natCast_le_natCast.2 hd6
    exact this
  obtain ⟨x, hx, _⟩ := div_ex (a := val .f64 t) (d := val .f64 (d8 i)) (by grind)
  have hx0 : 0 ≤ x := by
    refine Rat.le_of_mul_le_mul_right (c := val .f64 (d8 i)) ?_ (by grind)
    rw [hx, Rat.zero_mul]; exact b0
  have hx1 : x ≤ 1 / 2 := by
    refine Rat.le_of_mul_le_mul_right (c := val .f64 (d8 i)) ?_ (by grind)
    rw [hx]; grind
  have a2 := fo_quo a1.2.1 hd (by grind) hx (by grind) (by grind)
  have r12 : Rep .f64 (1 / 2) := rep_of 1 (-1) (by decide) (by decide) (by decide +kernel)
  have b2 := a2.2.2.dn 0 r0 hx0
  have b3 := a2.2.2.up _ r12 hx1
  generalize fo .quo t (d8 i) = q at a2 b2 b3 ⊢
  have a3 := fo_sub n_1 a2.2.1 (by rw [v_1]; grind) (by rw [v_1]; grind)
  rw [v_1] at a3
  have r1 : Rep .f64 1 := rep64i 1 (by decide)
  have b4 := a3.2.2.dn 0 r0 (by grind)
  have b5 := a3.2.2.up 1 r1 (by grind)
  exact ⟨a1, ⟨a2.1, a2.2.1, x, hx, a2.2.2⟩, a3, b4, b5⟩
theorem horn_ok {u : Nat} (hu : isN .f64 u) (hu0 : 0 ≤ val .f64 u) (hu1 : val .f64 u ≤ 5 / 2) : ∀ i, i ≤ 8 → isN .f64 (horn u i) ∧ 0 ≤ val .f64 (horn u i) ∧ val .f64 (horn u i) ≤ 1
  | 0, _ => ⟨n_1, by show 0 ≤ val .f64 c1; rw [v_1]; decide, by show val .f64 c1 ≤ 1; rw [v_1]; decide⟩
  | i + 1, hi => by
    obtain ⟨h1, h2, h3⟩ := horn_ok hu hu0 hu1 i (by omega)
    obtain ⟨_, _, h4, h5, h6⟩ := horn_step (i := i) (by omega) hu h1 hu0 hu1 h2 h3
    exact ⟨h4.2.1, h5, h6⟩

/-- The sine's steps from 0 to a quarter of a turn. -/
structure SinOk (x : Nat) : Prop where
  z : fbin .mul .f64 (some x) (some cTau) = some (fo .mul x cTau)
  zN : isN .f64 (fo .mul x cTau)
  zR : RN .f64 (val .f64 x * (884279719003555 / 140737488355328)) (val .f64 (fo .mul x cTau))
  z0 : 0 ≤ val .f64 (fo .mul x cTau)
  z1 : val .f64 (fo .mul x cTau) ≤ 884279719003555 / 562949953421312
  u : fbin .mul .f64 (some (fo .mul x cTau)) (some (fo .mul x cTau)) = some (fo .mul (fo .mul x cTau) (fo .mul x cTau))
  uN : isN .f64 (fo .mul (fo .mul x cTau) (fo .mul x cTau))
  uR : RN .f64 (val .f64 (fo .mul x cTau) * val .f64 (fo .mul x cTau)) (val .f64 (fo .mul (fo .mul x cTau) (fo .mul x cTau)))
  u0 : 0 ≤ val .f64 (fo .mul (fo .mul x cTau) (fo .mul x cTau))
  u1 : val .f64 (fo .mul (fo .mul x cTau) (fo .mul x cTau)) ≤ 5 / 2
  y : fbin .mul .f64 (some (fo .mul x cTau)) (some (horn (fo .mul (fo .mul x cTau) (fo .mul x cTau)) 8)) = some (sineP x)
  yN : isN .f64 (sineP x)
  yR : RN .f64 (val .f64 (fo .mul x cTau) * val .f64 (horn (fo .mul (fo .mul x cTau) (fo .mul x cTau)) 8)) (val .f64 (sineP x))
theorem sin_ok {x : Nat} (hx : isN .f64 x) (h0 : 0 ≤ val .f64 x) (h1 : val .f64 x ≤ 1 / 4) : SinOk x := by
  have hz0 : 0 ≤ val .f64 x * (884279719003555 / 140737488355328) := mul_nn h0 (by decide +kernel)
  have hz1 : val .f64 x * (884279719003555 / 140737488355328) ≤ 884279719003555 / 562949953421312 := by
    have := mul_le2 (B := 884279719003555 / 140737488355328) h0 (show (0 : Rat) ≤ 884279719003555 / 140737488355328 by decide +kernel) h1 Rat.le_refl
    grind
  have a1 := fo_mul hx n_tau (by rw [v_tau]; grind) (by rw [v_tau]; grind)
  rw [v_tau] at a1
  have b0 := a1.2.2.dn 0 (rep_zero _) hz0
  have b1 := a1.2.2.up _ (rep_of 884279719003555 (-49) (by decide) (by decide) (by decide +kernel)) hz1
  have hu0 := mul_nn b0 b0
  have hu1 : val .f64 (fo .mul x cTau) * val .f64 (fo .mul x cTau) ≤ 5 / 2 := by
    have h2 : val .f64 (fo .mul x cTau) ≤ 15709 / 10000 := by grind
    have := mul_le2 b0 b0 h2 h2
    grind
  have a2 := fo_mul a1.2.1 a1.2.1 (by grind) (by grind)
  have b2 := a2.2.2.dn 0 (rep_zero _) hu0
  have b3 := a2.2.2.up _ (rep_of 5 (-1) (by decide) (by decide) (by decide +kernel)) hu1
  obtain ⟨h3, h4, h5⟩ := horn_ok a2.2.1 b2 b3 8 (by omega)
  have hy0 := mul_nn b0 h4
  have hy1 : val .f64 (fo .mul x cTau) * val .f64 (horn (fo .mul (fo .mul x cTau) (fo .mul x cTau)) 8) ≤ 2 := by
    have h2 : val .f64 (fo .mul x cTau) ≤ 15709 / 10000 := by grind
    have := mul_le2 b0 h4 h2 h5
    grind
  have a3 := fo_mul a1.2.1 h3 (by grind) (by grind)
  exact ⟨a1.1, a1.2.1, a1.2.2, b0, b1, a2.1, a2.2.1, a2.2.2, b2, b3, a3.1, a3.2.1, a3.2.2⟩

end Go.Proofs.YtncbkbfkdgggkaaDoor

namespace Go.Proofs.YtncbkbfkdgggkaaDoor
open Go.RowKit

theorem RN.near {k : FloatKind} {x y : Rat} {g : Int} (h : RN k x y) (hg : lP k ≤ g) (h1 : -(((2 ^ fB k : Nat) : Rat) * tp g) ≤ x) (h2 : x ≤ ((2 ^ fB k : Nat) : Rat) * tp g) : x - tp g ≤ y ∧ y ≤ x + tp g := by
  have hp := tp_pos g
  have hpi : tp (-g) * tp g = 1 := by rw [← tp_add, show -g + g = 0 by omega, tp_zero]
  obtain ⟨n, hn⟩ : ∃ n, (x * tp (-g)).floor = n := ⟨_, rfl⟩
  have f1 := Rat.floor_le (x * tp (-g))
  have f2 := Rat.lt_floor_add_one (x * tp (-g))
  rw [hn] at f1 f2
  have e0 : x * tp (-g) * tp g = x := by rw [Rat.mul_assoc, hpi, Rat.mul_one]
  have g1 : (n : Rat) * tp g ≤ x := by
    have := Rat.mul_le_mul_of_nonneg_right f1 (Rat.le_of_lt hp)
    rw [e0] at this; exact this
  have g2 : x < ((n + 1 : Int) : Rat) * tp g := by
    have := Rat.mul_lt_mul_of_pos_right f2 hp
    rw [e0] at this; exact this
  have e1 : ((n + 1 : Int) : Rat) * tp g = (n : Rat) * tp g + tp g := by rw [Rat.intCast_add]; have : ((1 : Int) : Rat) = 1 := rfl; rw [this]; grind
  -- the bounds of n
  have b1 : -((2 ^ fB k : Nat) : Int) ≤ n + 1 := by
    have h3 : -(((2 ^ fB k : Nat) : Rat) * tp g) < ((n + 1 : Int) : Rat) * tp g := by grind
    have h4 : ((-((2 ^ fB k : Nat) : Int) : Int) : Rat) * tp g < ((n + 1 : Int) : Rat) * tp g := by
      rw [Rat.intCast_neg, Rat.intCast_natCast]
      have : -((2 ^ fB k : Nat) : Rat) * tp g = -(((2 ^ fB k : Nat) : Rat) * tp g) := by grind
      rw [this]; exact h3
    have := Rat.intCast_lt_intCast.1 ((Rat.mul_lt_mul_right hp).1 h4)
    omega
  have b2 : n ≤ ((2 ^ fB k : Nat) : Int) := by
    have h3 : (n : Rat) * tp g ≤ (((2 ^ fB k : Nat) : Int) : Rat) * tp g := by rw [Rat.intCast_natCast]; grind
    exact Rat.intCast_le_intCast.1 (Rat.le_of_mul_le_mul_right h3 hp)
  have hF : 1 ≤ 2 ^ fB k := Nat.one_le_two_pow
  have hF2 : 2 ^ (fB k + 1) = 2 * 2 ^ fB k := by rw [Nat.pow_succ]; omega
  have r1 : Rep k ((n : Rat) * tp g) := ⟨n, g, by omega, hg, rfl⟩
  have r2 : Rep k (((n + 1 : Int) : Rat) * tp g) := ⟨n + 1, g, by omega, hg, rfl⟩
  have u := h.up _ r2 (Rat.le_of_lt g2)
  have d := h.dn _ r1 g1
  rw [e1] at u g2
  constructor <;> grind

theorem tp_m19 : tp (-19) = 1 / 524288 := by decide +kernel
theorem tp_m20 : tp (-20) = 1 / 1048576 := by decide +kernel
theorem tp_m48 : tp (-48) = 1 / 281474976710656 := by decide +kernel
theorem p23 : ((2 ^ fB .f32 : Nat) : Rat) = 8388608 := by decide +kernel
theorem p52 : ((2 ^ fB .f64 : Nat) : Rat) = 4503599627370496 := by decide +kernel
/-- Numbers up to 16 in single precision. -/
theorem RN.near32 {x y : Rat} (h : RN .f32 x y) (h1 : -16 ≤ x) (h2 : x ≤ 16) : x - 1 / 524288 ≤ y ∧ y ≤ x + 1 / 524288 := by
  have := h.near (g := -19) (by decide) (by rw [p23, tp_m19]; grind) (by rw [p23, tp_m19]; grind)
  rw [tp_m19] at this; exact this
/-- Numbers up to 16 in double precision. -/
theorem RN.near64 {x y : Rat} (h : RN .f64 x y) (h1 : -16 ≤ x) (h2 : x ≤ 16) : x - 1 / 281474976710656 ≤ y ∧ y ≤ x + 1 / 281474976710656 := by
  have := h.near (g := -48) (by decide) (by rw [p52, tp_m48]; grind) (by rw [p52, tp_m48]; grind)
  rw [tp_m48] at this; exact this

/-- An operation on float32s that has a number for a result. -/
def fo3 (op : BinOp) (a b : Nat) : Nat := (fbin op .f32 (some a) (some b)).getD 0
theorem inT3_1024 {x : Rat} (h1 : -1024 ≤ x) (h2 : x ≤ 1024) : inT .f32 x := by
  have h3 : (1024 : Rat) < tp 127 := by
    have : (1024 : Rat) = tp 10 := by decide +kernel
    rw [this]; exact tp_lt (by decide)
  have h4 : tB .f32 = 127 := rfl
  constructor <;> (rw [h4]; grind)
theorem fo3_add {a b : Nat} (ha : isN .f32 a) (hb : isN .f32 b) (h1 : -1024 ≤ val .f32 a + val .f32 b) (h2 : val .f32 a + val .f32 b ≤ 1024) : fbin .add .f32 (some a) (some b) = some (fo3 .add a b) ∧ isN .f32 (fo3 .add a b) ∧ RN .f32 (val .f32 a + val .f32 b) (val .f32 (fo3 .add a b)) := by
  obtain ⟨r, e, hn, hr⟩ := add_RN ha hb (inT3_1024 h1 h2)
  have : fo3 .add a b = r := by unfold fo3; rw [e]; rfl
  rw [this]; exact ⟨e, hn, hr⟩
theorem fo3_sub {a b : Nat} (ha : isN .f32 a) (hb : isN .f32 b) (h1 : -1024 ≤ val .f32 a - val .f32 b) (h2 : val .f32 a - val .f32 b ≤ 1024) : fbin .sub .f32 (some a) (some b) = some (fo3 .sub a b) ∧ isN .f32 (fo3 .sub a b) ∧ RN .f32 (val .f32 a - val .f32 b) (val .f32 (fo3 .sub a b)) := by
  obtain ⟨r, e, hn, hr⟩ := sub_RN ha hb (inT3_1024 h1 h2)
  have : fo3 .sub a b = r := by unfold fo3; rw [e]; rfl
  rw [this]; exact ⟨e, hn, hr⟩
theorem fo3_mul {a b : Nat} (ha : isN .f32 a) (hb : isN .f32 b) (h1 : -1024 ≤ val .f32 a * val .f32 b) (h2 : val .f32 a * val .f32 b ≤ 1024) : fbin .mul .f32 (some a) (some b) = some (fo3 .mul a b) ∧ isN .f32 (fo3 .mul a b) ∧ RN .f32 (val .f32 a * val .f32 b) (val .f32 (fo3 .mul a b)) := by
  obtain ⟨r, e, hn, hr⟩ := mul_RN ha hb (inT3_1024 h1 h2)
  have : fo3 .mul a b = r := by unfold fo3; rw [e]; rfl
  rw [this]; exact ⟨e, hn, hr⟩
theorem fo3_quo {a b : Nat} {x : Rat} (ha : isN .f32 a) (hb : isN .f32 b) (h0 : val .f32 b ≠ 0) (hx : x * val .f32 b = val .f32 a) (h1 : -512 ≤ x) (h2 : x ≤ 512) : fbin .quo .f32 (some a) (some b) = some (fo3 .quo a b) ∧ isN .f32 (fo3 .quo a b) ∧ RN .f32 x (val .f32 (fo3 .quo a b)) := by
  obtain ⟨r, e, hn, hr⟩ := quo_RN ha hb h0 hx (inT3_1024 (by grind) (by grind))
  have : fo3 .quo a b = r := by unfold fo3; rw [e]; rfl
  rw [this]; exact ⟨e, hn, hr⟩
theorem rep32i (n : Int) (h : n.natAbs ≤ 16777216) : Rep .f32 (n : Rat) := ⟨n, 0, by show n.natAbs ≤ 2 ^ 24; omega, by decide, by rw [tp_zero, Rat.mul_one]⟩

end Go.Proofs.YtncbkbfkdgggkaaDoor

namespace Go.Proofs.YtncbkbfkdgggkaaDoor
open Go.RowKit

/-- A float32 in parts of 2^-149. -/
def keyF (b : Nat) : Int := match FloatKind.f32.decode b with
  | .number s m e => (if s then -1 else 1) * ((m * 2 ^ (e + 149).toNat : Nat) : Int)
  | _ => 0
theorem keyF_val {b : Nat} (h : isN .f32 b) : val .f32 b = (keyF b : Rat) * tp (-149) := by
  obtain ⟨s, m, e, hd⟩ := h
  have hb := (read32_bd b hd).2.1
  have hk : keyF b = (if s then -1 else 1) * ((m * 2 ^ (e + 149).toNat : Nat) : Int) := by unfold keyF; rw [hd]
  have hv : val .f32 b = sg s * ((m : Rat) * tp e) := by unfold val; rw [hd]; rfl
  have ht := tp_shift (a := e) (b := -149) hb
  rw [show e - -149 = e + 149 by omega] at ht
  rw [hv, hk, ht]
  have h1 : (((m * 2 ^ (e + 149).toNat : Nat) : Int) : Rat) = (m : Rat) * ((2 ^ (e + 149).toNat : Nat) : Rat) := by rw [Rat.intCast_natCast, Rat.natCast_mul]
  cases s
  · rw [if_neg Bool.false_ne_true, Int.one_mul, h1]
    have : sg false = 1 := by simp [sg]
    rw [this]; grind
  · rw [if_pos rfl, Rat.intCast_mul, h1]
    have : sg true = -1 := by simp [sg]
    have e1 : ((-1 : Int) : Rat) = -1 := rfl
    rw [this, e1]; grind
theorem keyF_lt {a b : Nat} (ha : isN .f32 a) (hb : isN .f32 b) : val .f32 a < val .f32 b ↔ keyF a < keyF b := by
  rw [keyF_val ha, keyF_val hb]
  have hp := tp_pos (-149)
  constructor
  · intro h
    refine Int.lt_of_not_ge fun hge => ?_
    have := Rat.mul_le_mul_of_nonneg_right (Rat.intCast_le_intCast.2 hge) (Rat.le_of_lt hp)
    exact Rat.lt_irrefl (rlt_le h this)
  · intro h
    exact Rat.mul_lt_mul_of_pos_right (Rat.intCast_lt_intCast.2 h) hp

end Go.Proofs.YtncbkbfkdgggkaaDoor

namespace Go.Proofs.YtncbkbfkdgggkaaDoor
open Go.RowKit

def mulU (a b : Nat) : Nat := (a * b + 1099511627775) / 1099511627776
def mulD (a b : Nat) : Nat := a * b / 1099511627776
def divU (a d : Nat) : Nat := (a + (d - 1)) / d
def stepI (ul uh d : Nat) (p : Nat × Nat) : Nat × Nat := (1099511627776 - divU (mulU uh p.2) d, 1099511627776 - (mulD ul p.1) / d)
def hornI (ul uh : Nat) : Nat → Nat × Nat
  | 0 => (1099511627776, 1099511627776)
  | i + 1 => stepI ul uh ((2 * (8 - i)) * (2 * (8 - i) + 1)) (hornI ul uh i)
def hiB (zl zh : Nat) : Nat := mulU zh (hornI (mulD zl zl) (mulU zh zh) 8).2
def chkB : Nat → Nat → Nat → Bool
  | 0, l, h => decide (hiB l h ≤ 1099511693312)
  | d + 1, l, h => decide (hiB l h ≤ 1099511693312) || (chkB d l ((l + h) / 2) && chkB d ((l + h) / 2) h)
theorem chkB_all : chkB 26 0 1727108826180 = true := by decide +kernel

/-- n over 2 ^ 40. -/
def gr (n : Nat) : Rat := (n : Rat) * tp (-40)
theorem gr_one : gr 1099511627776 = 1 := by decide +kernel
theorem gr_le {a b : Nat} (h : a ≤ b) : gr a ≤ gr b := Rat.mul_le_mul_of_nonneg_right (Rat.natCast_le_natCast.2 h) (Rat.le_of_lt (tp_pos _))
theorem le_gr {a b : Nat} (h : gr a ≤ gr b) : a ≤ b := Rat.natCast_le_natCast.1 (Rat.le_of_mul_le_mul_right h (tp_pos _))
theorem gr_nn (a : Nat) : 0 ≤ gr a := nn a _
theorem gr_add (a b : Nat) : gr (a + b) = gr a + gr b := by unfold gr; rw [Rat.natCast_add]; grind
theorem gr_mul (a b : Nat) : gr a * gr b * gr 1208925819614629174706176 = gr (a * b) * gr 1208925819614629174706176 * tp (-40) := by unfold gr; rw [Rat.natCast_mul]; grind
theorem gr_mul' (a b : Nat) : gr a * gr b = ((a * b : Nat) : Rat) * (tp (-40) * tp (-40)) := by unfold gr; rw [Rat.natCast_mul]; grind
theorem tp40 : (1099511627776 : Rat) * tp (-40) = 1 := by decide +kernel
theorem gr_up (n : Nat) : gr n = ((n * 1099511627776 : Nat) : Rat) * (tp (-40) * tp (-40)) := by
  unfold gr
  rw [Rat.natCast_mul]
  have h := tp40
  have e : ((1099511627776 : Nat) : Rat) = 1099511627776 := rfl
  rw [e]
  generalize tp (-40) = T at *
  have : (n : Rat) * 1099511627776 * (T * T) = (n : Rat) * T * (1099511627776 * T) := by grind
  rw [this, h, Rat.mul_one]
theorem tt_nn : 0 ≤ tp (-40) * tp (-40) := mul_nn (Rat.le_of_lt (tp_pos _)) (Rat.le_of_lt (tp_pos _))
theorem mulU_ok {a b : Rat} {A B : Nat} (ha : 0 ≤ a) (hb : 0 ≤ b) (h1 : a ≤ gr A) (h2 : b ≤ gr B) : a * b ≤ gr (mulU A B) := by
  refine Rat.le_trans (mul_le2 ha hb h1 h2) ?_
  rw [gr_mul', gr_up]
  refine Rat.mul_le_mul_of_nonneg_right (Rat.natCast_le_natCast.2 ?_) tt_nn
  unfold mulU
  omega
theorem mulD_ok {a b : Rat} {A B : Nat} (h1 : gr A ≤ a) (h2 : gr B ≤ b) : gr (mulD A B) ≤ a * b := by
  refine Rat.le_trans ?_ (mul_le2 (gr_nn A) (gr_nn B) h1 h2)
  rw [gr_mul', gr_up]
  refine Rat.mul_le_mul_of_nonneg_right (Rat.natCast_le_natCast.2 ?_) tt_nn
  unfold mulD
  omega
theorem gr_smul (n d : Nat) : gr n * (d : Rat) = gr (n * d) := by unfold gr; rw [Rat.natCast_mul]; grind
theorem divU_ok {x t : Rat} {A d : Nat} (hd : 0 < d) (hx : x * (d : Rat) = t) (h : t ≤ gr A) : x ≤ gr (divU A d) := by
  refine Rat.le_of_mul_le_mul_right (c := (d : Rat)) ?_ (Rat.natCast_pos.2 hd)
  rw [hx, gr_smul]
  refine Rat.le_trans h (gr_le ?_)
  unfold divU
  have h1 := Nat.div_add_mod (A + (d - 1)) d
  have h2 := Nat.mod_lt (A + (d - 1)) hd
  rw [Nat.mul_comm] at h1
  omega
theorem divD_ok {x t : Rat} {A d : Nat} (hd : 0 < d) (hx : x * (d : Rat) = t) (h : gr A ≤ t) : gr (A / d) ≤ x := by
  refine Rat.le_of_mul_le_mul_right (c := (d : Rat)) ?_ (Rat.natCast_pos.2 hd)
  rw [hx, gr_smul]
  exact Rat.le_trans (gr_le (Nat.div_mul_le_self _ _)) h
theorem rep_gr {n : Nat} (h : n ≤ 9007199254740992) : Rep .f64 (gr n) := ⟨n, -40, by show (n : Int).natAbs ≤ 2 ^ 53; simpa using h, by decide, by unfold gr; rw [Rat.intCast_natCast]⟩

theorem mulU_le {a b A B : Nat} (h1 : a ≤ A) (h2 : b ≤ B) : mulU a b ≤ mulU A B := by
  unfold mulU
  have := Nat.mul_le_mul h1 h2
  omega
theorem divU_le {a A d : Nat} (h : a ≤ A) : divU a d ≤ divU A d := by unfold divU; exact Nat.div_le_div_right (by omega)

/-- The rounds lie within their intervals. -/
theorem hornI_ok {u ul uh : Nat} (hu : isN .f64 u) (hu1 : val .f64 u ≤ 5 / 2) (hl : gr ul ≤ val .f64 u) (hh : val .f64 u ≤ gr uh) (huh : uh ≤ 2800000000000) : ∀ i, i ≤ 8 →
    gr (hornI ul uh i).1 ≤ val .f64 (horn u i) ∧ val .f64 (horn u i) ≤ gr (hornI ul uh i).2 ∧ (hornI ul uh i).1 ≤ 1099511627776 ∧ (hornI ul uh i).2 ≤ 1099511627776
  | 0, _ => by
    show gr 1099511627776 ≤ val .f64 c1 ∧ val .f64 c1 ≤ gr 1099511627776 ∧ _
    rw [v_1, gr_one]
    exact ⟨Rat.le_refl, Rat.le_refl, Nat.le_refl _, Nat.le_refl _⟩
  | i + 1, hi => by
    obtain ⟨e1, e2, e3, e4⟩ := hornI_ok hu hu1 hl hh huh i (by omega)
    have hu0 : 0 ≤ val .f64 u := Rat.le_trans (gr_nn ul) hl
    obtain ⟨g1, g2, g3⟩ := horn_ok hu hu0 hu1 i (by omega)
    obtain ⟨⟨_, _, r1⟩, ⟨_, _, x, hx, r2⟩, ⟨_, _, r3⟩, k1, k2⟩ := horn_step (i := i) (by omega) hu g1 hu0 hu1 g2 g3
    obtain ⟨_, hdv⟩ := d8_val i (by omega)
    rw [hdv] at hx
    have hd : 0 < (2 * (8 - i)) * (2 * (8 - i) + 1) := Nat.mul_pos (by omega) (by omega)
    show gr (stepI ul uh ((2 * (8 - i)) * (2 * (8 - i) + 1)) (hornI ul uh i)).1 ≤ val .f64 (fo .sub c1 (fo .quo (fo .mul u (horn u i)) (d8 i))) ∧ val .f64 (fo .sub c1 (fo .quo (fo .mul u (horn u i)) (d8 i))) ≤ gr (stepI ul uh ((2 * (8 - i)) * (2 * (8 - i) + 1)) (hornI ul uh i)).2 ∧ (stepI ul uh ((2 * (8 - i)) * (2 * (8 - i) + 1)) (hornI ul uh i)).1 ≤ _ ∧ (stepI ul uh ((2 * (8 - i)) * (2 * (8 - i) + 1)) (hornI ul uh i)).2 ≤ _
    generalize hornI ul uh i = P at e1 e2 e3 e4 ⊢
    generalize (2 * (8 - i)) * (2 * (8 - i) + 1) = d at hx hd ⊢
    -- u p
    have hm := mulU_le huh e4
    have hmv : mulU 2800000000000 1099511627776 ≤ 2800000000000 := by decide
    have t1 := r1.up _ (rep_gr (n := mulU uh P.2) (by omega)) (mulU_ok hu0 g2 hh e2)
    have hmd : mulD ul P.1 ≤ 2800000000000 := by
      have h1 : gr (mulD ul P.1) ≤ gr (mulU uh P.2) := Rat.le_trans (mulD_ok hl e1) (mulU_ok hu0 g2 hh e2)
      have := le_gr h1; omega
    have t2 := r1.dn _ (rep_gr (n := mulD ul P.1) (by omega)) (mulD_ok hl e1)
    -- over d
    have q1 := divU_ok hd hx t1
    have q2 := divD_ok hd hx t2
    have hdu : divU (mulU uh P.2) d ≤ 2800000000000 := by
      unfold divU
      have : mulU uh P.2 + (d - 1) ≤ 2800000000000 * d := by
        have h1 : 2800000000000 * 1 + (d - 1) * 1 ≤ 2800000000000 * d := by
          have : d = 1 + (d - 1) := by omega
          rw [this, Nat.mul_add]; omega
        omega
      exact Nat.div_le_of_le_mul (by rw [Nat.mul_comm]; exact this)
    have hdd : mulD ul P.1 / d ≤ 2800000000000 := Nat.le_trans (Nat.div_le_self _ _) hmd
    have p1 := r2.up _ (rep_gr (n := divU (mulU uh P.2) d) (by omega)) q1
    have p2 := r2.dn _ (rep_gr (n := mulD ul P.1 / d) (by omega)) q2
    show gr (1099511627776 - divU (mulU uh P.2) d) ≤ _ ∧ _ ≤ gr (1099511627776 - (mulD ul P.1) / d) ∧ (1099511627776 - divU (mulU uh P.2) d) ≤ _ ∧ (1099511627776 - (mulD ul P.1) / d) ≤ _
    generalize divU (mulU uh P.2) d = B at p1 ⊢
    generalize mulD ul P.1 / d = C at p2 hdd ⊢
    generalize fo .quo (fo .mul u (horn u i)) (d8 i) = qq at p1 p2 r3 k1 k2 ⊢
    refine ⟨?_, ?_, Nat.sub_le _ _, Nat.sub_le _ _⟩
    · rcases Nat.le_total B 1099511627776 with h | h
      · have e : gr (1099511627776 - B) + gr B = 1 := by rw [← gr_add, Nat.sub_add_cancel h, gr_one]
        exact r3.dn _ (rep_gr (by omega)) (by grind)
      · rw [Nat.sub_eq_zero_of_le h]
        have : gr 0 = 0 := by unfold gr; rw [show ((0 : Nat) : Rat) = 0 from rfl, Rat.zero_mul]
        rw [this]; exact k1
    · rcases Nat.le_total C 1099511627776 with h | h
      · have e : gr (1099511627776 - C) + gr C = 1 := by rw [← gr_add, Nat.sub_add_cancel h, gr_one]
        exact r3.up _ (rep_gr (by omega)) (by grind)
      · have h1 : (1 : Rat) ≤ gr C := by rw [← gr_one]; exact gr_le h
        have := r3.up 0 (rep_zero _) (by grind)
        exact Rat.le_trans this (gr_nn _)

theorem hiB_ok {x l h : Nat} (hs : SinOk x) (hl : gr l ≤ val .f64 (fo .mul x cTau)) (hh : val .f64 (fo .mul x cTau) ≤ gr h) (hb : h ≤ 1727108826180) : val .f64 (sineP x) ≤ gr (hiB l h) := by
  have hz0 := hs.z0
  have hm := mulU_le hb hb
  have hmv : mulU 1727108826180 1727108826180 ≤ 2800000000000 := by decide
  have h1 := hs.uR.up _ (rep_gr (n := mulU h h) (by omega)) (mulU_ok hz0 hz0 hh hh)
  have hmd : mulD l l ≤ 2800000000000 := by
    have h1 : gr (mulD l l) ≤ gr (mulU h h) := Rat.le_trans (mulD_ok hl hl) (mulU_ok hz0 hz0 hh hh)
    have := le_gr h1; omega
  have h2 := hs.uR.dn _ (rep_gr (n := mulD l l) (by omega)) (mulD_ok hl hl)
  obtain ⟨_, k2, _, k4⟩ := hornI_ok hs.uN hs.u1 h2 h1 (by omega) 8 (Nat.le_refl _)
  obtain ⟨_, g2, _⟩ := horn_ok hs.uN hs.u0 hs.u1 8 (Nat.le_refl _)
  have hm2 := mulU_le hb k4
  have hmv2 : mulU 1727108826180 1099511627776 ≤ 2800000000000 := by decide
  exact hs.yR.up _ (rep_gr (n := mulU h (hornI (mulD l l) (mulU h h) 8).2) (by omega)) (mulU_ok hz0 g2 hh k2)
theorem chkB_ok {x : Nat} (hs : SinOk x) : ∀ (d l h : Nat), chkB d l h = true → gr l ≤ val .f64 (fo .mul x cTau) → val .f64 (fo .mul x cTau) ≤ gr h → h ≤ 1727108826180 → l ≤ h → val .f64 (sineP x) ≤ gr 1099511693312
  | 0, l, h, hc, h1, h2, hb, _ => by
    unfold chkB at hc
    exact Rat.le_trans (hiB_ok hs h1 h2 hb) (gr_le (of_decide_eq_true hc))
  | d + 1, l, h, hc, h1, h2, hb, hlh => by
    unfold chkB at hc
    rw [Bool.or_eq_true, Bool.and_eq_true] at hc
    rcases hc with hc | ⟨hc1, hc2⟩
    · exact Rat.le_trans (hiB_ok hs h1 h2 hb) (gr_le (of_decide_eq_true hc))
    · rcases Rat.le_total (a := val .f64 (fo .mul x cTau)) (b := gr ((l + h) / 2)) with h3 | h3
      · exact chkB_ok hs d l _ hc1 h1 h3 (by omega) (by omega)
      · exact chkB_ok hs d _ h hc2 h3 h2 hb (by omega)
/-- The sine of at most a quarter of a turn is hardly more than 1. -/
theorem sine_le {x : Nat} (hs : SinOk x) : val .f64 (sineP x) ≤ 1 + 1 / 16777216 := by
  have h1 : gr 0 = 0 := by unfold gr; rw [show ((0 : Nat) : Rat) = 0 from rfl, Rat.zero_mul]
  have h2 : (884279719003555 / 562949953421312 : Rat) ≤ gr 1727108826180 := by decide +kernel
  have h3 := chkB_ok hs 26 0 1727108826180 chkB_all (by rw [h1]; exact hs.z0) (Rat.le_trans hs.z1 h2) (Nat.le_refl _) (by omega)
  have h4 : gr 1099511693312 = 1 + 1 / 16777216 := by decide +kernel
  rw [h4] at h3; exact h3
theorem sine_nn {x : Nat} (hs : SinOk x) : 0 ≤ val .f64 (sineP x) := by
  obtain ⟨_, g2, _⟩ := horn_ok hs.uN hs.u0 hs.u1 8 (Nat.le_refl _)
  exact hs.yR.dn 0 (rep_zero _) (mul_nn hs.z0 g2)

end Go.Proofs.YtncbkbfkdgggkaaDoor

namespace Go.Proofs.YtncbkbfkdgggkaaDoor
open Go.RowKit

theorem cut_half {neg : Bool} {n drop N : Nat} (h : 2 * n ≤ (2 * N + 1) * 2 ^ drop) (hN : N % 2 = 0) : Ieee.Toward.even.cut neg n drop ≤ N := by
  unfold Ieee.Toward.cut
  simp only
  rw [Nat.one_shiftLeft]
  rcases Nat.le_total drop (n.log2 + 2) with hd | hd
  · rw [Nat.min_eq_left hd]
    have hp := Nat.two_pow_pos drop
    generalize 2 ^ drop = g at h hp ⊢
    have hdm := Nat.div_add_mod n g
    have hm := Nat.mod_lt n hp
    generalize n / g = q at hdm ⊢
    generalize n % g = r at hdm hm ⊢
    have hq : q ≤ N := by
      rcases Nat.lt_or_ge N q with h1 | h1
      · exfalso
        have h2 := Nat.mul_le_mul_left g h1
        have e1 : (2 * N + 1) * g = 2 * (g * N) + g := by rw [Nat.add_mul, Nat.one_mul, Nat.mul_assoc, Nat.mul_comm N g]
        have e2 : g * N.succ = g * N + g := Nat.mul_succ g N
        rw [e2] at h2
        generalize g * N = a at *
        generalize g * q = b at *
        omega
      · exact h1
    rcases Nat.lt_or_eq_of_le hq with h1 | h1
    · have : (decide (g < 2 * r) || (g == 2 * r && q % 2 == 1)).toNat ≤ 1 := by cases (decide (g < 2 * r) || (g == 2 * r && q % 2 == 1)) <;> simp
      omega
    · subst h1
      have e1 : (2 * q + 1) * g = 2 * (g * q) + g := by rw [Nat.add_mul, Nat.one_mul, Nat.mul_assoc, Nat.mul_comm q g]
      have h2 : ¬ g < 2 * r := by omega
      have h3 : (q % 2 == 1) = false := by simp; omega
      rw [h3]
      simp [h2]
  · rw [Nat.min_eq_right hd]
    have h1 : n < 2 ^ (n.log2 + 1) := Nat.lt_log2_self
    have h2 : 2 ^ (n.log2 + 2) = 2 * 2 ^ (n.log2 + 1) := by rw [Nat.pow_succ]; omega
    rw [Nat.div_eq_of_lt (by omega), Nat.mod_eq_of_lt (by omega)]
    have hf : (decide (2 ^ (n.log2 + 2) < 2 * n) || (2 ^ (n.log2 + 2) == 2 * n && 0 % 2 == 1)) = false := by
      have : ¬ 2 ^ (n.log2 + 2) < 2 * n := by omega
      simp [this]
    rw [hf]; simp

theorem tp_m24 : tp (-24) = 1 / 16777216 := by decide +kernel
theorem tp_m23 : tp (-23) = 1 / 8388608 := by decide +kernel
theorem enc32_le1 {s : Bool} {m : Nat} {e : Int} (h : (m : Rat) * tp e ≤ 1 + 1 / 16777216) : ∃ m' e', FloatKind.f32.decode (FloatKind.f32.encode (.number s m e)) = .number s m' e' ∧ (m' : Rat) * tp e' ≤ 1 := by
  have hmag : mag (.number s m e) 0 := mag_of_val (B := 0) (by have : tp (0 + 1) = 2 := by decide +kernel
                                                               rw [this]; grind)
  have hmag' : mag (.number s m e) 126 := mag_mono hmag (by omega)
  rcases Rat.le_total (a := (m : Rat) * tp e) (b := 1) with h1 | h1
  · obtain ⟨m', e', hd, hr⟩ := enc32_RN (s := s) hmag'
    exact ⟨m', e', hd, hr.up 1 (rep_of 1 0 (by decide) (by decide) (by decide +kernel)) h1⟩
  · by_cases hx1 : (m : Rat) * tp e = 1
    · obtain ⟨m', e', hd, hr⟩ := enc32_RN (s := s) hmag'
      exact ⟨m', e', hd, hr.up 1 (rep_of 1 0 (by decide) (by decide) (by decide +kernel)) (by rw [hx1]; exact Rat.le_refl)⟩
    have hgt : 1 < (m : Rat) * tp e := Rat.lt_of_le_of_ne h1 (fun h => hx1 h.symm)
    have h0 : m ≠ 0 := by
      rintro rfl
      rw [show ((0 : Nat) : Rat) = 0 from rfl, Rat.zero_mul] at hgt
      exact absurd hgt (by decide)
    -- the digits' place
    have hlog : (m.log2 : Int) + e = 0 := by
      have hb : (m.log2 : Int) + e ≤ 0 := by rcases hmag with h | h; exact absurd h h0; exact h
      have h2 : (m : Rat) * tp e < tp ((m.log2 : Int) + 1 + e) := by
        rw [tp_add, show ((m.log2 : Int) + 1) = ((m.log2 + 1 : Nat) : Int) by push_cast; rfl, tp_nat]
        exact (Rat.mul_lt_mul_right (tp_pos e)).2 (Rat.natCast_lt_natCast.2 Nat.lt_log2_self)
      have h3 : tp 0 < tp ((m.log2 : Int) + 1 + e) := by rw [tp_zero]; grind
      have := lt_of_tp h3
      omega
    have hlast : max (e + (m.log2 : Int) - ((23 : Nat) : Int)) (-149) = -23 := by omega
    have he : e < -23 := by
      rcases Int.lt_or_le e (-23) with h2 | h2
      · exact h2
      · exfalso
        rw [tp_shift h2, ← Rat.mul_assoc, ← Rat.natCast_mul] at h hgt
        generalize m * 2 ^ (e - -23).toNat = N at h hgt
        rw [tp_m23] at h hgt
        have h4 : ((8388608 : Nat) : Rat) < (N : Rat) := by
          have : ((8388608 : Nat) : Rat) = 8388608 := rfl
          rw [this]; grind
        have h5 := Rat.natCast_le_natCast.2 (Rat.natCast_lt_natCast.1 h4)
        have h6 : ((Nat.succ 8388608 : Nat) : Rat) = 8388609 := rfl
        rw [h6] at h5
        grind
    show ∃ m' e', Ieee.single.read (Ieee.single.nearest s m e) = .number s m' e' ∧ _
    unfold Ieee.Format.nearest
    rw [if_neg h0]
    have e4 : Ieee.single.leastPlace = -149 := by decide
    have e5 : Ieee.single.fractionBits = 23 := rfl
    have e2 : Ieee.single.binade = 8388608 := by decide
    have e3 : Ieee.single.infRung = 2139095040 := by decide
    simp only [e4, e5, e2, e3]
    rw [hlast]
    have z1 : (e - -23).toNat = 0 := by omega
    rw [z1, Nat.shiftLeft_zero]
    have hk : Ieee.Toward.even.cut s m (-23 - e).toNat ≤ 8388608 := by
      refine cut_half ?_ (by decide)
      have h7 : (m : Rat) * tp e ≤ ((16777217 : Nat) : Rat) * tp (-24) := by
        rw [tp_m24]
        have : ((16777217 : Nat) : Rat) = 16777217 := rfl
        rw [this]; grind
      rw [tp_shift (a := -24) (b := e) (by omega), ← Rat.mul_assoc, ← Rat.natCast_mul] at h7
      have h8 := Rat.natCast_le_natCast.1 (Rat.le_of_mul_le_mul_right h7 (tp_pos e))
      have h9 : (-23 - e).toNat = (-24 - e).toNat + 1 := by omega
      rw [h9, Nat.pow_succ]
      generalize 2 ^ (-24 - e).toNat = g at h8 ⊢
      omega
    have hk2 : 8388608 ≤ Ieee.Toward.even.cut s m (-23 - e).toNat := by
      refine cut_dn ?_
      have h7 : ((8388608 : Nat) : Rat) * tp (-23) ≤ (m : Rat) * tp e := by
        rw [tp_m23]
        have : ((8388608 : Nat) : Rat) = 8388608 := rfl
        rw [this]; grind
      rw [tp_shift (a := -23) (b := e) (by omega), ← Rat.mul_assoc, ← Rat.natCast_mul] at h7
      exact Rat.natCast_le_natCast.1 (Rat.le_of_mul_le_mul_right h7 (tp_pos e))
    have hk3 : Ieee.Toward.even.cut s m (-23 - e).toNat = 8388608 := by omega
    rw [hk3]
    have z2 : ((-23 : Int) - -149).toNat = 126 := by decide
    rw [z2]
    obtain ⟨m', e', h1, h2⟩ := read32_val s 126 8388608 (by omega) (.inr (by omega)) (by omega)
    rw [Nat.min_eq_left (by omega)]
    refine ⟨m', e', h1, ?_⟩
    rw [h2]
    have : (-149 : Int) + ((126 : Nat) : Int) = -23 := by decide
    rw [this, tp_m23]
    have : ((8388608 : Nat) : Rat) = 8388608 := rfl
    rw [this]
    decide +kernel

/-- What a float64 is narrowed to. -/
def narP (b : Nat) : Nat := FloatKind.f32.encode (FloatKind.f64.decode b)
/-- A float32 that is a number from -1 to 1. -/
def unitF (b : Nat) : Prop := isN .f32 b ∧ -1 ≤ val .f32 b ∧ val .f32 b ≤ 1
theorem narP_unit {b : Nat} (hb : isN .f64 b) (h1 : -(1 + 1 / 16777216) ≤ val .f64 b) (h2 : val .f64 b ≤ 1 + 1 / 16777216) : unitF (narP b) ∧ (FloatKind.f32.decode (narP b)).isInfinity = false := by
  obtain ⟨s, m, e, hd⟩ := hb
  have hv : val .f64 b = sg s * ((m : Rat) * tp e) := by unfold val; rw [hd]; rfl
  rw [hv] at h1 h2
  have h3 : (m : Rat) * tp e ≤ 1 + 1 / 16777216 := by
    rcases sg_cases s ((m : Rat) * tp e) with ⟨_, e'⟩ | ⟨_, e'⟩ <;> rw [e'] at h1 h2 <;> grind
  obtain ⟨m', e', g1, g2⟩ := enc32_le1 (s := s) h3
  have hn : FloatKind.f32.decode (narP b) = .number s m' e' := by unfold narP; rw [hd]; exact g1
  refine ⟨⟨⟨_, _, _, hn⟩, ?_⟩, by rw [hn]; rfl⟩
  unfold val
  rw [hn]
  show -1 ≤ sg s * ((m' : Rat) * tp e') ∧ sg s * ((m' : Rat) * tp e') ≤ 1
  have h5 := nn m' e'
  rcases sg_cases s ((m' : Rat) * tp e') with ⟨_, e''⟩ | ⟨_, e''⟩ <;> rw [e''] <;> constructor <;> grind

end Go.Proofs.YtncbkbfkdgggkaaDoor

namespace Go.Proofs.YtncbkbfkdgggkaaDoor
open Go.RowKit

theorem cut_zeroWay (neg : Bool) (n drop : Nat) : Ieee.Toward.zero.cut neg n drop = n / 2 ^ drop := by
  unfold Ieee.Toward.cut
  simp only [Bool.toNat_false, Nat.add_zero]
  rw [Nat.one_shiftLeft]
  rcases Nat.le_total drop (n.log2 + 2) with hd | hd
  · rw [Nat.min_eq_left hd]
  · rw [Nat.min_eq_right hd]
    have h1 : n < 2 ^ (n.log2 + 1) := Nat.lt_log2_self
    have h2 : 2 ^ (n.log2 + 1) ≤ 2 ^ (n.log2 + 2) := Nat.pow_le_pow_right (by omega) (by omega)
    have h3 : 2 ^ (n.log2 + 2) ≤ 2 ^ drop := Nat.pow_le_pow_right (by omega) hd
    rw [Nat.div_eq_of_lt (by omega), Nat.div_eq_of_lt (by omega)]

def truncP (x : Nat) : Int := ((FloatKind.f64.decode x).toInt .zero).getD 0
theorem trunc_ok {x : Nat} (hx : isN .f64 x) (h1 : -1024 ≤ val .f64 x) (h2 : val .f64 x ≤ 1024) :
    floatToIntVal .f64 x .i64 = some (truncP x) ∧ (truncP x).natAbs ≤ 1024 ∧ -1 < val .f64 x - (truncP x : Rat) ∧ val .f64 x - (truncP x : Rat) < 1 ∧ (0 ≤ val .f64 x → 0 ≤ val .f64 x - (truncP x : Rat)) ∧ (val .f64 x ≤ 0 → val .f64 x - (truncP x : Rat) ≤ 0) := by
  obtain ⟨s, m, e, hd⟩ := hx
  have hv : val .f64 x = sg s * ((m : Rat) * tp e) := by unfold val; rw [hd]; rfl
  obtain ⟨M, hM⟩ : ∃ M, (m <<< e.toNat) / 2 ^ (-e).toNat = M := ⟨_, rfl⟩
  have ht : (FloatKind.f64.decode x).toInt .zero = some (Ieee.signed s M 0) := by
    rw [hd]
    unfold Ieee.Datum.toInt Ieee.Datum.integral
    simp only
    rw [cut_zeroWay, hM]
  have htr : truncP x = Ieee.signed s M 0 := by unfold truncP; rw [ht]; rfl
  have hMv : ((Ieee.signed s M 0 : Int) : Rat) = sg s * (M : Rat) := by
    rw [signed_val]
    have : ((2 ^ 0 : Nat) : Rat) = 1 := rfl
    rw [this, Rat.mul_one]
  have hbet : (M : Rat) ≤ (m : Rat) * tp e ∧ (m : Rat) * tp e < (M : Rat) + 1 := by
    rcases Int.le_total 0 e with h | h
    · have z : (-e).toNat = 0 := by omega
      rw [z, Nat.pow_zero, Nat.div_one, Nat.shiftLeft_eq] at hM
      have : (m : Rat) * tp e = (M : Rat) := by
        rw [← hM, Rat.natCast_mul, ← tp_nat]
        congr 2; omega
      rw [this]; grind
    · have z : e.toNat = 0 := by omega
      rw [z, Nat.shiftLeft_zero] at hM
      have hp := Nat.two_pow_pos (-e).toNat
      have h3 : tp e * ((2 ^ (-e).toNat : Nat) : Rat) = 1 := by
        rw [← tp_nat, ← tp_add]
        have : e + ((-e).toNat : Int) = 0 := by omega
        rw [this, tp_zero]
      have hdm := Nat.div_add_mod m (2 ^ (-e).toNat)
      have hml := Nat.mod_lt m hp
      rw [hM] at hdm
      have hG : (0 : Rat) < ((2 ^ (-e).toNat : Nat) : Rat) := Rat.natCast_pos.2 hp
      generalize 2 ^ (-e).toNat = G at *
      have h4 : (m : Rat) * tp e * (G : Rat) = (m : Rat) := by rw [Rat.mul_assoc, h3, Rat.mul_one]
      constructor
      · refine Rat.le_of_mul_le_mul_right (c := (G : Rat)) ?_ hG
        rw [h4, ← Rat.natCast_mul]
        exact Rat.natCast_le_natCast.2 (by rw [Nat.mul_comm]; omega)
      · refine (Rat.mul_lt_mul_right hG).1 ?_
        rw [h4]
        have : ((M : Rat) + 1) * (G : Rat) = (((M + 1) * G : Nat) : Rat) := by rw [Rat.natCast_mul, Rat.natCast_add]; rfl
        rw [this]
        exact Rat.natCast_lt_natCast.2 (by rw [Nat.add_mul, Nat.one_mul, Nat.mul_comm M G]; omega)
  rw [hv] at h1 h2 ⊢
  have hM1 : M ≤ 1024 := by
    have : (M : Rat) ≤ ((1024 : Nat) : Rat) := by
      have e1 : ((1024 : Nat) : Rat) = 1024 := rfl
      rw [e1]
      rcases sg_cases s ((m : Rat) * tp e) with ⟨_, e'⟩ | ⟨_, e'⟩ <;> rw [e'] at h1 h2 <;> grind
    exact Rat.natCast_le_natCast.1 this
  have hsn : (Ieee.signed s M 0).natAbs = M := by
    unfold Ieee.signed
    rw [Nat.shiftLeft_zero]
    cases s <;> simp
  have hM0 : (0 : Rat) ≤ (M : Rat) := Rat.natCast_nonneg
  rw [htr]
  refine ⟨?_, by omega, ?_⟩
  · unfold floatToIntVal
    rw [ht]
    simp only
    have e1 : IntKind.i64.min = -9223372036854775808 := by decide
    have e2 : IntKind.i64.max = 9223372036854775807 := by decide
    rw [e1, e2, if_pos (by omega)]
  · rw [hMv]
    have hm0 := nn m e
    rcases sg_cases s ((m : Rat) * tp e) with ⟨hs, e'⟩ | ⟨hs, e'⟩
    · rcases sg_cases s (M : Rat) with ⟨_, e''⟩ | ⟨hs', _⟩
      · rw [e', e'']
        generalize (m : Rat) * tp e = X at *
        exact ⟨by grind, by grind, fun _ => by grind, fun _ => by grind⟩
      · rw [hs] at hs'; cases hs'
    · rcases sg_cases s (M : Rat) with ⟨hs', _⟩ | ⟨_, e''⟩
      · rw [hs] at hs'; cases hs'
      · rw [e', e'']
        generalize (m : Rat) * tp e = X at *
        exact ⟨by grind, by grind, fun _ => by grind, fun _ => by grind⟩

theorem ord_is {a b : Nat} (ha : isN .f64 a) (hb : isN .f64 b) : (val .f64 a < val .f64 b → FloatKind.f64.format.order a b = some .lt) ∧ (val .f64 a = val .f64 b → FloatKind.f64.format.order a b = some .eq) ∧ (val .f64 b < val .f64 a → FloatKind.f64.format.order a b = some .gt) := by
  have h : FloatKind.f64.format.order a b = _ := order_val ha hb
  rw [h]
  exact ⟨fun h => by rw [if_pos h], fun h => by rw [if_neg (by rw [h]; exact Rat.lt_irrefl), if_pos h], fun h => by rw [if_neg (fun h2 => by grind), if_neg (fun h2 => by grind)]⟩
def fracD (x : Nat) : Nat := fo .sub x (floatOfInt .f64 (truncP x))
def fracP (x : Nat) : Nat := if FloatKind.f64.format.order (fracD x) 0 = some .lt then fo .add (fracD x) c1 else fracD x
structure FracOk (x : Nat) : Prop where
  tr : floatToIntVal .f64 x .i64 = some (truncP x)
  sub : fbin .sub .f64 (some x) (some (floatOfInt .f64 (truncP x))) = some (fracD x)
  add : FloatKind.f64.format.order (fracD x) 0 = some .lt → fbin .add .f64 (some (fracD x)) (some c1) = some (fo .add (fracD x) c1)
  N : isN .f64 (fracP x)
  lo : 0 ≤ val .f64 (fracP x)
  hi : val .f64 (fracP x) ≤ 1
theorem ord_lt {a b : Nat} (ha : isN .f64 a) (hb : isN .f64 b) : FloatKind.f64.format.order a b = some .lt ↔ val .f64 a < val .f64 b := by
  have h : FloatKind.f64.format.order a b = _ := order_val ha hb
  rw [h]
  constructor
  · intro h
    by_cases h1 : val .f64 a < val .f64 b
    · exact h1
    · rw [if_neg h1] at h
      split at h <;> cases h
  · intro h; rw [if_pos h]
theorem frac_ok {x : Nat} (hx : isN .f64 x) (h1 : -1024 ≤ val .f64 x) (h2 : val .f64 x ≤ 1024) : FracOk x := by
  obtain ⟨t1, t2, t3, t4, t5, t6⟩ := trunc_ok hx h1 h2
  obtain ⟨i1, i2⟩ := ofInt_val (k := .f64) (n := truncP x) (by rw [show (2 : Nat) ^ (fB .f64 + 1) = 9007199254740992 by decide]; omega)
  have a1 := fo_sub hx i1 (by rw [i2]; grind) (by rw [i2]; grind)
  rw [i2] at a1
  have r1 : Rep .f64 1 := rep64i 1 (by decide)
  have rm1 : Rep .f64 (-1) := r1.neg
  have b1 := a1.2.2.up 1 r1 (by grind)
  have b2 := a1.2.2.dn (-1) rm1 (by grind)
  have a1s : fbin .sub .f64 (some x) (some (floatOfInt .f64 (truncP x))) = some (fracD x) := a1.1
  have hN : isN .f64 (fracD x) := a1.2.1
  have b1 : val .f64 (fracD x) ≤ 1 := b1
  have b2 : -1 ≤ val .f64 (fracD x) := b2
  have hlt := ord_lt hN n_0
  rw [v_0] at hlt
  have a2 := fo_add hN n_1 (by rw [v_1]; grind) (by rw [v_1]; grind)
  rw [v_1] at a2
  refine ⟨t1, a1s, fun _ => a2.1, ?_, ?_, ?_⟩
  · unfold fracP; split
    · exact a2.2.1
    · exact hN
  · unfold fracP; split
    · exact a2.2.2.dn 0 (rep_zero _) (by grind)
    · rename_i h
      rw [hlt] at h
      grind
  · unfold fracP; split
    · rename_i h
      rw [hlt] at h
      exact a2.2.2.up 1 r1 (by grind)
    · exact b1

def geQ (f : Nat) : Bool := FloatKind.f64.format.order f c14 == some .gt || FloatKind.f64.format.order f c14 == some .eq
theorem geQ_iff {f : Nat} (hf : isN .f64 f) : geQ f = true ↔ 1 / 4 ≤ val .f64 f := by
  have h : FloatKind.f64.format.order f c14 = _ := order_val hf n_14
  unfold geQ
  rw [h, v_14]
  by_cases h1 : val .f64 f < 1 / 4
  · rw [if_pos h1]
    constructor
    · intro h; simp at h
    · intro h; grind
  · rw [if_neg h1]
    constructor
    · intro _; grind
    · intro _
      by_cases h2 : val .f64 f = 1 / 4
      · rw [if_pos h2]; rfl
      · rw [if_neg h2]; rfl
def turnP : Nat → Nat → Nat × Nat
  | 0, f => (f, 0)
  | n + 1, f => if geQ f then ((turnP n (fo .sub f c14)).1, (turnP n (fo .sub f c14)).2 + 1) else (f, 0)
theorem turn_step {f n : Nat} (hf : isN .f64 f) (hn : n ≤ 3) (h1 : val .f64 f ≤ ((n + 1 : Nat) : Rat) * (1 / 4)) (hg : geQ f = true) :
    fbin .sub .f64 (some f) (some c14) = some (fo .sub f c14) ∧ isN .f64 (fo .sub f c14) ∧ 0 ≤ val .f64 (fo .sub f c14) ∧ val .f64 (fo .sub f c14) ≤ ((n : Nat) : Rat) * (1 / 4) := by
  have hq := (geQ_iff hf).1 hg
  have hn3 : ((n : Nat) : Rat) ≤ 3 := Rat.natCast_le_natCast.2 hn
  rw [Rat.natCast_add] at h1
  have e1 : ((1 : Nat) : Rat) = 1 := rfl
  rw [e1] at h1
  have a := fo_sub hf n_14 (by rw [v_14]; grind) (by rw [v_14]; grind)
  rw [v_14] at a
  refine ⟨a.1, a.2.1, a.2.2.dn 0 (rep_zero _) (by grind), a.2.2.up _ ⟨n, -2, ?_, by decide, ?_⟩ (by grind)⟩
  · have : (2 : Nat) ^ (fB .f64 + 1) = 9007199254740992 := by decide
    rw [this]; omega
  · have : tp (-2) = 1 / 4 := by decide +kernel
    rw [this, Rat.intCast_natCast]
theorem turn_ok : ∀ {n f : Nat}, isN .f64 f → n ≤ 4 → 0 ≤ val .f64 f → val .f64 f ≤ ((n : Nat) : Rat) * (1 / 4) → isN .f64 (turnP n f).1 ∧ 0 ≤ val .f64 (turnP n f).1 ∧ val .f64 (turnP n f).1 ≤ 1 / 4 ∧ (turnP n f).2 ≤ n
  | 0, f, hf, _, h0, h1 => by
    rw [show ((0 : Nat) : Rat) = 0 from rfl, Rat.zero_mul] at h1
    exact ⟨hf, h0, by show val .f64 f ≤ _; grind, Nat.le_refl _⟩
  | n + 1, f, hf, hn, h0, h1 => by
    unfold turnP
    by_cases hg : geQ f = true
    · rw [if_pos hg]
      obtain ⟨_, s2, s3, s4⟩ := turn_step hf (by omega) h1 hg
      obtain ⟨k1, k2, k3, k4⟩ := turn_ok s2 (by omega) s3 s4
      exact ⟨k1, k2, k3, by show _ + 1 ≤ _; omega⟩
    · rw [if_neg hg]
      have := fun h => hg ((geQ_iff hf).2 h)
      exact ⟨hf, h0, by show val .f64 f ≤ _; grind, Nat.zero_le _⟩

/-- The parts by the quarter. -/
def quadRe (q c s : Nat) : Nat := if q = 1 then fo .sub 0 s else if q = 2 then fo .sub 0 c else if q = 3 then s else c
def quadIm (q c s : Nat) : Nat := if q = 1 then c else if q = 2 then fo .sub 0 s else if q = 3 then fo .sub 0 c else s
def phaF (x : Nat) : Nat := (turnP 4 (fracP x)).1
def phaQ (x : Nat) : Nat := (turnP 4 (fracP x)).2
def phaC (x : Nat) : Nat := sineP (fracP (fo .sub c14 (phaF x)))
def phaS (x : Nat) : Nat := sineP (fracP (phaF x))
/-- Of at most a quarter nothing is cut. -/
structure QOk (x : Nat) : Prop where
  N : isN .f64 x
  x0 : 0 ≤ val .f64 x
  x1 : val .f64 x ≤ 1 / 4
  fr : FracOk x
  D : isN .f64 (fracD x)
  D0 : 0 ≤ val .f64 (fracD x)
  e : fracP x = fracD x
  q : val .f64 (fracP x) ≤ 1 / 4
  s : SinOk (fracP x)
theorem q_ok {x : Nat} (hx : isN .f64 x) (h0 : 0 ≤ val .f64 x) (h1 : val .f64 x ≤ 1 / 4) : QOk x := by
  have fr := frac_ok hx (by grind) (by grind)
  obtain ⟨t1, t2, t3, t4, t5, t6⟩ := trunc_ok hx (by grind) (by grind)
  obtain ⟨i1, i2⟩ := ofInt_val (k := .f64) (n := truncP x) (by rw [show (2 : Nat) ^ (fB .f64 + 1) = 9007199254740992 by decide]; omega)
  have a1 := fo_sub hx i1 (by rw [i2]; grind) (by rw [i2]; grind)
  rw [i2] at a1
  have hn0 : truncP x = 0 := by
    have h2 : truncP x < 1 := by
      have := t5 h0
      have h3 : (truncP x : Rat) < ((1 : Int) : Rat) := by have e1 : ((1 : Int) : Rat) = 1 := rfl; rw [e1]; grind
      exact Rat.intCast_lt_intCast.1 h3
    have h3 : -1 < truncP x := by
      have h3 : ((-1 : Int) : Rat) < (truncP x : Rat) := by have e1 : ((-1 : Int) : Rat) = -1 := rfl; rw [e1]; grind
      exact Rat.intCast_lt_intCast.1 h3
    omega
  rw [hn0] at a1
  have e0 : ((0 : Int) : Rat) = 0 := rfl
  rw [e0] at a1
  have hD : isN .f64 (fracD x) := by unfold fracD; rw [hn0]; exact a1.2.1
  have hR : RN .f64 (val .f64 x - 0) (val .f64 (fracD x)) := by unfold fracD; rw [hn0]; exact a1.2.2
  have b0 := hR.dn 0 (rep_zero _) (by grind)
  have b1 := hR.up (1 / 4) (rep_of 1 (-2) (by decide) (by decide) (by decide +kernel)) (by grind)
  have hlt := ord_lt hD n_0
  rw [v_0] at hlt
  have he : fracP x = fracD x := by unfold fracP; rw [if_neg (fun h => by have := hlt.1 h; grind)]
  exact ⟨hx, h0, h1, fr, hD, b0, he, by rw [he]; exact b1, sin_ok fr.N fr.lo (by rw [he]; exact b1)⟩
def phaRe (x : Nat) : Nat := quadRe (phaQ x) (phaC x) (phaS x)
def phaIm (x : Nat) : Nat := quadIm (phaQ x) (phaC x) (phaS x)
structure PhaOk (x : Nat) : Prop where
  fr : FracOk x
  fN : isN .f64 (phaF x)
  f0 : 0 ≤ val .f64 (phaF x)
  f1 : val .f64 (phaF x) ≤ 1 / 4
  q : phaQ x ≤ 4
  d : fbin .sub .f64 (some c14) (some (phaF x)) = some (fo .sub c14 (phaF x))
  cA : QOk (fo .sub c14 (phaF x))
  sA : QOk (phaF x)
  cN : isN .f64 (phaC x)
  c0 : 0 ≤ val .f64 (phaC x)
  c1 : val .f64 (phaC x) ≤ 1 + 1 / 16777216
  sN : isN .f64 (phaS x)
  s0 : 0 ≤ val .f64 (phaS x)
  s1 : val .f64 (phaS x) ≤ 1 + 1 / 16777216
theorem pha_ok {x : Nat} (hx : isN .f64 x) (h1 : -1024 ≤ val .f64 x) (h2 : val .f64 x ≤ 1024) : PhaOk x := by
  have fr := frac_ok hx h1 h2
  obtain ⟨k1, k2, k3, k4⟩ := turn_ok (n := 4) fr.N (by omega) fr.lo (by rw [show ((4 : Nat) : Rat) * (1 / 4) = 1 by decide +kernel]; exact fr.hi)
  have k1 : isN .f64 (phaF x) := k1
  have k2 : 0 ≤ val .f64 (phaF x) := k2
  have k3 : val .f64 (phaF x) ≤ 1 / 4 := k3
  have a := fo_sub n_14 k1 (by rw [v_14]; grind) (by rw [v_14]; grind)
  rw [v_14] at a
  have d0 := a.2.2.dn 0 (rep_zero _) (by grind)
  have d1 := a.2.2.up (1 / 4) (rep_of 1 (-2) (by decide) (by decide) (by decide +kernel)) (by grind)
  have Qs := q_ok k1 k2 k3
  have Qc := q_ok a.2.1 d0 d1
  have hs := Qs.s
  have hc := Qc.s
  exact ⟨fr, k1, k2, k3, k4, a.1, Qc, Qs, hc.yN, sine_nn hc, sine_le hc, hs.yN, sine_nn hs, sine_le hs⟩
theorem neg_ok {c : Nat} (hc : isN .f64 c) (h0 : 0 ≤ val .f64 c) (h1 : val .f64 c ≤ 1 + 1 / 16777216) : fbin .sub .f64 (some 0) (some c) = some (fo .sub 0 c) ∧ isN .f64 (fo .sub 0 c) ∧ -(1 + 1 / 16777216) ≤ val .f64 (fo .sub 0 c) ∧ val .f64 (fo .sub 0 c) ≤ 0 := by
  have a := fo_sub n_0 hc (by rw [v_0]; grind) (by rw [v_0]; grind)
  rw [v_0] at a
  exact ⟨a.1, a.2.1, a.2.2.dn _ (rep_of (-16777217) (-24) (by decide) (by decide) (by decide +kernel)) (by grind), a.2.2.up 0 (rep_zero _) (by grind)⟩
theorem pha_parts {x : Nat} (h : PhaOk x) : (unitF (narP (phaRe x)) ∧ (FloatKind.f32.decode (narP (phaRe x))).isInfinity = false) ∧ (unitF (narP (phaIm x)) ∧ (FloatKind.f32.decode (narP (phaIm x))).isInfinity = false) := by
  have nc := neg_ok h.cN h.c0 h.c1
  have ns := neg_ok h.sN h.s0 h.s1
  have c0 := h.c0
  have s0 := h.s0
  have c1 := h.c1
  have s1 := h.s1
  have C := narP_unit h.cN (by grind) h.c1
  have S := narP_unit h.sN (by grind) h.s1
  have NC := narP_unit nc.2.1 nc.2.2.1 (by have := nc.2.2.2; grind)
  have NS := narP_unit ns.2.1 ns.2.2.1 (by have := ns.2.2.2; grind)
  unfold phaRe phaIm quadRe quadIm
  refine ⟨?_, ?_⟩
  · split
    · exact NS
    · split
      · exact NC
      · split
        · exact S
        · exact C
  · split
    · exact C
    · split
      · exact NS
      · split
        · exact NC
        · exact S
theorem narP_conv {b : Nat} (hb : isN .f64 b) (h : (FloatKind.f32.decode (narP b)).isInfinity = false) : floatToFloatBits .f64 b .f32 = some (narP b) := by
  obtain ⟨s, m, e, hd⟩ := hb
  unfold narP at h ⊢
  unfold floatToFloatBits
  rw [hd] at h ⊢
  rw [if_neg (by decide)]
  simp only
  rw [h]; rfl

end Go.Proofs.YtncbkbfkdgggkaaDoor

namespace Go.Proofs.YtncbkbfkdgggkaaDoor
open Go.RowKit

/-- m * 2 ^ e is at most 2 ^ B. -/
def leB (B : Int) (m : Nat) (e : Int) : Prop := m = 0 ∨ (e ≤ B ∧ m ≤ 2 ^ (B - e).toNat)
def numB (B : Int) (s : Bool) (d : Ieee.Datum) : Prop := ∃ m e, d = .number s m e ∧ leB B m e
theorem leB_cases {B : Int} {m : Nat} {e : Int} (h : leB B m e) : m = 0 ∨ (m ≠ 0 ∧ (m.log2 : Int) + e < B) ∨ (m ≠ 0 ∧ (m.log2 : Int) + e = B ∧ m = 2 ^ m.log2) := by
  rcases h with h | ⟨h1, h2⟩
  · exact .inl h
  · by_cases h0 : m = 0
    · exact .inl h0
    · right
      rcases Nat.lt_or_ge m (2 ^ (B - e).toNat) with h3 | h3
      · left
        have := (Nat.log2_lt h0).2 h3
        exact ⟨h0, by omega⟩
      · right
        have h4 : m = 2 ^ (B - e).toNat := Nat.le_antisymm h2 h3
        have h5 : m.log2 = (B - e).toNat := by rw [h4]; exact Nat.log2_two_pow
        exact ⟨h0, by omega, by rw [h5]; exact h4⟩
theorem numB_mag {B : Int} {s : Bool} {d : Ieee.Datum} (h : numB B s d) : mag d B := by
  obtain ⟨m, e, rfl, h⟩ := h
  rcases leB_cases h with h | ⟨_, h⟩ | ⟨_, h, _⟩
  · exact .inl h
  · exact .inr (by omega)
  · exact .inr (by omega)

theorem read64_leB (neg : Bool) (r B' : Nat) (h : r ≤ B' * 4503599627370496) (h0 : 1 ≤ B') (hB : B' ≤ 2046) : numB ((B' : Int) - 1023) neg (Ieee.double.read (Ieee.double.word neg r)) := by
  have e1 : Ieee.double.signWeight = 9223372036854775808 := by decide
  have e2 : Ieee.double.binade = 4503599627370496 := by decide
  have e3 : Ieee.double.infRung = 9218868437227405312 := by decide
  have e4 : Ieee.double.leastPlace = -1074 := by decide
  unfold Ieee.Format.read Ieee.Format.word
  simp only [e1, e2, e3, e4]
  have hm : (if neg = true then 9223372036854775808 + r else r) % 9223372036854775808 = r := by split <;> omega
  have hs : ((if neg = true then 9223372036854775808 + r else r) / 9223372036854775808 % 2 == 1) = neg := by
    cases neg
    · simp; omega
    · simp; omega
  rw [hm, hs]
  by_cases h1 : r < 4503599627370496
  · rw [if_pos h1]
    refine ⟨r, -1074, rfl, .inr ⟨by omega, ?_⟩⟩
    have h2 : (2 : Nat) ^ 52 ≤ 2 ^ ((B' : Int) - 1023 - -1074).toNat := Nat.pow_le_pow_right (by omega) (by omega)
    have h3 : (2 : Nat) ^ 52 = 4503599627370496 := by decide
    omega
  · rw [if_neg h1, if_pos (by omega)]
    have hq1 : 1 ≤ r / 4503599627370496 := by omega
    have hq2 : r / 4503599627370496 ≤ B' := by omega
    have hr : r = r / 4503599627370496 * 4503599627370496 + r % 4503599627370496 := by omega
    have hlt : r % 4503599627370496 < 4503599627370496 := Nat.mod_lt _ (by omega)
    generalize r / 4503599627370496 = q at hq1 hq2 hr ⊢
    generalize r % 4503599627370496 = f at hr hlt ⊢
    refine ⟨_, _, rfl, .inr ⟨by omega, ?_⟩⟩
    have h3 : (2 : Nat) ^ 52 = 4503599627370496 := by decide
    have h4 : (2 : Nat) ^ 53 = 9007199254740992 := by decide
    rcases Nat.lt_or_ge q B' with hlt2 | hge
    · have h2 : (2 : Nat) ^ 53 ≤ 2 ^ ((B' : Int) - 1023 - (-1074 + ((q - 1 : Nat) : Int))).toNat := Nat.pow_le_pow_right (by omega) (by omega)
      omega
    · have h2 : (2 : Nat) ^ 52 ≤ 2 ^ ((B' : Int) - 1023 - (-1074 + ((q - 1 : Nat) : Int))).toNat := Nat.pow_le_pow_right (by omega) (by omega)
      have : q = B' := by omega
      subst this
      omega

theorem cut_pow (neg : Bool) (L : Nat) : Ieee.Toward.even.cut neg (2 ^ L <<< (52 - L)) (L - 52) = 4503599627370496 := by
  rcases Nat.le_total L 52 with h | h
  · have h1 : L - 52 = 0 := by omega
    rw [h1, cut_zero, Nat.shiftLeft_eq, ← Nat.pow_add, show L + (52 - L) = 52 by omega]
  · have h1 : 52 - L = 0 := by omega
    rw [h1, Nat.shiftLeft_zero]
    unfold Ieee.Toward.cut
    simp only [Nat.log2_two_pow]
    rw [show min (L - 52) (L + 2) = L - 52 by omega, Nat.one_shiftLeft]
    have h2 : 2 ^ L = 4503599627370496 * 2 ^ (L - 52) := by
      rw [show (4503599627370496 : Nat) = 2 ^ 52 by decide, ← Nat.pow_add, show 52 + (L - 52) = L by omega]
    have hp := Nat.two_pow_pos (L - 52)
    rw [h2]
    generalize 2 ^ (L - 52) = g at hp ⊢
    have h3 : 4503599627370496 * g % g = 0 := Nat.mul_mod_left _ _
    have h4 : 4503599627370496 * g / g = 4503599627370496 := Nat.mul_div_cancel _ hp
    rw [h3, h4]
    have h5 : (decide (g < 2 * 0) || (g == 2 * 0 && 4503599627370496 % 2 == 1)) = false := by
      have : ¬ g < 2 * 0 := by omega
      simp [Nat.ne_of_gt hp]
    rw [h5]
    rfl

/-- A number of at most 2 ^ B is written as such a one. -/
theorem enc64_leB {s : Bool} {m : Nat} {e : Int} {B : Int} (h : leB B m e) (h1 : -1021 ≤ B) (h2 : B ≤ 1023) : numB B s (FloatKind.f64.decode (FloatKind.f64.encode (.number s m e))) := by
  show numB B s (Ieee.double.read (Ieee.double.nearest s m e))
  have key : ∀ r : Nat, r ≤ (B + 1023).toNat * 4503599627370496 → numB B s (Ieee.double.read (Ieee.double.word s r)) := by
    intro r hr
    have := read64_leB s r (B + 1023).toNat hr (by omega) (by omega)
    have e : (((B + 1023).toNat : Nat) : Int) - 1023 = B := by omega
    rwa [e] at this
  unfold Ieee.Format.nearest
  split
  · exact key 0 (by omega)
  · rename_i h0
    have e4 : Ieee.double.leastPlace = -1074 := by decide
    have e5 : Ieee.double.fractionBits = 52 := rfl
    have e2 : Ieee.double.binade = 4503599627370496 := by decide
    have e3 : Ieee.double.infRung = 9218868437227405312 := by decide
    rcases leB_cases h with h | ⟨_, hb⟩ | ⟨_, hb, hm⟩
    · exact absurd h h0
    · have hr := rung_le Ieee.double s m e h0
      simp only [e4, e5, e2, e3] at hr ⊢
      generalize Ieee.Toward.even.cut s (m <<< (e - max (e + (m.log2 : Int) - ((52 : Nat) : Int)) (-1074)).toNat) (max (e + (m.log2 : Int) - ((52 : Nat) : Int)) (-1074) - e).toNat = kept at hr ⊢
      have h4 : (max (e + (m.log2 : Int) - ((52 : Nat) : Int)) (-1074) - -1074).toNat + 2 ≤ (B + 1023).toNat := by omega
      generalize (max (e + (m.log2 : Int) - ((52 : Nat) : Int)) (-1074) - -1074).toNat = qq at h4 ⊢
      have hr' : kept ≤ 9007199254740992 := hr
      refine key _ (Nat.le_trans (Nat.min_le_left _ _) ?_)
      have h5 : (qq + 2) * 4503599627370496 ≤ (B + 1023).toNat * 4503599627370496 := Nat.mul_le_mul_right _ h4
      omega
    · simp only [e4, e5, e2, e3]
      have h5 : max (e + (m.log2 : Int) - ((52 : Nat) : Int)) (-1074) = B - 52 := by omega
      rw [h5]
      have h6 : (e - (B - 52)).toNat = 52 - m.log2 := by omega
      have h7 : (B - 52 - e).toNat = m.log2 - 52 := by omega
      rw [h6, h7]
      generalize m.log2 = L at hm
      subst hm
      rw [cut_pow]
      refine key _ (Nat.le_trans (Nat.min_le_left _ _) ?_)
      have h8 : (B - 52 - -1074).toNat + 1 = (B + 1023).toNat := by omega
      rw [← h8]
      omega

theorem decode_enc_le {B : Int} {s : Bool} {d : Ieee.Datum} (h : numB B s d) (h1 : -1021 ≤ B) (h2 : B ≤ 1023) : numB B s (FloatKind.f64.decode (FloatKind.f64.format.write d)) := by
  obtain ⟨m, e, rfl, h⟩ := h
  exact enc64_leB h h1 h2

theorem leB_mul {B C : Int} {m n : Nat} {e j : Int} (h : leB B m e) (g : leB C n j) : leB (B + C) (m * n) (e + j) := by
  rcases h with h | ⟨h1, h2⟩
  · left; rw [h, Nat.zero_mul]
  · rcases g with g | ⟨g1, g2⟩
    · left; rw [g, Nat.mul_zero]
    · right
      refine ⟨by omega, ?_⟩
      have := Nat.mul_le_mul h2 g2
      rw [← Nat.pow_add] at this
      have e1 : (B - e).toNat + (C - j).toNat = (B + C - (e + j)).toNat := by omega
      rwa [e1] at this
theorem mul_leB {B C : Int} {s t : Bool} {a b : Nat} (h : numB B s (FloatKind.f64.decode a)) (g : numB C t (FloatKind.f64.decode b)) (h1 : -1021 ≤ B + C) (h2 : B + C ≤ 1023) :
    ∃ r, fbin .mul .f64 (some a) (some b) = some r ∧ numB (B + C) (s ^^ t) (FloatKind.f64.decode r) := by
  obtain ⟨m, e, hd, h⟩ := h
  obtain ⟨n, j, gd, g⟩ := g
  refine ⟨_, ?_, enc64_leB (leB_mul h g) h1 h2⟩
  show floatBits .mul .f64 a b = _
  unfold floatBits Ieee.Format.mul
  show ((FloatKind.f64.decode a).product (FloatKind.f64.decode b)).map _ = _
  rw [hd, gd]
  rfl
theorem leB_quo {B C : Int} {m n : Nat} {i j : Int} (q : Nat) (h : leB B m i) (hn : n ≠ 0) (hj : j ≤ C) (hC : 2 ^ (C - j).toNat ≤ n) :
    leB (B - C) (2 * (m <<< (q + n.log2 - m.log2) / n) + (m <<< (q + n.log2 - m.log2) % n != 0).toNat) (i - j - ((q + n.log2 - m.log2 : Nat) : Int) - 1) := by
  by_cases h0 : m = 0
  · left; subst h0; simp
  · right
    obtain ⟨h1, h2⟩ : i ≤ B ∧ m ≤ 2 ^ (B - i).toNat := by rcases h with h | h; exact absurd h h0; exact h
    have hl1 : m.log2 ≤ (B - i).toNat := log2_le_of_lt (Nat.lt_of_le_of_lt h2 (Nat.pow_lt_pow_right (by omega) (by omega)))
    have hl2 : (C - j).toNat ≤ n.log2 := by
      rw [Nat.le_log2 hn]; exact hC
    generalize hmore : q + n.log2 - m.log2 = more
    have hm2 : q + n.log2 ≤ more + m.log2 := by omega
    refine ⟨by omega, ?_⟩
    have e1 : (B - C - (i - j - (more : Int) - 1)).toNat = ((B - i).toNat + more - (C - j).toNat) + 1 := by omega
    rw [e1, Nat.pow_succ, Nat.shiftLeft_eq]
    have hX : 2 ^ ((B - i).toNat + more - (C - j).toNat) * 2 ^ (C - j).toNat = 2 ^ (B - i).toNat * 2 ^ more := by
      rw [← Nat.pow_add, ← Nat.pow_add]; congr 1; omega
    have hd : m * 2 ^ more ≤ 2 ^ ((B - i).toNat + more - (C - j).toNat) * n := by
      calc m * 2 ^ more ≤ 2 ^ (B - i).toNat * 2 ^ more := Nat.mul_le_mul_right _ h2
        _ = 2 ^ ((B - i).toNat + more - (C - j).toNat) * 2 ^ (C - j).toNat := hX.symm
        _ ≤ _ := Nat.mul_le_mul_left _ hC
    generalize 2 ^ ((B - i).toNat + more - (C - j).toNat) = X at hd ⊢
    generalize m * 2 ^ more = D at hd ⊢
    have hb : ∀ b : Bool, b.toNat ≤ 1 := by intro b; cases b <;> simp
    have hnp : 0 < n := Nat.pos_of_ne_zero hn
    have hle : D / n ≤ X := Nat.div_le_of_le_mul (by rw [Nat.mul_comm]; exact hd)
    rcases Nat.lt_or_ge (D / n) X with hlt | hge
    · have := hb (D % n != 0); omega
    · have he : D / n = X := Nat.le_antisymm hle hge
      have h5 := Nat.div_add_mod D n
      rw [he, Nat.mul_comm] at h5
      have h6 : D % n = 0 := by omega
      rw [he, h6]
      simp
      omega
theorem quo_leB {B C : Int} {s : Bool} {a b : Nat} {n : Nat} {j : Int} (h : numB B s (FloatKind.f64.decode a)) (hb : FloatKind.f64.decode b = .number false n j) (hn : n ≠ 0) (hj : j ≤ C) (hC : 2 ^ (C - j).toNat ≤ n) (h1 : -1021 ≤ B - C) (h2 : B - C ≤ 1023) :
    ∃ r, fbin .quo .f64 (some a) (some b) = some r ∧ numB (B - C) s (FloatKind.f64.decode r) := by
  obtain ⟨m, e, hd, h⟩ := h
  have he : ∃ q, floatBits .quo .f64 a b = ((FloatKind.f64.decode a).quotient q (FloatKind.f64.decode b)).map FloatKind.f64.format.write := ⟨_, rfl⟩
  obtain ⟨q, he⟩ := he
  refine ⟨_, ?_, enc64_leB (s := s) (leB_quo q h hn hj hC) h1 h2⟩
  show floatBits .quo .f64 a b = _
  rw [he, hd, hb]
  unfold Ieee.Datum.quotient
  simp only [if_neg hn, Option.map_some, Bool.xor_false]
  rfl
theorem dec_one : FloatKind.f64.decode 4607182418800017408 = .number false 4503599627370496 (-52) := by decide
theorem add1_leB {b : Nat} (h : numB 0 true (FloatKind.f64.decode b)) : ∃ r, fbin .add .f64 (some 4607182418800017408) (some b) = some r ∧ numB 0 false (FloatKind.f64.decode r) := by
  obtain ⟨m, e, hd, h⟩ := h
  have hs : ∃ k p, Ieee.Datum.sum (.number false 4503599627370496 (-52)) (.number true m e) = some (.number false k p) ∧ leB 0 k p := by
    unfold Ieee.Datum.sum Ieee.signed
    simp only [Bool.false_and, Bool.false_eq_true, if_false, if_true]
    have h52 : (4503599627370496 : Nat) = 2 ^ 52 := by decide
    have ha : 4503599627370496 <<< (-52 - min (-52) e).toNat = 2 ^ (0 - min (-52) e).toNat := by
      rw [Nat.shiftLeft_eq, h52, ← Nat.pow_add]; congr 1; omega
    have hb : m <<< (e - min (-52) e).toNat ≤ 2 ^ (0 - min (-52) e).toNat := by
      rcases h with h | ⟨h1, h2⟩
      · rw [h]; simp
      · rw [Nat.shiftLeft_eq]
        calc m * 2 ^ (e - min (-52) e).toNat ≤ 2 ^ (0 - e).toNat * 2 ^ (e - min (-52) e).toNat := Nat.mul_le_mul_right _ h2
          _ = 2 ^ (0 - min (-52) e).toNat := by rw [← Nat.pow_add]; congr 1; omega
    rw [ha]
    generalize m <<< (e - min (-52) e).toNat = y at hb ⊢
    have hmin : min (-52) e ≤ 0 := by omega
    generalize hp : min (-52) e = p at *
    generalize hx : 2 ^ (0 - p).toNat = x at *
    refine ⟨((x : Int) + -(y : Int)).natAbs, p, ?_, .inr ⟨hmin, ?_⟩⟩
    · have hneg : (if ((x : Int) + -(y : Int)) = 0 then false else decide ((x : Int) + -(y : Int) < 0)) = false := by
        split
        · rfl
        · exact decide_eq_false (by omega)
      rw [hneg]
    · rw [hx]; omega
  obtain ⟨k, p, hs, hk⟩ := hs
  refine ⟨_, ?_, enc64_leB (s := false) hk (by omega) (by omega)⟩
  show floatBits .add .f64 4607182418800017408 b = _
  unfold floatBits Ieee.Format.add
  show ((FloatKind.f64.decode 4607182418800017408).sum (FloatKind.f64.decode b)).map _ = _
  rw [dec_one, hd, hs]
  rfl

/-! The exponential function. -/
def kF (i : Nat) : Nat := floatOfInt .f64 (12 - (i : Int))
def kOk (d : Ieee.Datum) : Bool := match d with
  | .number s n j => (s == false) && (n != 0) && decide (j ≤ 0) && decide (2 ^ (0 - j).toNat ≤ n)
  | _ => false
theorem kF_ok : ∀ i : Fin 12, kOk (FloatKind.f64.decode (kF i.val)) = true := by decide +kernel
theorem kF_dec (i : Nat) (h : i < 12) : ∃ n j, FloatKind.f64.decode (kF i) = .number false n j ∧ n ≠ 0 ∧ j ≤ 0 ∧ 2 ^ (0 - j).toNat ≤ n := by
  have hk := kF_ok ⟨i, h⟩
  simp only at hk
  cases hd : FloatKind.f64.decode (kF i) with
  | number s n j =>
    rw [hd] at hk
    unfold kOk at hk
    simp only [Bool.and_eq_true, beq_iff_eq, bne_iff_ne, decide_eq_true_eq] at hk
    obtain ⟨⟨⟨h1, h2⟩, h3⟩, h4⟩ := hk
    subst h1
    exact ⟨n, j, rfl, h2, h3, h4⟩
  | infinity s => rw [hd] at hk; simp [kOk] at hk
  | nan s t => rw [hd] at hk; simp [kOk] at hk
def hornerF (t : Option Nat) : Nat → Option Nat
  | 0 => some 4607182418800017408
  | i + 1 => fbin .add .f64 (some 4607182418800017408) (fbin .quo .f64 (fbin .mul .f64 t (hornerF t i)) (some (kF i)))
def squareF (p : Option Nat) : Nat → Option Nat
  | 0 => p
  | i + 1 => fbin .mul .f64 (squareF p i) (squareF p i)
theorem hornerF_le {t : Nat} (h : numB 0 true (FloatKind.f64.decode t)) (i : Nat) (hi : i ≤ 12) : ∃ b, hornerF (some t) i = some b ∧ numB 0 false (FloatKind.f64.decode b) := by
  induction i with
  | zero => exact ⟨_, rfl, _, _, dec_one, .inr ⟨by decide, by decide⟩⟩
  | succ i ih =>
    obtain ⟨b, hb, hn⟩ := ih (by omega)
    obtain ⟨r1, e1, n1⟩ := mul_leB h hn (by omega) (by omega)
    obtain ⟨n, j, hk, hk0, hk1, hk2⟩ := kF_dec i (by omega)
    obtain ⟨r2, e2, n2⟩ := quo_leB (C := 0) n1 hk hk0 hk1 hk2 (by omega) (by omega)
    obtain ⟨r3, e3, n3⟩ := add1_leB n2
    exact ⟨r3, by rw [hornerF, hb, e1, e2, e3], n3⟩
theorem squareF_le {p : Nat} (h : numB 0 false (FloatKind.f64.decode p)) (i : Nat) : ∃ b, squareF (some p) i = some b ∧ numB 0 false (FloatKind.f64.decode b) := by
  induction i with
  | zero => exact ⟨p, rfl, h⟩
  | succ i ih =>
    obtain ⟨b, hb, hn⟩ := ih
    obtain ⟨r, e, n⟩ := mul_leB hn hn (by omega) (by omega)
    exact ⟨r, by rw [squareF, hb, e], n⟩

end Go.Proofs.YtncbkbfkdgggkaaDoor

namespace Go.Proofs.YtncbkbfkdgggkaaDoor
open Go.RowKit

/-- A number of a sign, or an infinity of it. -/
def sgD (s : Bool) (d : Ieee.Datum) : Prop := (∃ m e, d = .number s m e) ∨ d = .infinity s
theorem read32_sgn (s : Bool) (r : Nat) (h : r ≤ 2139095040) : sgD s (Ieee.single.read (Ieee.single.word s r)) := by
  have e1 : Ieee.single.signWeight = 2147483648 := by decide
  have e2 : Ieee.single.binade = 8388608 := by decide
  have e3 : Ieee.single.infRung = 2139095040 := by decide
  unfold Ieee.Format.read Ieee.Format.word
  simp only [e1, e2, e3]
  have hm : (if s = true then 2147483648 + r else r) % 2147483648 = r := by split <;> omega
  have hs : ((if s = true then 2147483648 + r else r) / 2147483648 % 2 == 1) = s := by
    cases s
    · simp; omega
    · simp; omega
  rw [hm, hs]
  split
  · exact .inl ⟨_, _, rfl⟩
  · split
    · exact .inl ⟨_, _, rfl⟩
    · split
      · exact .inr rfl
      · omega
theorem enc32_sgn (s : Bool) (m : Nat) (e : Int) : sgD s (FloatKind.f32.decode (FloatKind.f32.encode (.number s m e))) := by
  show sgD s (Ieee.single.read (Ieee.single.nearest s m e))
  have e3 : Ieee.single.infRung = 2139095040 := by decide
  unfold Ieee.Format.nearest
  split
  · exact read32_sgn s 0 (by omega)
  · refine read32_sgn s _ ?_
    rw [e3]; exact Nat.min_le_right _ _
theorem inf32_sgn (s : Bool) : sgD s (FloatKind.f32.decode (FloatKind.f32.encode (.infinity s))) := read32_sgn s 2139095040 (Nat.le_refl _)
theorem write32_sgn {s : Bool} {d : Ieee.Datum} (h : sgD s d) : sgD s (FloatKind.f32.decode (FloatKind.f32.format.write d)) := by
  rcases h with ⟨m, e, rfl⟩ | rfl
  · exact enc32_sgn s m e
  · exact inf32_sgn s
theorem sgn_notNaN {s : Bool} {d : Ieee.Datum} (h : sgD s d) : d.isNaN = false := by
  rcases h with ⟨m, e, rfl⟩ | rfl <;> rfl

/-- -0.6931472 -/
def cLn : Nat := 3207688728
theorem cLn_dec : FloatKind.f32.decode cLn = .number true 11629080 (-24) := by decide
/-- The exponent: -0.6931472 times a time, over a half. -/
def expQ (dt : Int) (H : Nat) : Option Nat := fbin .quo .f32 (fbin .mul .f32 (some cLn) (some (floatOfInt .f32 dt))) (some H)
theorem expQ_neg {dt : Int} {H : Nat} {n : Nat} {j : Int} (h0 : 0 ≤ dt) (hH : FloatKind.f32.decode H = .number false n j) (hn : n ≠ 0) : ∃ b, expQ dt H = some b ∧ sgD true (FloatKind.f32.decode b) := by
  have hd : sgD false (FloatKind.f32.decode (floatOfInt .f32 dt)) := by
    have e : floatOfInt .f32 dt = FloatKind.f32.encode (.number (decide (dt < 0)) dt.natAbs 0) := rfl
    rw [e, decide_eq_false (by omega)]
    exact enc32_sgn _ _ _
  obtain ⟨r1, h1, s1⟩ : ∃ r, fbin .mul .f32 (some cLn) (some (floatOfInt .f32 dt)) = some r ∧ sgD true (FloatKind.f32.decode r) := by
    rcases hd with ⟨m, e, hd⟩ | hd
    · refine ⟨FloatKind.f32.format.write (.number true (11629080 * m) (-24 + e)), ?_, enc32_sgn _ _ _⟩
      show floatBits .mul .f32 cLn (floatOfInt .f32 dt) = _
      unfold floatBits Ieee.Format.mul
      show ((FloatKind.f32.decode cLn).product (FloatKind.f32.decode (floatOfInt .f32 dt))).map _ = _
      rw [cLn_dec, hd]
      rfl
    · refine ⟨FloatKind.f32.format.write (.infinity true), ?_, inf32_sgn _⟩
      show floatBits .mul .f32 cLn (floatOfInt .f32 dt) = _
      unfold floatBits Ieee.Format.mul
      show ((FloatKind.f32.decode cLn).product (FloatKind.f32.decode (floatOfInt .f32 dt))).map _ = _
      rw [cLn_dec, hd]
      rfl
  have he : ∃ q, floatBits .quo .f32 r1 H = ((FloatKind.f32.decode r1).quotient q (FloatKind.f32.decode H)).map FloatKind.f32.format.write := ⟨_, rfl⟩
  obtain ⟨q, he⟩ := he
  have e0 : expQ dt H = floatBits .quo .f32 r1 H := by unfold expQ; rw [h1]; rfl
  rcases s1 with ⟨m, e, hd1⟩ | hd1
  · rw [hd1, hH] at he
    unfold Ieee.Datum.quotient at he
    simp only [if_neg hn, Option.map_some, Bool.xor_false] at he
    exact ⟨_, e0.trans he, enc32_sgn _ _ _⟩
  · rw [hd1, hH] at he
    have he2 : floatBits .quo .f32 r1 H = some (FloatKind.f32.format.write (.infinity (true ^^ false))) := he
    exact ⟨_, e0.trans he2, inf32_sgn _⟩

/-- Two numbers stand to one another as their values do. -/
theorem order_shift (s t : Bool) (m n d f : Nat) (i j : Int) : (Ieee.Datum.number s (m <<< d) (i - d)).order (.number t (n <<< f) (j - f)) = (Ieee.Datum.number s m i).order (.number t n j) := by
  show some (compare (Ieee.signed s (m <<< d) _) (Ieee.signed t (n <<< f) _)) = some (compare (Ieee.signed s m _) (Ieee.signed t n _))
  have hb : min (i - d) (j - f) ≤ min i j := by omega
  obtain ⟨g, hg⟩ : ∃ g : Nat, min i j - min (i - d) (j - f) = (g : Int) := ⟨(min i j - min (i - d) (j - f)).toNat, by omega⟩
  have h1 : ∀ (s : Bool) (m a b : Nat), Ieee.signed s (m <<< a) b = Ieee.signed s m (b + a) := by
    intro s m a b
    unfold Ieee.signed
    rw [← Nat.shiftLeft_add, Nat.add_comm a b]
  have h2 : ∀ (s : Bool) (m a : Nat), Ieee.signed s m (a + g) = Ieee.signed s m a * (2 ^ g : Nat) := by
    intro s m a
    unfold Ieee.signed
    rw [Nat.shiftLeft_add]
    cases s
    · simp only [Bool.false_eq_true, if_false, Nat.shiftLeft_eq]; push_cast; rfl
    · simp only [if_true, Nat.shiftLeft_eq]; push_cast; rw [Int.neg_mul]
  rw [h1, h1]
  have e1 : (i - d - min (i - d) (j - f)).toNat + d = (i - min i j).toNat + g := by omega
  have e2 : (j - f - min (i - d) (j - f)).toNat + f = (j - min i j).toNat + g := by omega
  rw [e1, e2, h2, h2]
  have hp : (0 : Int) < ((2 ^ g : Nat) : Int) := by have := Nat.two_pow_pos g; omega
  generalize ((2 ^ g : Nat) : Int) = G at hp
  generalize Ieee.signed s m _ = A
  generalize Ieee.signed t n _ = B
  congr 1
  rcases Int.lt_trichotomy A B with h | h | h
  · have h' : A * G < B * G := Int.mul_lt_mul_of_pos_right h hp
    rw [Int.compare_eq_lt.2 h, Int.compare_eq_lt.2 h']
  · subst h; simp
  · have h' : B * G < A * G := Int.mul_lt_mul_of_pos_right h hp
    rw [Int.compare_eq_gt.2 h, Int.compare_eq_gt.2 h']

theorem read64_num (s : Bool) (r : Nat) (h1 : 4503599627370496 ≤ r) (h : r < 9218868437227405312) : Ieee.double.read (Ieee.double.word s r) = .number s (4503599627370496 + r % 4503599627370496) (-1074 + ((r / 4503599627370496 - 1 : Nat) : Int)) := by
  have e1 : Ieee.double.signWeight = 9223372036854775808 := by decide
  have e2 : Ieee.double.binade = 4503599627370496 := by decide
  have e3 : Ieee.double.infRung = 9218868437227405312 := by decide
  have e4 : Ieee.double.leastPlace = -1074 := by decide
  unfold Ieee.Format.read Ieee.Format.word
  simp only [e1, e2, e3, e4]
  have hm : (if s = true then 9223372036854775808 + r else r) % 9223372036854775808 = r := by split <;> omega
  have hs : ((if s = true then 9223372036854775808 + r else r) / 9223372036854775808 % 2 == 1) = s := by
    cases s
    · simp; omega
    · simp; omega
  rw [hm, hs, if_neg (by omega), if_pos h]
theorem shl_ge {m : Nat} (hm : m ≠ 0) (q : Nat) (hq : m.log2 ≤ q) : 2 ^ q ≤ m <<< (q - m.log2) := by
  rw [Nat.shiftLeft_eq]
  have h1 : 2 ^ m.log2 ≤ m := (Nat.le_log2 hm).1 (Nat.le_refl _)
  calc 2 ^ q = 2 ^ m.log2 * 2 ^ (q - m.log2) := by rw [← Nat.pow_add]; congr 1; omega
    _ ≤ _ := Nat.mul_le_mul_right _ h1
theorem min_word {qq kk : Nat} (h1 : qq ≤ 1149) (h2 : kk < 9007199254740992) : min (qq * 4503599627370496 + kk) 9218868437227405312 = qq * 4503599627370496 + kk := by
  apply Nat.min_eq_left
  omega
theorem read_rung {s : Bool} {qq kk : Nat} (h1 : qq ≤ 1149) (h2 : kk < 9007199254740992) (h3 : 4503599627370496 ≤ kk) : Ieee.double.read (Ieee.double.word s (min (qq * 4503599627370496 + kk) 9218868437227405312)) = .number s kk (-1074 + (qq : Int)) := by
  rw [min_word h1 h2, read64_num s _ (by omega) (by omega)]
  have hd : (qq * 4503599627370496 + kk) / 4503599627370496 = qq + 1 := by omega
  have hmo : (qq * 4503599627370496 + kk) % 4503599627370496 = kk - 4503599627370496 := by omega
  have ea : 4503599627370496 + (kk - 4503599627370496) = kk := by omega
  have eb : qq + 1 - 1 = qq := by omega
  rw [hd, hmo, ea, eb]
/-- A float32 as a float64: the same number. -/
theorem widen_dec (b : Nat) {s : Bool} {m : Nat} {e : Int} (h : FloatKind.f32.decode b = .number s m e) (h0 : m ≠ 0) :
    FloatKind.f64.decode (FloatKind.f64.encode (.number s m e)) = .number s (m <<< (52 - m.log2)) (e - ((52 - m.log2 : Nat) : Int)) := by
  obtain ⟨hm, he1, he2⟩ := read32_bd b h
  show Ieee.double.read (Ieee.double.nearest s m e) = _
  unfold Ieee.Format.nearest
  rw [if_neg h0]
  have hl := log2_lt24 h0 hm
  have e3 : Ieee.double.infRung = 9218868437227405312 := by decide
  have e4 : Ieee.double.leastPlace = -1074 := by decide
  have e5 : Ieee.double.fractionBits = 52 := rfl
  have e2 : Ieee.double.binade = 4503599627370496 := by decide
  simp only [e4, e5, e2, e3]
  have hlast : max (e + (m.log2 : Int) - ((52 : Nat) : Int)) (-1074) = e + m.log2 - 52 := by omega
  rw [hlast]
  have h1 : (e - (e + (m.log2 : Int) - 52)).toNat = 52 - m.log2 := by omega
  have h2 : ((e + (m.log2 : Int) - 52) - e).toNat = 0 := by omega
  rw [h1, h2, cut_zero]
  have h3 : m <<< (52 - m.log2) < 9007199254740992 := shl_lt h0 52 (by omega)
  have h3' := shl_ge h0 52 (by omega)
  have e52 : (2 : Nat) ^ 52 = 4503599627370496 := by decide
  rw [e52] at h3'
  generalize m <<< (52 - m.log2) = kk at h3 h3'
  have h4 : ((e + (m.log2 : Int) - 52) - -1074).toNat ≤ 1149 := by omega
  have h5 : -1074 + ((((e + (m.log2 : Int) - 52) - -1074).toNat : Nat) : Int) = e - ((52 - m.log2 : Nat) : Int) := by omega
  rw [← h5]
  exact read_rung h4 h3 h3'
theorem widen_zero (b : Nat) {s : Bool} {e : Int} (h : FloatKind.f32.decode b = .number s 0 e) : ∃ p, FloatKind.f64.decode (FloatKind.f64.encode (.number s 0 e)) = .number s 0 p := by
  have e0 : FloatKind.f64.encode (.number s 0 e) = Ieee.double.word s 0 := by
    show Ieee.double.nearest s 0 e = _
    unfold Ieee.Format.nearest
    rw [if_pos rfl]
  rw [e0]
  cases s
  · exact ⟨_, rfl⟩
  · exact ⟨_, rfl⟩
/-- -200 in both kinds -/
theorem m200_32 : FloatKind.f32.decode 3276275712 = .number true 13107200 (-16) := by decide
theorem m200_64 : FloatKind.f64.decode 13864612927836782592 = .number true (13107200 <<< 29) (-16 - ((29 : Nat) : Int)) := by decide +kernel
theorem p200_32 : FloatKind.f32.decode 1128792064 = .number false 13107200 (-16) := by decide
theorem p200_64 : FloatKind.f64.decode 4641240890982006784 = .number false (13107200 <<< 29) (-16 - ((29 : Nat) : Int)) := by decide +kernel
theorem order_zero_neg (s : Bool) (e j : Int) (n : Nat) (hn : n ≠ 0) : (Ieee.Datum.number s 0 e).order (.number true n j) = some .gt := by
  show some (compare (Ieee.signed s 0 _) (Ieee.signed true n _)) = _
  congr 1
  have h1 : Ieee.signed s 0 (e - min e j).toNat = 0 := by cases s <;> simp [Ieee.signed]
  have h2 : Ieee.signed true n (j - min e j).toNat < 0 := by
    unfold Ieee.signed
    rw [if_pos rfl, Nat.shiftLeft_eq]
    have := Nat.mul_pos (Nat.pos_of_ne_zero hn) (Nat.two_pow_pos (j - min e j).toNat)
    omega
  rw [h1]
  exact Int.compare_eq_gt.2 h2
theorem order_neg_pos (m : Nat) (e j : Int) (n : Nat) (hn : n ≠ 0) : (Ieee.Datum.number true m e).order (.number false n j) = some .lt := by
  show some (compare (Ieee.signed true m _) (Ieee.signed false n _)) = _
  congr 1
  have h1 : Ieee.signed true m (e - min e j).toNat ≤ 0 := by unfold Ieee.signed; rw [if_pos rfl]; generalize m <<< (e - min e j).toNat = g; omega
  have h2 : 0 < Ieee.signed false n (j - min e j).toNat := by
    unfold Ieee.signed
    simp only [Bool.false_eq_true, if_false, Nat.shiftLeft_eq]
    have := Nat.mul_pos (Nat.pos_of_ne_zero hn) (Nat.two_pow_pos (j - min e j).toNat)
    omega
  exact Int.compare_eq_lt.2 (by omega)
/-- How it stands to -200, in both kinds. -/
theorem order_m200 {b : Nat} (h : sgD true (FloatKind.f32.decode b)) : FloatKind.f64.format.order (FloatKind.f64.encode (FloatKind.f32.decode b)) 13864612927836782592 = FloatKind.f32.format.order b 3276275712 := by
  show (FloatKind.f64.decode (FloatKind.f64.encode (FloatKind.f32.decode b))).order (FloatKind.f64.decode 13864612927836782592) = (FloatKind.f32.decode b).order (FloatKind.f32.decode 3276275712)
  rw [m200_32, m200_64]
  rcases h with ⟨m, e, hd⟩ | hd
  · rw [hd]
    by_cases h0 : m = 0
    · subst h0
      obtain ⟨p, hp⟩ := widen_zero b hd
      rw [hp, order_zero_neg _ _ _ _ (by decide), order_zero_neg _ _ _ _ (by decide)]
    · rw [widen_dec b hd h0, order_shift]
  · rw [hd]
    rfl
theorem order_p200 {b : Nat} (h : sgD true (FloatKind.f32.decode b)) : FloatKind.f32.format.order b 1128792064 = some .lt ∧ FloatKind.f64.format.order (FloatKind.f64.encode (FloatKind.f32.decode b)) 4641240890982006784 = some .lt := by
  refine ⟨?_, ?_⟩
  · show (FloatKind.f32.decode b).order (FloatKind.f32.decode 1128792064) = _
    rw [p200_32]
    rcases h with ⟨m, e, hd⟩ | hd
    · rw [hd]; exact order_neg_pos _ _ _ _ (by decide)
    · rw [hd]; rfl
  · show (FloatKind.f64.decode (FloatKind.f64.encode (FloatKind.f32.decode b))).order (FloatKind.f64.decode 4641240890982006784) = _
    rw [p200_64]
    rcases h with ⟨m, e, hd⟩ | hd
    · rw [hd]
      by_cases h0 : m = 0
      · subst h0
        obtain ⟨p, hp⟩ := widen_zero b hd
        rw [hp]; exact order_neg_pos _ _ _ _ (by decide)
      · rw [widen_dec b hd h0]; exact order_neg_pos _ _ _ _ (by decide)
    · rw [hd]; rfl
theorem order_self64 {b : Nat} (h : sgD true (FloatKind.f32.decode b)) : FloatKind.f64.format.order (FloatKind.f64.encode (FloatKind.f32.decode b)) (FloatKind.f64.encode (FloatKind.f32.decode b)) = some .eq := by
  apply order_self
  rcases h with ⟨m, e, hd⟩ | hd
  · rw [hd]; exact write_notNaN .f64 _ rfl
  · rw [hd]; exact write_notNaN .f64 _ rfl

/-- What is not below -200 is at most 2^8. -/
theorem m200_leB {b : Nat} (h : sgD true (FloatKind.f32.decode b)) (ho : FloatKind.f32.format.order b 3276275712 ≠ some .lt) : numB 8 true (FloatKind.f32.decode b) := by
  have ho' : (FloatKind.f32.decode b).order (FloatKind.f32.decode 3276275712) ≠ some .lt := ho
  rw [m200_32] at ho'
  rcases h with ⟨m, e, hd⟩ | hd
  · rw [hd] at ho' ⊢
    refine ⟨m, e, rfl, ?_⟩
    by_cases h0 : m = 0
    · exact .inl h0
    right
    have hc : compare (Ieee.signed true m (e - min e (-16)).toNat) (Ieee.signed true 13107200 (-16 - min e (-16)).toNat) ≠ .lt := fun hh => ho' (congrArg some hh)
    rw [Ne, Int.compare_eq_lt] at hc
    unfold Ieee.signed at hc
    rw [if_pos rfl, if_pos rfl, Nat.shiftLeft_eq, Nat.shiftLeft_eq] at hc
    have hc2 : m * 2 ^ (e - min e (-16)).toNat ≤ 13107200 * 2 ^ (-16 - min e (-16)).toNat := by omega
    have h24 : (13107200 : Nat) ≤ 2 ^ 24 := by decide
    rcases Int.le_total e (-16) with hle | hle
    · have e1 : (e - min e (-16)).toNat = 0 := by omega
      have e2 : (-16 - min e (-16)).toNat = (-16 - e).toNat := by omega
      rw [e1, e2, Nat.pow_zero, Nat.mul_one] at hc2
      refine ⟨by omega, Nat.le_trans hc2 ?_⟩
      have e3 : (8 - e).toNat = 24 + (-16 - e).toNat := by omega
      rw [e3, Nat.pow_add]
      exact Nat.mul_le_mul_right _ h24
    · have e1 : (e - min e (-16)).toNat = (e + 16).toNat := by omega
      have e2 : (-16 - min e (-16)).toNat = 0 := by omega
      rw [e1, e2, Nat.pow_zero, Nat.mul_one] at hc2
      have hc3 : m * 2 ^ (e + 16).toNat ≤ 2 ^ 24 := Nat.le_trans hc2 h24
      have h1 : 1 * 2 ^ (e + 16).toNat ≤ 2 ^ 24 := Nat.le_trans (Nat.mul_le_mul_right _ (Nat.pos_of_ne_zero h0)) hc3
      have h2 : (e + 16).toNat ≤ 24 := by
        rw [Nat.one_mul] at h1
        exact (Nat.pow_le_pow_iff_right (by decide)).1 h1
      refine ⟨by omega, ?_⟩
      have e3 : 24 = (8 - e).toNat + (e + 16).toNat := by omega
      rw [e3, Nat.pow_add] at hc3
      exact Nat.le_of_mul_le_mul_right hc3 (Nat.two_pow_pos _)
  · rw [hd] at ho'
    exact absurd rfl ho'

/-- e to the power. -/
def expT (b : Nat) : Option Nat := fbin .quo .f64 (widen (some b)) (some 4643211215818981376)
def expO (b : Nat) : Option Nat := if FloatKind.f32.format.order b 3276275712 = some .lt then some 0 else narrow (squareF (hornerF (expT b) 12) 8)
theorem c256 : FloatKind.f64.decode 4643211215818981376 = .number false 4503599627370496 (-44) := by decide +kernel
theorem expT_ok {b : Nat} (h : sgD true (FloatKind.f32.decode b)) (ho : FloatKind.f32.format.order b 3276275712 ≠ some .lt) : ∃ t, expT b = some t ∧ numB 0 true (FloatKind.f64.decode t) := by
  have h8 := m200_leB h ho
  obtain ⟨m, e, hd, hl⟩ := h8
  have hw : numB 8 true (FloatKind.f64.decode (FloatKind.f64.encode (FloatKind.f32.decode b))) := by rw [hd]; exact enc64_leB hl (by omega) (by omega)
  obtain ⟨r, hr, hn⟩ := quo_leB (C := 8) hw c256 (by decide) (by omega) (by decide) (by omega) (by omega)
  exact ⟨r, hr, hn⟩
theorem expS_ok {b : Nat} (h : sgD true (FloatKind.f32.decode b)) (ho : FloatKind.f32.format.order b 3276275712 ≠ some .lt) : ∃ p, squareF (hornerF (expT b) 12) 8 = some p ∧ numB 0 false (FloatKind.f64.decode p) := by
  obtain ⟨t, ht, hn⟩ := expT_ok h ho
  obtain ⟨p, hp, hpn⟩ := hornerF_le hn 12 (by omega)
  obtain ⟨r, hr, hrn⟩ := squareF_le hpn 8
  exact ⟨r, by rw [ht, hp, hr], hrn⟩
theorem exp_fits {b : Nat} (h : sgD true (FloatKind.f32.decode b)) (ho : FloatKind.f32.format.order b 3276275712 ≠ some .lt) : fits (squareF (hornerF (expT b) 12) 8) := by
  obtain ⟨p, hp, hn⟩ := expS_ok h ho
  intro q hq
  rw [hp] at hq
  simp at hq
  subst hq
  exact mag_mono (numB_mag hn) (by omega)

end Go.Proofs.YtncbkbfkdgggkaaDoor

namespace Go.Proofs.YtncbkbfkdgggkaaDoor
open Go.RowKit

def RetF64 (w : World) (o : Option Nat) (en : Ending) (w' : World) : Prop :=
  ∃ r, en = .returned (.float .f64 r) ∧ cn .f64 r = o ∧ Below w.heap.size w w'

def rootC (o : Option Nat) : Option Nat := narrow (fsqrt (widen o))

def normR (xs : List Nat) : Option Nat := if isVec xs then ifFin (rootC (dotC xs xs)) else some 0
def normB (xs : List Nat) : Bool := isVec xs && fin .f32 (rootC (dotC xs xs))

end Go.Proofs.YtncbkbfkdgggkaaDoor

namespace Go.Proofs.YtncbkbfkdgggkaaDoor
open Go.RowKit

theorem RN.nearG32 {x y : Rat} {g : Int} {M E : Rat} (h : RN .f32 x y) (hg : -149 ≤ g) (hM : 8388608 * tp g = M) (hE : tp g = E) (h1 : -M ≤ x) (h2 : x ≤ M) : x - E ≤ y ∧ y ≤ x + E := by
  have hs : ((2 ^ fB .f32 : Nat) : Rat) * tp g = M := by rw [p23]; exact hM
  have := h.near (g := g) hg (by rw [hs]; exact h1) (by rw [hs]; exact h2)
  rwa [hE] at this
theorem RN.n64 {x y : Rat} (h : RN .f32 x y) (h1 : -64 ≤ x) (h2 : x ≤ 64) : x - 1 / 131072 ≤ y ∧ y ≤ x + 1 / 131072 := h.nearG32 (g := -17) (by decide) (by decide +kernel) (by decide +kernel) h1 h2
theorem RN.n128 {x y : Rat} (h : RN .f32 x y) (h1 : -128 ≤ x) (h2 : x ≤ 128) : x - 1 / 65536 ≤ y ∧ y ≤ x + 1 / 65536 := h.nearG32 (g := -16) (by decide) (by decide +kernel) (by decide +kernel) h1 h2
theorem RN.n1024 {x y : Rat} (h : RN .f32 x y) (h1 : -1024 ≤ x) (h2 : x ≤ 1024) : x - 1 / 8192 ≤ y ∧ y ≤ x + 1 / 8192 := h.nearG32 (g := -13) (by decide) (by decide +kernel) (by decide +kernel) h1 h2


theorem cnN {k : FloatKind} {b : Nat} (h : isN k b) : cn k b = some b := by
  obtain ⟨s, m, e, hd⟩ := h
  unfold cn
  rw [hd]
  rfl
theorem finN {k : FloatKind} {b : Nat} (h : isN k b) : fin k (some b) = true := by
  obtain ⟨s, m, e, hd⟩ := h
  unfold fin
  simp only [hd]
  rfl

end Go.Proofs.YtncbkbfkdgggkaaDoor

namespace Go.Proofs.YtncbkbfkdgggkaaDoor
open Go.RowKit

/-- A float32 as a float64. -/
def wid (x : Nat) : Nat := FloatKind.f64.encode (FloatKind.f32.decode x)
theorem wid_val {x : Nat} (h : isN .f32 x) : isN .f64 (wid x) ∧ val .f64 (wid x) = val .f32 x ∧ floatToFloatBits .f32 x .f64 = some (wid x) := by
  obtain ⟨r, h1, h2, h3⟩ := widen_val h
  have e : r = wid x := by have : widen (some x) = some (wid x) := rfl; rw [this] at h1; exact (Option.some.inj h1).symm
  subst e
  refine ⟨h2, h3, ?_⟩
  obtain ⟨s, m, e, hd⟩ := h
  have hf := widen_fits x hd
  unfold floatToFloatBits wid
  rw [if_neg (by decide), hd]
  simp only
  rw [hf]; rfl

end Go.Proofs.YtncbkbfkdgggkaaDoor

namespace Go.Proofs.YtncbkbfkdgggkaaDoor
open Go.RowKit

theorem info_b : (Tryd.prog.info? 4).map (fun i => (i.zero, i.size, i.bytes)) = some (some (.bool false), 1, 1) := by kernel_rfl

end Go.Proofs.YtncbkbfkdgggkaaDoor

namespace Go.Proofs.YtncbkbfkdgggkaaDoor
open Go.RowKit

end Go.Proofs.YtncbkbfkdgggkaaDoor

namespace Go.Proofs.YtncbkbfkdgggkaaDoor
open Go.RowKit

theorem bool_ne {a b : Bool} (h : (a != b) = true) : ¬ a = b := by simpa using h

end Go.Proofs.YtncbkbfkdgggkaaDoor

namespace Go.Proofs.YtncbkbfkdgggkaaDoor
open Go.RowKit

end Go.Proofs.YtncbkbfkdgggkaaDoor

namespace Go.Proofs.YtncbkbfkdgggkaaDoor
open Go.RowKit

theorem info_s : (Tryd.prog.info? 9).map (fun i => (i.zero, i.size, i.bytes)) = some (some (.string ByteArray.empty), 1, 16) := by kernel_rfl

end Go.Proofs.YtncbkbfkdgggkaaDoor
