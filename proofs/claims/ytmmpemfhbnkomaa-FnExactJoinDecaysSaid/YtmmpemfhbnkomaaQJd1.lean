/- Floats, whatever the bits of a NaN are: 'cn' forgets them; each operation is a function of what 'cn' leaves. The walks of the laws' small helpers on slices of float32. slices.IndexFunc and slices.ContainsFunc at []float32, for whatever closure. IsFinite, finite lists, vectors. sameFloat, and eq.. on lists of float32. eq.. on lists of float32. The sum of the products of two vectors, in both texts; a number if it is finite. Narrowing a float64 to a float32 where it fits; the square root. Numbers of at most a power of two among floats; the exponential function of what is below nought, plain. Decays: what is computed of floats: plain. RootNumber: the square root of a float32, narrowed. -/
import Derived.Test.YtmmpemfhbnkomaaQJd0
import Derived.Test.YtmmpemfhbnkomaaRows
set_option linter.unusedVariables false
set_option linter.unusedSimpArgs false
namespace Go.Proofs.Ytmmpemfhbnkomaa
open Go.RowKit

/-- The bits of a float that is a number or an infinity; nothing of a NaN. -/
def cn (k : FloatKind) (b : Nat) : Option Nat := if (k.decode b).isNaN then none else some b

theorem read_word32 (neg : Bool) (r : Nat) (h : r ≤ 2139095040) : (Ieee.single.read (Ieee.single.word neg r)).isNaN = false := by
  have e1 : Ieee.single.signWeight = 2147483648 := by decide
  have e2 : Ieee.single.binade = 8388608 := by decide
  have e3 : Ieee.single.infRung = 2139095040 := by decide
  unfold Ieee.Format.read Ieee.Format.word
  simp only [e1, e2, e3]
  have hm : (if neg = true then 2147483648 + r else r) % 2147483648 = r := by split <;> omega
  rw [hm]
  split
  · rfl
  · split
    · rfl
    · split
      · rfl
      · omega
theorem read_word64 (neg : Bool) (r : Nat) (h : r ≤ 9218868437227405312) : (Ieee.double.read (Ieee.double.word neg r)).isNaN = false := by
  have e1 : Ieee.double.signWeight = 9223372036854775808 := by decide
  have e2 : Ieee.double.binade = 4503599627370496 := by decide
  have e3 : Ieee.double.infRung = 9218868437227405312 := by decide
  unfold Ieee.Format.read Ieee.Format.word
  simp only [e1, e2, e3]
  have hm : (if neg = true then 9223372036854775808 + r else r) % 9223372036854775808 = r := by split <;> omega
  rw [hm]
  split
  · rfl
  · split
    · rfl
    · split
      · rfl
      · omega

theorem read_word (k : FloatKind) (neg : Bool) (r : Nat) (h : r ≤ k.format.infRung) : (k.decode (k.format.word neg r)).isNaN = false := by
  cases k
  · exact read_word32 neg r (by have e3 : Ieee.single.infRung = 2139095040 := by decide
                                rw [← e3]; exact h)
  · exact read_word64 neg r (by have e3 : Ieee.double.infRung = 9218868437227405312 := by decide
                                rw [← e3]; exact h)

theorem nearest_notNaN (k : FloatKind) (neg : Bool) (m : Nat) (p : Int) : (k.decode (k.format.nearest neg m p)).isNaN = false := by
  unfold Ieee.Format.nearest
  split
  · exact read_word k neg 0 (Nat.zero_le _)
  · exact read_word k neg _ (Nat.min_le_right _ _)

theorem write_notNaN (k : FloatKind) (d : Ieee.Datum) (h : d.isNaN = false) : (k.decode (k.format.write d)).isNaN = false := by
  cases d with
  | number s m e => exact nearest_notNaN k s m e
  | infinity s => exact read_word k s _ (Nat.le_refl _)
  | nan s t => simp [Ieee.Datum.isNaN] at h

theorem cn_write (k : FloatKind) (d : Ieee.Datum) (h : d.isNaN = false) : cn k (k.format.write d) = some (k.format.write d) := by simp [cn, write_notNaN k d h]
theorem cn_ofInt (k : FloatKind) (n : Int) : cn k (floatOfInt k n) = some (floatOfInt k n) := cn_write k (.number (n < 0) n.natAbs 0) rfl

theorem cn_some {k : FloatKind} {b c : Nat} (h : cn k b = some c) : b = c ∧ (k.decode b).isNaN = false := by
  unfold cn at h
  split at h
  · simp at h
  · rename_i h2; simp at h; exact ⟨h, by simpa using h2⟩
theorem cn_none {k : FloatKind} {b : Nat} (h : cn k b = none) : ∃ s t, k.decode b = .nan s t := by
  unfold cn at h
  split at h
  · rename_i h2
    cases hd : k.decode b with
    | nan s t => exact ⟨s, t, rfl⟩
    | number => rw [hd] at h2; simp [Ieee.Datum.isNaN] at h2
    | infinity => rw [hd] at h2; simp [Ieee.Datum.isNaN] at h2
  · simp at h

/-- An operation on what 'cn' leaves. -/
def fbin (bop : BinOp) (k : FloatKind) (x y : Option Nat) : Option Nat := x.bind fun a => y.bind fun b => floatBits bop k a b

theorem sum_nan {d e f : Ieee.Datum} (h : d.sum e = some f) : d.isNaN = false ∧ e.isNaN = false ∧ f.isNaN = false := by
  cases d <;> cases e <;> simp [Ieee.Datum.sum, Ieee.Datum.isNaN] at h ⊢ <;> first | (obtain ⟨_, rfl⟩ := h; simp) | (subst h; simp)
theorem product_nan {d e f : Ieee.Datum} (h : d.product e = some f) : d.isNaN = false ∧ e.isNaN = false ∧ f.isNaN = false := by
  cases d <;> cases e <;> simp [Ieee.Datum.product, Ieee.Datum.isNaN] at h ⊢ <;> first | (obtain ⟨_, rfl⟩ := h; simp) | (subst h; simp)
theorem quotient_nan {q : Nat} {d e f : Ieee.Datum} (h : d.quotient q e = some f) : d.isNaN = false ∧ e.isNaN = false ∧ f.isNaN = false := by
  cases d <;> cases e <;> simp [Ieee.Datum.quotient, Ieee.Datum.isNaN] at h ⊢ <;> first | (subst h; simp; done) | skip
  split at h
  · split at h
    · simp at h
    · simp at h; subst h; simp
  · simp at h; subst h; simp

theorem opposite_nan (d : Ieee.Datum) : d.opposite.isNaN = d.isNaN := by cases d <;> rfl

theorem floatBits_nan {bop : BinOp} {k : FloatKind} {a b r : Nat} (h : floatBits bop k a b = some r) : (k.decode a).isNaN = false ∧ (k.decode b).isNaN = false ∧ (k.decode r).isNaN = false := by
  unfold floatBits at h
  split at h
  · unfold Ieee.Format.add at h
    simp at h; obtain ⟨d, hd, rfl⟩ := h
    have := sum_nan hd
    exact ⟨this.1, this.2.1, write_notNaN k d this.2.2⟩
  · unfold Ieee.Format.sub at h
    simp at h; obtain ⟨d, hd, rfl⟩ := h
    have := sum_nan hd
    rw [opposite_nan] at this
    exact ⟨this.1, this.2.1, write_notNaN k d this.2.2⟩
  · unfold Ieee.Format.mul at h
    simp at h; obtain ⟨d, hd, rfl⟩ := h
    have := product_nan hd
    exact ⟨this.1, this.2.1, write_notNaN k d this.2.2⟩
  · unfold Ieee.Format.div at h
    simp at h; obtain ⟨d, hd, rfl⟩ := h
    have := quotient_nan hd
    exact ⟨this.1, this.2.1, write_notNaN k d this.2.2⟩
  · simp at h

theorem nan32 (p q : Nat) (hp : p < 2) (hq : q < 8388607) : (Ieee.single.read (p * 2147483648 + 2139095041 + q)).isNaN = true := by
  have e1 : Ieee.single.signWeight = 2147483648 := by decide
  have e2 : Ieee.single.binade = 8388608 := by decide
  have e3 : Ieee.single.infRung = 2139095040 := by decide
  have hm : (p * 2147483648 + 2139095041 + q) % 2147483648 = 2139095041 + q := by omega
  unfold Ieee.Format.read
  simp only [e1, e2, e3, hm]
  rw [if_neg (by omega), if_neg (by omega), if_neg (by omega)]
  rfl
theorem nan64 (p q : Nat) (hp : p < 2) (hq : q < 4503599627370495) : (Ieee.double.read (p * 9223372036854775808 + 9218868437227405313 + q)).isNaN = true := by
  have e1 : Ieee.double.signWeight = 9223372036854775808 := by decide
  have e2 : Ieee.double.binade = 4503599627370496 := by decide
  have e3 : Ieee.double.infRung = 9218868437227405312 := by decide
  have hm : (p * 9223372036854775808 + 9218868437227405313 + q) % 9223372036854775808 = 9218868437227405313 + q := by omega
  unfold Ieee.Format.read
  simp only [e1, e2, e3, hm]
  rw [if_neg (by omega), if_neg (by omega), if_neg (by omega)]
  rfl

theorem nanCut32 (t : Nat) : (Ieee.single.read ((t % 2) * 2147483648 + 2139095040 + 1 + (t / 2) % 8388607)).isNaN = true := by
  have := nan32 (t % 2) ((t / 2) % 8388607) (by omega) (Nat.mod_lt _ (by omega))
  rwa [show (t % 2) * 2147483648 + 2139095040 + 1 + (t / 2) % 8388607 = (t % 2) * 2147483648 + 2139095041 + (t / 2) % 8388607 by omega]
theorem nanCut64 (t : Nat) : (Ieee.double.read ((t % 2) * 9223372036854775808 + 9218868437227405312 + 1 + (t / 2) % 4503599627370495)).isNaN = true := by
  have := nan64 (t % 2) ((t / 2) % 4503599627370495) (by omega) (Nat.mod_lt _ (by omega))
  rwa [show (t % 2) * 9223372036854775808 + 9218868437227405312 + 1 + (t / 2) % 4503599627370495 = (t % 2) * 9223372036854775808 + 9218868437227405313 + (t / 2) % 4503599627370495 by omega]

theorem nanBits_cn (k : FloatKind) (a b t : Nat) : cn k ((Question.nanBits k a b).cut t) = none := by
  have h : (k.decode ((Question.nanBits k a b).cut t)).isNaN = true := by
    cases k
    · exact nanCut32 t
    · exact nanCut64 t
  simp [cn, h]

def arith (bop : BinOp) : Bool := match bop with | .add | .sub | .mul | .quo => true | _ => false

/-- + - * / on floats: the result, whatever bits a NaN gets. -/
theorem run_fbin {P : Program} (w : World) (bop : BinOp) (hb : arith bop = true) (t : TypeId) (k : FloatKind) (a b : Nat) :
    ∃ r w', (binOp bop t (.float k a) (.float k b)).run P w = .ok (.float k r) w' ∧ (∃ n, w' = w.drewN n) ∧ cn k r = fbin bop k (cn k a) (cn k b) := by
  cases h : floatBits bop k a b with
  | some r =>
    refine ⟨r, w, run_float_arith w bop t k a b r h, ⟨0, rfl⟩, ?_⟩
    have hn := floatBits_nan h
    simp [cn, fbin, hn.1, hn.2.1, hn.2.2, h]
  | none =>
    have hz : fbin bop k (cn k a) (cn k b) = none := by
      unfold fbin
      cases h1 : cn k a with
      | none => rfl
      | some a' =>
        cases h2 : cn k b with
        | none => rfl
        | some b' =>
          obtain ⟨rfl, _⟩ := cn_some h1
          obtain ⟨rfl, _⟩ := cn_some h2
          exact h
    refine ⟨(Question.nanBits k a b).cut (w.tape w.drawn (.nanBits k a b)), w.drew, ?_, ⟨1, rfl⟩, by rw [hz]; exact nanBits_cn k a b _⟩
    unfold floatBits at h
    cases bop <;> simp [arith] at hb <;> simp only at h <;> simp [binOp, Op.floatArith, h, Question.forced] <;> rfl

/-- + - * / on floats, in a walk. -/
theorem wpl_fbin {P : Program} {w : World} {ops : Array Oper} {rest : List Oper} {o : Oper} {ac : Act} {Q : Exit → Act → World → Prop}
    (hw : Region.wanted o (yielded ops ac.tmps) = true) (bop : BinOp) (t t2 : TypeId) (x y : Operand) (hop : o.op = .binOp bop t x y t2) (hb : arith bop = true) (k : FloatKind) (a b : Nat)
    (hx : ac.eval x = .float k a) (hy : ac.eval y = .float k b)
    (hK : ∀ r w', (∃ n, w' = w.drewN n) → cn k r = fbin bop k (cn k a) (cn k b) → wpList P ops Q rest (ac.put o.dst (.float k r)) w') : wpList P ops Q (o :: rest) ac w := by
  obtain ⟨r, w', hru, hn, hc⟩ := run_fbin (P := P) w bop hb t k a b
  have hge : (eqGuard bop t x y (.float k a) (.float k b)).run P w = .ok () w := by cases bop <;> simp [arith] at hb <;> rfl
  unfold wpList
  rw [if_pos hw]
  left
  unfold Oper.wp execOp
  simp only [hop, Sem.run_bind, Sem.run_pure, Result.andThen_ok, hx, hy, hge, hru]
  exact hK r w' hn hc

/-- The same at a step of a region that draws its order. -/
theorem step_fbin {P : Program} {w : World} {ops : Array Oper} {o : Oper} {ac : Act} {K : Act → World → Prop} {Q : Exit → Act → World → Prop} {E : Prop}
    (hg : o.guard = none) (bop : BinOp) (t t2 : TypeId) (x y : Operand) (hop : o.op = .binOp bop t x y t2) (hb : arith bop = true) (k : FloatKind) (a b : Nat)
    (hx : ac.eval x = .float k a) (hy : ac.eval y = .float k b)
    (hK : ∀ r w', (∃ n, w' = w.drewN n) → cn k r = fbin bop k (cn k a) (cn k b) → K (ac.put o.dst (.float k r)) w') :
    if Region.wanted o (yielded ops ac.tmps) = true then Oper.wp P o ac w K Q else E := by
  obtain ⟨r, w', hru, hn, hc⟩ := run_fbin (P := P) w bop hb t k a b
  have hge : (eqGuard bop t x y (.float k a) (.float k b)).run P w = .ok () w := by cases bop <;> simp [arith] at hb <;> rfl
  have hw : Region.wanted o (yielded ops ac.tmps) = true := by simp [Region.wanted, hg]
  rw [if_pos hw]
  unfold Oper.wp execOp
  simp only [hop, Sem.run_bind, Sem.run_pure, Result.andThen_ok, hx, hy, hge, hru]
  exact hK r w' hn hc

theorem read32_bd (b : Nat) {s : Bool} {m : Nat} {e : Int} (h : FloatKind.f32.decode b = .number s m e) : m < 16777216 ∧ -149 ≤ e ∧ e ≤ 104 := by
  have e1 : Ieee.single.signWeight = 2147483648 := by decide
  have e2 : Ieee.single.binade = 8388608 := by decide
  have e3 : Ieee.single.infRung = 2139095040 := by decide
  have e4 : Ieee.single.leastPlace = -149 := by decide
  have h' : Ieee.single.read b = .number s m e := h
  unfold Ieee.Format.read at h'
  simp only [e1, e2, e3, e4] at h'
  split at h'
  · simp only [Ieee.Datum.number.injEq] at h'
    omega
  · split at h'
    · simp only [Ieee.Datum.number.injEq] at h'
      omega
    · split at h' <;> simp at h'

theorem shl_lt {m : Nat} (hm : m ≠ 0) (q : Nat) (hq : m.log2 ≤ q) : m <<< (q - m.log2) < 2 ^ (q + 1) := by
  rw [Nat.shiftLeft_eq]
  have h1 : m < 2 ^ (m.log2 + 1) := Nat.lt_log2_self
  calc m * 2 ^ (q - m.log2) < 2 ^ (m.log2 + 1) * 2 ^ (q - m.log2) := Nat.mul_lt_mul_of_pos_right h1 (Nat.two_pow_pos _)
    _ = 2 ^ (q + 1) := by rw [← Nat.pow_add]; congr 1; omega

theorem cut_zero (neg : Bool) (n : Nat) : Ieee.Toward.even.cut neg n 0 = n := by
  unfold Ieee.Toward.cut
  simp [Nat.mod_one]

theorem word64_notInf (neg : Bool) (r : Nat) (h : r < 9218868437227405312) : (Ieee.double.read (Ieee.double.word neg r)).isInfinity = false := by
  have e1 : Ieee.double.signWeight = 9223372036854775808 := by decide
  have e2 : Ieee.double.binade = 4503599627370496 := by decide
  have e3 : Ieee.double.infRung = 9218868437227405312 := by decide
  unfold Ieee.Format.read Ieee.Format.word
  simp only [e1, e2, e3]
  have hm : (if neg = true then 9223372036854775808 + r else r) % 9223372036854775808 = r := by split <;> omega
  rw [hm]
  by_cases h1 : r < 4503599627370496
  · rw [if_pos h1]; rfl
  · rw [if_neg h1, if_pos h]; rfl

theorem log2_lt24 {m : Nat} (h0 : m ≠ 0) (h : m < 16777216) : m.log2 ≤ 23 := by
  have : m.log2 < 24 := (Nat.log2_lt h0).2 (by simpa using h)
  omega

/-- A float32 that is a number fits a float64. -/
theorem widen_fits (b : Nat) {s : Bool} {m : Nat} {e : Int} (h : FloatKind.f32.decode b = .number s m e) : (FloatKind.f64.decode (FloatKind.f64.encode (.number s m e))).isInfinity = false := by
  obtain ⟨hm, he1, he2⟩ := read32_bd b h
  show (Ieee.double.read (Ieee.double.nearest s m e)).isInfinity = false
  unfold Ieee.Format.nearest
  split
  · exact word64_notInf s 0 (by omega)
  · rename_i h0
    have hl := log2_lt24 h0 hm
    have e4 : Ieee.double.leastPlace = -1074 := by decide
    have e5 : Ieee.double.fractionBits = 52 := rfl
    have e2 : Ieee.double.binade = 4503599627370496 := by decide
    simp only [e4, e5, e2]
    have hlast : max (e + (m.log2 : Int) - ((52 : Nat) : Int)) (-1074) = e + m.log2 - 52 := by omega
    rw [hlast]
    have h1 : (e - (e + (m.log2 : Int) - 52)).toNat = 52 - m.log2 := by omega
    have h2 : ((e + (m.log2 : Int) - 52) - e).toNat = 0 := by omega
    rw [h1, h2, cut_zero]
    have h3 : m <<< (52 - m.log2) < 9007199254740992 := shl_lt h0 52 (by omega)
    generalize m <<< (52 - m.log2) = kk at h3
    have h4 : ((e + (m.log2 : Int) - 52) - -1074).toNat ≤ 1149 := by omega
    generalize ((e + (m.log2 : Int) - 52) - -1074).toNat = qq at h4
    refine word64_notInf s _ ?_
    exact Nat.lt_of_le_of_lt (Nat.min_le_left _ _) (by omega)

/-- A float32 as a float64. -/
def widen (o : Option Nat) : Option Nat := o.map fun b => FloatKind.f64.encode (FloatKind.f32.decode b)

theorem nanConv_cn (b t : Nat) : cn .f64 ((Question.nanConv .f64 b).cut t) = none := by
  have h : (FloatKind.f64.decode ((Question.nanConv .f64 b).cut t)).isNaN = true := nanCut64 t
  simp [cn, h]

theorem run_widen {P : Program} (w : World) (src dst : TypeId) (hs : (P.underlying src).isSome = true) (hd : P.underlying dst = some (.float .f64)) (b : Nat) :
    ∃ r w', (convert src dst (.float .f32 b)).run P w = .ok (.float .f64 r) w' ∧ (∃ n, w' = w.drewN n) ∧ cn .f64 r = widen (cn .f32 b) := by
  obtain ⟨u, hs'⟩ := Option.isSome_iff_exists.1 hs
  cases hc : cn .f32 b with
  | none =>
    obtain ⟨s, t, hdec⟩ := cn_none hc
    refine ⟨(Question.nanConv .f64 b).cut (w.tape w.drawn (.nanConv .f64 b)), w.drew, ?_, ⟨1, rfl⟩, nanConv_cn b _⟩
    cases u <;> simp [convert, run_underlying hs', run_underlying hd, Conv.floatToFloat, hdec, Question.forced] <;> rfl
  | some b' =>
    obtain ⟨rfl, hn⟩ := cn_some hc
    have hk : FloatKind.f32 ≠ FloatKind.f64 := by decide
    cases hdec : FloatKind.f32.decode b with
    | nan s t => rw [hdec] at hn; simp [Ieee.Datum.isNaN] at hn
    | infinity s =>
      refine ⟨FloatKind.f64.encode (.infinity s), w, ?_, ⟨0, rfl⟩, ?_⟩
      · cases u <;> simp [convert, run_underlying hs', run_underlying hd, Conv.floatToFloat, hdec]
      · simp [widen, hdec]; exact cn_write .f64 (.infinity s) rfl
    | number s m e =>
      have hf := widen_fits b hdec
      refine ⟨FloatKind.f64.encode (.number s m e), w, ?_, ⟨0, rfl⟩, ?_⟩
      · cases u <;> simp [convert, run_underlying hs', run_underlying hd, Conv.floatToFloat, hdec, hf]
      · simp [widen, hdec]; exact cn_write .f64 (.number s m e) rfl

theorem wpl_widen {P : Program} {w : World} {ops : Array Oper} {rest : List Oper} {o : Oper} {ac : Act} {Q : Exit → Act → World → Prop}
    (hw : Region.wanted o (yielded ops ac.tmps) = true) (src dst : TypeId) (x : Operand) (hop : o.op = .convert src dst x) (hs : (P.underlying src).isSome = true) (hd : P.underlying dst = some (.float .f64)) (b : Nat)
    (hx : ac.eval x = .float .f32 b)
    (hK : ∀ r w', (∃ n, w' = w.drewN n) → cn .f64 r = widen (cn .f32 b) → wpList P ops Q rest (ac.put o.dst (.float .f64 r)) w') : wpList P ops Q (o :: rest) ac w := by
  obtain ⟨r, w', hru, hn, hc⟩ := run_widen (P := P) w src dst hs hd b
  unfold wpList
  rw [if_pos hw]
  left
  unfold Oper.wp execOp
  simp only [hop, Sem.run_bind, Sem.run_pure, Result.andThen_ok, hx, hru]
  exact hK r w' hn hc

theorem upon_fbin {P : Program} {w : World} {o : Oper} {ac : Act} {K : Act → World → Prop} {Q : Exit → Act → World → Prop} {bop : BinOp} {t : TypeId} {k : FloatKind} (hb : arith bop = true) (a b : Nat)
    (hK : ∀ r w', (∃ n, w' = w.drewN n) → cn k r = fbin bop k (cn k a) (cn k b) → K (ac.put o.dst (.float k r)) w') :
    Oper.upon P o ac K Q (((binOp bop t (.float k a) (.float k b)).run P w).andThen fun a w' => .ok (Next.value a) w') := by
  obtain ⟨r, w', hru, hn, hc⟩ := run_fbin (P := P) w bop hb t k a b
  rw [hru]
  exact hK r w' hn hc

/-- A float and a bool: what 'cn' leaves of the float. -/
def RetFB (w : World) (o : Option Nat) (b : Bool) (en : Ending) (w' : World) : Prop :=
  ∃ r, en = .returned (.tuple #[.float .f32 r, .bool b]) ∧ cn .f32 r = o ∧ Below w.heap.size w w'
/-- A float. -/
def RetF (w : World) (o : Option Nat) (en : Ending) (w' : World) : Prop :=
  ∃ r, en = .returned (.float .f32 r) ∧ cn .f32 r = o ∧ Below w.heap.size w w'
theorem cn_zero : cn .f32 0 = some 0 := by kernel_rfl

theorem upon_widen {P : Program} {w : World} {o : Oper} {ac : Act} {K : Act → World → Prop} {Q : Exit → Act → World → Prop} {src dst : TypeId} (hs : (P.underlying src).isSome = true) (hd : P.underlying dst = some (.float .f64)) (b : Nat)
    (hK : ∀ r w', (∃ n, w' = w.drewN n) → cn .f64 r = widen (cn .f32 b) → K (ac.put o.dst (.float .f64 r)) w') :
    Oper.upon P o ac K Q (((convert src dst (.float .f32 b)).run P w).andThen fun a w' => .ok (Next.value a) w') := by
  obtain ⟨r, w', hru, hn, hc⟩ := run_widen (P := P) w src dst hs hd b
  rw [hru]
  exact hK r w' hn hc

theorem step_widen {P : Program} {w : World} {ops : Array Oper} {o : Oper} {ac : Act} {K : Act → World → Prop} {Q : Exit → Act → World → Prop} {E : Prop}
    (hg : o.guard = none) (src dst : TypeId) (x : Operand) (hop : o.op = .convert src dst x) (hs : (P.underlying src).isSome = true) (hd : P.underlying dst = some (.float .f64)) (b : Nat)
    (hx : ac.eval x = .float .f32 b)
    (hK : ∀ r w', (∃ n, w' = w.drewN n) → cn .f64 r = widen (cn .f32 b) → K (ac.put o.dst (.float .f64 r)) w') :
    if Region.wanted o (yielded ops ac.tmps) = true then Oper.wp P o ac w K Q else E := by
  obtain ⟨r, w', hru, hn, hc⟩ := run_widen (P := P) w src dst hs hd b
  have hw : Region.wanted o (yielded ops ac.tmps) = true := by simp [Region.wanted, hg]
  rw [if_pos hw]
  unfold Oper.wp execOp
  simp only [hop, Sem.run_bind, Sem.run_pure, Result.andThen_ok, hx, hru]
  exact hK r w' hn hc

end Go.Proofs.Ytmmpemfhbnkomaa

namespace Go.Proofs.Ytmmpemfhbnkomaa
open Go.RowKit

theorem info_f : (Try.prog.info? 22).map (fun i => (i.zero, i.size, i.bytes)) = some (some (.float .f32 0), 1, 4) := by kernel_rfl

end Go.Proofs.Ytmmpemfhbnkomaa

namespace Go.Proofs.Ytmmpemfhbnkomaa
open Go.RowKit

end Go.Proofs.Ytmmpemfhbnkomaa

namespace Go.Proofs.Ytmmpemfhbnkomaa
open Go.RowKit

/-- Is it a number (no NaN, no infinity)? -/
def fin (k : FloatKind) (o : Option Nat) : Bool := match o with
  | none => false
  | some b => !(k.decode b).isInfinity

/-- How two floats stand to one another, by what 'cn' leaves. -/
def ford (k : FloatKind) (x y : Option Nat) : Option Ordering := x.bind fun a => y.bind fun b => k.format.order a b

theorem order_cn (k : FloatKind) (a b : Nat) : k.format.order a b = ford k (cn k a) (cn k b) := by
  unfold ford
  cases h1 : cn k a with
  | none =>
    obtain ⟨s, t, hd⟩ := cn_none h1
    show (k.decode a).order (k.decode b) = none
    rw [hd]; cases k.decode b <;> rfl
  | some a' =>
    obtain ⟨rfl, _⟩ := cn_some h1
    cases h2 : cn k b with
    | none =>
      obtain ⟨s, t, hd⟩ := cn_none h2
      show (k.decode a).order (k.decode b) = none
      rw [hd]; cases k.decode a <;> rfl
    | some b' =>
      obtain ⟨rfl, _⟩ := cn_some h2
      rfl

theorem signed_neg (s : Bool) (m u : Nat) : Ieee.signed (!s) m u = - Ieee.signed s m u := by
  cases s <;> simp [Ieee.signed]

theorem decode_zero (k : FloatKind) : ∃ p, k.decode 0 = .number false 0 p := by
  cases k
  · exact ⟨_, rfl⟩
  · exact ⟨_, rfl⟩

theorem nearest_zero (k : FloatKind) (p : Int) : k.format.nearest false 0 p = 0 := by
  unfold Ieee.Format.nearest Ieee.Format.word
  simp

/-- x - x == 0 just where x is finite. -/
theorem sub_self_zero (k : FloatKind) (x r : Nat) (h : cn k r = fbin .sub k (cn k x) (cn k x)) : (k.format.order r 0 == some Ordering.eq) = fin k (cn k x) := by
  cases hx : cn k x with
  | none =>
    rw [hx] at h
    have : k.format.order r 0 = none := by rw [order_cn, h]; rfl
    rw [this]; rfl
  | some b =>
    obtain ⟨rfl, hn⟩ := cn_some hx
    rw [hx] at h
    have hs : fbin .sub k (some x) (some x) = k.format.sub x x := rfl
    rw [hs] at h
    unfold Ieee.Format.sub at h
    have hd' : k.format.read x = k.decode x := rfl
    rw [hd'] at h
    cases hd : k.decode x with
    | nan s t => rw [hd] at hn; simp [Ieee.Datum.isNaN] at hn
    | infinity s =>
      rw [hd] at h
      have : (Ieee.Datum.infinity s).sum (Ieee.Datum.infinity s).opposite = none := by cases s <;> rfl
      rw [this] at h
      have : k.format.order r 0 = none := by rw [order_cn, h]; rfl
      rw [this]; simp [fin, hd, Ieee.Datum.isInfinity]
    | number s m e =>
      rw [hd] at h
      have : (Ieee.Datum.number s m e).sum (Ieee.Datum.number s m e).opposite = some (.number false 0 e) := by
        simp only [Ieee.Datum.opposite, Ieee.Datum.sum, signed_neg]
        have h0 : ∀ u, Ieee.signed s m u + -Ieee.signed s m u = 0 := fun u => by omega
        simp [h0]
      rw [this] at h
      simp only [Option.map_some, Ieee.Format.write, nearest_zero] at h
      obtain ⟨rfl, _⟩ := cn_some h
      obtain ⟨p, hp⟩ := decode_zero k
      have : k.format.order 0 0 = some .eq := by
        show (k.decode 0).order (k.decode 0) = _
        rw [hp]; simp [Ieee.Datum.order]
      rw [this]; simp [fin, hd, Ieee.Datum.isInfinity]

theorem isFinite_any {x : Nat} {w : World} : Calls Try.prog 21 #[.float .f32 x] w fun e w' => e = .returned (.bool (fin .f32 (cn .f32 x))) ∧ Below w.heap.size w w' := by
  have H := Lib.hid (sub_self_zero .f32 x)
  go_enter Try.func21, Try.ntmps21
  go_wp2_with (refine wpl_fbin rfl _ _ _ _ _ rfl rfl .f32 _ _ rfl rfl ?_; rintro r w' ⟨n, rfl⟩ hr; have HR := Lib.hid hr; clear hr)
  go_ret
  exact ⟨ret_bool (H.out _ HR.out), below_of_drewN _ _ _⟩

theorem l01Finite_any {x : Nat} {w : World} : Calls Try.prog 16 #[.float .f32 x] w fun e w' => e = .returned (.bool (fin .f32 (cn .f32 x))) ∧ Below w.heap.size w w' := by
  have H := Lib.hid (sub_self_zero .f32 x)
  go_enter Try.func16, Try.ntmps16
  go_wp2_with (refine wpl_fbin rfl _ _ _ _ _ rfl rfl .f32 _ _ rfl rfl ?_; rintro r w' ⟨n, rfl⟩ hr; have HR := Lib.hid hr; clear hr)
  go_ret
  exact ⟨ret_bool (H.out _ HR.out), below_of_drewN _ _ _⟩

def fins (xs : List Nat) : Bool := xs.all fun x => fin .f32 (cn .f32 x)

def isVec (xs : List Nat) : Bool := decide (1 ≤ xs.length) && decide (xs.length ≤ 32) && fins xs


end Go.Proofs.Ytmmpemfhbnkomaa

namespace Go.Proofs.Ytmmpemfhbnkomaa
open Go.RowKit

theorem compare_self (n : Int) : compare n n = .eq := by simp
theorem order_self {k : FloatKind} {a : Nat} (h : (k.decode a).isNaN = false) : k.format.order a a = some .eq := by
  show (k.decode a).order (k.decode a) = _
  cases hd : k.decode a with
  | nan s t => rw [hd] at h; simp [Ieee.Datum.isNaN] at h
  | infinity s => simp [Ieee.Datum.order]
  | number s m e => simp [Ieee.Datum.order]
theorem order_nan {k : FloatKind} {a b : Nat} (h : cn k a = none) : k.format.order a b = none := by rw [order_cn, h]; rfl

set_option maxHeartbeats 400000 in
theorem sameFloat_any {a b : Nat} {w : World} (h : cn .f64 a = cn .f64 b) :
    Calls Try.prog 14 #[.float .f64 a, .float .f64 b] w fun e w' => e = .returned (.bool true) ∧ Below w.heap.size w w' := by
  cases hc : cn .f64 a with
  | none =>
    have h1 : FloatKind.f64.format.order a a = none := order_nan hc
    have h2 : FloatKind.f64.format.order b b = none := order_nan (by rw [← h]; exact hc)
    clear h hc
    go_enter Try.func14, Try.ntmps14
    go_wp2
    go_ret
    exact ⟨rfl, Below.refl _ _⟩
  | some c =>
    obtain ⟨rfl, hn⟩ := cn_some hc
    obtain ⟨rfl, _⟩ := cn_some (by rw [← h]; exact hc)
    have h1 := order_self (k := .f64) hn
    clear h hc hn
    by_cases hz : FloatKind.f64.format.order b 0 = some .eq
    · go_enter Try.func14, Try.ntmps14
      go_wp2_with (refine wpl_fbin rfl _ _ _ _ _ rfl rfl .f64 _ _ rfl rfl ?_; rintro r w' ⟨n, rfl⟩ hr; have HR := Lib.hid hr; clear hr)
      rename_i r1 n1 HR1
      have he : FloatKind.f64.format.order r1 0 = FloatKind.f64.format.order r 0 := by rw [order_cn, order_cn, HR.out, HR1.out]
      go_ret
      exact ⟨ret_bool (by simp [he]), below_of_drewN _ _ _⟩
    · have hz' : (FloatKind.f64.format.order b 0 == some .eq) = false := by simpa using hz
      clear hz
      go_enter Try.func14, Try.ntmps14
      go_wp2
      go_ret
      exact ⟨rfl, Below.refl _ _⟩

/-- Two lists of floats, the same but for the bits of their NaNs. -/
def sameF (xs ys : List Nat) : Prop := xs.map (cn .f32) = ys.map (cn .f32)


end Go.Proofs.Ytmmpemfhbnkomaa

namespace Go.Proofs.Ytmmpemfhbnkomaa
open Go.RowKit

theorem und_f32 : (Try.prog.underlying 22).isSome = true := by kernel_rfl
theorem und_f64 : Try.prog.underlying 39 = some (.float .f64) := by kernel_rfl

end Go.Proofs.Ytmmpemfhbnkomaa

namespace Go.Proofs.Ytmmpemfhbnkomaa
open Go.RowKit

/-- The sum of products, from left to right, each rounded. -/
def dotC (xs ys : List Nat) : Option Nat := (List.zip xs ys).foldl (fun s p => fbin .add .f32 s (fbin .mul .f32 (cn .f32 p.1) (cn .f32 p.2))) (some 0)
theorem dotC_snoc (xs ys : List Nat) (k : Nat) (h1 : k < xs.length) (h2 : k < ys.length) :
    dotC (xs.take (k + 1)) (ys.take (k + 1)) = fbin .add .f32 (dotC (xs.take k) (ys.take k)) (fbin .mul .f32 (cn .f32 xs[k]) (cn .f32 ys[k])) := by
  unfold dotC
  rw [List.take_add_one, List.take_add_one, List.getElem?_eq_getElem h1, List.getElem?_eq_getElem h2]
  simp only [Option.toList_some]
  rw [List.zip_append (by simp; omega), List.foldl_append]
  rfl

/-- A number, if it is finite. -/
def ifFin (o : Option Nat) : Option Nat := if fin .f32 o then o else some 0

theorem ifFinite_any {x : Nat} {w : World} : Calls Try.prog 23 #[.float .f32 x] w (RetFB w (ifFin (cn .f32 x)) (fin .f32 (cn .f32 x))) := by
  cases h : fin .f32 (cn .f32 x) with
  | false =>
    go_enter Try.func23, Try.ntmps23
    go_wp2_with fail
    refine isFinite_any.mono ?_
    rintro e w1 ⟨rfl, hb1⟩
    go_wp2
    go_ret2
    exact ⟨0, rfl, by simp [ifFin, h, cn_zero], hb1⟩
  | true =>
    go_enter Try.func23, Try.ntmps23
    go_wp2_with fail
    refine isFinite_any.mono ?_
    rintro e w1 ⟨rfl, hb1⟩
    go_wp2
    go_ret2
    exact ⟨x, rfl, by simp [ifFin, h], hb1⟩

theorem l02Number_any {x : Nat} {w : World} : Calls Try.prog 19 #[.float .f32 x] w (RetFB w (ifFin (cn .f32 x)) (fin .f32 (cn .f32 x))) := by
  cases h : fin .f32 (cn .f32 x) with
  | false =>
    go_enter Try.func19, Try.ntmps19
    go_wp2_with fail
    refine l01Finite_any.mono ?_
    rintro e w1 ⟨rfl, hb1⟩
    go_wp2
    go_ret2
    exact ⟨0, rfl, by simp [ifFin, h, cn_zero], hb1⟩
  | true =>
    go_enter Try.func19, Try.ntmps19
    go_wp2_with fail
    refine l01Finite_any.mono ?_
    rintro e w1 ⟨rfl, hb1⟩
    go_wp2
    go_ret2
    exact ⟨x, rfl, by simp [ifFin, h], hb1⟩

def dotOk (xs ys : List Nat) : Bool := isVec xs && isVec ys && decide (xs.length = ys.length)
def dotR (xs ys : List Nat) : Option Nat := if dotOk xs ys then ifFin (dotC xs ys) else some 0
def dotB (xs ys : List Nat) : Bool := dotOk xs ys && fin .f32 (dotC xs ys)

end Go.Proofs.Ytmmpemfhbnkomaa

namespace Go.Proofs.Ytmmpemfhbnkomaa
open Go.RowKit

/-- The number is less than 2 ^ (B + 1). -/
def mag (d : Ieee.Datum) (B : Int) : Prop := match d with
  | .number _ m e => m = 0 ∨ (m.log2 : Int) + e ≤ B
  | _ => True

theorem mag_mono {d : Ieee.Datum} {B C : Int} (h : mag d B) (hc : B ≤ C) : mag d C := by
  cases d with
  | number s m e => rcases h with h | h; exact .inl h; exact .inr (by omega)
  | infinity s => trivial
  | nan s t => trivial

theorem log2_div_pow {m d : Nat} : m / 2 ^ d < 2 ^ (m.log2 + 1 - d) := by
  by_cases h : d ≤ m.log2 + 1
  · rw [Nat.div_lt_iff_lt_mul (Nat.two_pow_pos _), ← Nat.pow_add]
    have : m.log2 + 1 - d + d = m.log2 + 1 := by omega
    rw [this]; exact Nat.lt_log2_self
  · have h1 : m < 2 ^ d := Nat.lt_of_lt_of_le Nat.lt_log2_self (Nat.pow_le_pow_right (by omega) (by omega))
    rw [Nat.div_eq_of_lt h1]
    exact Nat.two_pow_pos _

/-- What is kept of the digits is at most 2 ^ (F + 1). -/
theorem cut_le (neg : Bool) (m drop F : Nat) (h : m.log2 ≤ F + drop) : Ieee.Toward.even.cut neg m drop ≤ 2 ^ (F + 1) := by
  unfold Ieee.Toward.cut
  simp only
  have hb : ∀ b : Bool, b.toNat ≤ 1 := by intro b; cases b <;> simp
  rw [Nat.one_shiftLeft]
  generalize hmd : min drop (m.log2 + 2) = md
  have h1 : m / 2 ^ md < 2 ^ (F + 1) := by
    rcases Nat.le_total drop (m.log2 + 2) with hd | hd
    · have : md = drop := by omega
      rw [this]
      refine Nat.lt_of_lt_of_le log2_div_pow (Nat.pow_le_pow_right (by omega) (by omega))
    · have : md = m.log2 + 2 := by omega
      rw [this]
      refine Nat.lt_of_lt_of_le log2_div_pow (Nat.pow_le_pow_right (by omega) (by omega))
  have h2 := hb (decide (2 ^ md < 2 * (m % 2 ^ md)) || (2 ^ md == 2 * (m % 2 ^ md) && m / 2 ^ md % 2 == 1))
  omega

/-- The rung of the nearest word. -/
theorem rung_le (f : Ieee.Format) (neg : Bool) (m : Nat) (e : Int) (h0 : m ≠ 0) :
    Ieee.Toward.even.cut neg (m <<< (e - max (e + (m.log2 : Int) - (f.fractionBits : Int)) f.leastPlace).toNat) ((max (e + (m.log2 : Int) - (f.fractionBits : Int)) f.leastPlace) - e).toNat ≤ 2 ^ (f.fractionBits + 1) := by
  generalize hl : max (e + (m.log2 : Int) - (f.fractionBits : Int)) f.leastPlace = last
  have hge : e + (m.log2 : Int) - (f.fractionBits : Int) ≤ last := by omega
  by_cases hc : last ≤ e
  · have h1 : (last - e).toNat = 0 := by omega
    rw [h1]
    unfold Ieee.Toward.cut
    simp only [Nat.zero_min, Nat.shiftLeft_zero, Nat.div_one, Nat.mod_one]
    have h2 : m <<< (e - last).toNat < 2 ^ (f.fractionBits + 1) := by
      rw [Nat.shiftLeft_eq]
      calc m * 2 ^ (e - last).toNat < 2 ^ (m.log2 + 1) * 2 ^ (e - last).toNat := Nat.mul_lt_mul_of_pos_right Nat.lt_log2_self (Nat.two_pow_pos _)
        _ = 2 ^ (m.log2 + 1 + (e - last).toNat) := by rw [← Nat.pow_add]
        _ ≤ 2 ^ (f.fractionBits + 1) := Nat.pow_le_pow_right (by omega) (by omega)
    simp
    omega
  · have h1 : (e - last).toNat = 0 := by omega
    rw [h1, Nat.shiftLeft_zero]
    exact cut_le neg m _ f.fractionBits (by omega)

theorem word32_notInf (neg : Bool) (r : Nat) (h : r < 2139095040) : (Ieee.single.read (Ieee.single.word neg r)).isInfinity = false := by
  have e1 : Ieee.single.signWeight = 2147483648 := by decide
  have e2 : Ieee.single.binade = 8388608 := by decide
  have e3 : Ieee.single.infRung = 2139095040 := by decide
  unfold Ieee.Format.read Ieee.Format.word
  simp only [e1, e2, e3]
  have hm : (if neg = true then 2147483648 + r else r) % 2147483648 = r := by split <;> omega
  rw [hm]
  by_cases h1 : r < 8388608
  · rw [if_pos h1]; rfl
  · rw [if_neg h1, if_pos h]; rfl

/-- A number less than 2 ^ 127 fits a float32. -/
theorem narrow_fits {s : Bool} {m : Nat} {e : Int} (h : mag (.number s m e) 126) : (FloatKind.f32.decode (FloatKind.f32.encode (.number s m e))).isInfinity = false := by
  show (Ieee.single.read (Ieee.single.nearest s m e)).isInfinity = false
  unfold Ieee.Format.nearest
  split
  · exact word32_notInf s 0 (by omega)
  · rename_i h0
    have hb : (m.log2 : Int) + e ≤ 126 := by rcases h with h | h; exact absurd h h0; exact h
    have hr := rung_le Ieee.single s m e h0
    have e4 : Ieee.single.leastPlace = -149 := by decide
    have e5 : Ieee.single.fractionBits = 23 := rfl
    have e2 : Ieee.single.binade = 8388608 := by decide
    simp only [e4, e5, e2] at hr ⊢
    generalize Ieee.Toward.even.cut s (m <<< (e - max (e + (m.log2 : Int) - ((23 : Nat) : Int)) (-149)).toNat) (max (e + (m.log2 : Int) - ((23 : Nat) : Int)) (-149) - e).toNat = kept at hr ⊢
    have h4 : (max (e + (m.log2 : Int) - ((23 : Nat) : Int)) (-149) - -149).toNat ≤ 252 := by omega
    generalize (max (e + (m.log2 : Int) - ((23 : Nat) : Int)) (-149) - -149).toNat = qq at h4 ⊢
    have hr' : kept ≤ 16777216 := hr
    refine word32_notInf s _ ?_
    exact Nat.lt_of_le_of_lt (Nat.min_le_left _ _) (by omega)

theorem log2_le_of_lt {m k : Nat} (h : m < 2 ^ (k + 1)) : m.log2 ≤ k := by
  by_cases h0 : m = 0
  · rw [h0]; simp
  · have := (Nat.log2_lt h0).2 h
    omega

/-- What a float64 word of a rung stands for. -/
theorem read64_mag (neg : Bool) (r : Nat) (q : Nat) (h : r < (q + 1) * 4503599627370496) (hr : r ≤ 9218868437227405312) : mag (Ieee.double.read (Ieee.double.word neg r)) ((q : Int) - 1023) := by
  have e1 : Ieee.double.signWeight = 9223372036854775808 := by decide
  have e2 : Ieee.double.binade = 4503599627370496 := by decide
  have e3 : Ieee.double.infRung = 9218868437227405312 := by decide
  have e4 : Ieee.double.leastPlace = -1074 := by decide
  unfold Ieee.Format.read Ieee.Format.word
  simp only [e1, e2, e3, e4]
  have hm : (if neg = true then 9223372036854775808 + r else r) % 9223372036854775808 = r := by split <;> omega
  rw [hm]
  by_cases h1 : r < 4503599627370496
  · rw [if_pos h1]
    right
    have : r.log2 ≤ 51 := log2_le_of_lt (by simpa using h1)
    omega
  · rw [if_neg h1]
    by_cases h2 : r < 9218868437227405312
    · rw [if_pos h2]
      right
      have : (4503599627370496 + r % 4503599627370496).log2 ≤ 52 := log2_le_of_lt (by
        have : r % 4503599627370496 < 4503599627370496 := Nat.mod_lt _ (by omega)
        simp; omega)
      have h3 : r / 4503599627370496 ≤ q := by
        have := (Nat.div_lt_iff_lt_mul (by omega : 0 < 4503599627370496)).2 h
        omega
      omega
    · rw [if_neg h2]
      split <;> trivial

/-- A number written as a float64 and read again is hardly greater. -/
theorem enc64_mag {s : Bool} {m : Nat} {e : Int} {B : Int} (h : mag (.number s m e) B) (hB : -1022 ≤ B) : mag (FloatKind.f64.decode (FloatKind.f64.encode (.number s m e))) (B + 1) := by
  show mag (Ieee.double.read (Ieee.double.nearest s m e)) (B + 1)
  unfold Ieee.Format.nearest
  split
  · have := read64_mag s 0 0 (by omega) (by omega)
    exact mag_mono this (by omega)
  · rename_i h0
    have hb : (m.log2 : Int) + e ≤ B := by rcases h with h | h; exact absurd h h0; exact h
    have hr := rung_le Ieee.double s m e h0
    have e4 : Ieee.double.leastPlace = -1074 := by decide
    have e5 : Ieee.double.fractionBits = 52 := rfl
    have e2 : Ieee.double.binade = 4503599627370496 := by decide
    have e3 : Ieee.double.infRung = 9218868437227405312 := by decide
    simp only [e4, e5, e2, e3] at hr ⊢
    generalize Ieee.Toward.even.cut s (m <<< (e - max (e + (m.log2 : Int) - ((52 : Nat) : Int)) (-1074)).toNat) (max (e + (m.log2 : Int) - ((52 : Nat) : Int)) (-1074) - e).toNat = kept at hr ⊢
    have h4 : ((max (e + (m.log2 : Int) - ((52 : Nat) : Int)) (-1074) - -1074).toNat : Int) ≤ B + 1022 := by omega
    generalize (max (e + (m.log2 : Int) - ((52 : Nat) : Int)) (-1074) - -1074).toNat = qq at h4 ⊢
    have hr' : kept ≤ 9007199254740992 := hr
    have h5 : qq * 4503599627370496 + kept < (qq + 2 + 1) * 4503599627370496 := by omega
    have := read64_mag s (min (qq * 4503599627370496 + kept) 9218868437227405312) (qq + 2) (Nat.lt_of_le_of_lt (Nat.min_le_left _ _) h5) (Nat.min_le_right _ _)
    exact mag_mono this (by omega)

theorem rootFrom_lt (n : Nat) : ∀ todo root, Ieee.Datum.rootFrom n todo root < root + 2 ^ todo := by
  intro todo
  induction todo with
  | zero => intro root; simp [Ieee.Datum.rootFrom]
  | succ t ih =>
    intro root
    unfold Ieee.Datum.rootFrom
    simp only [Nat.one_shiftLeft]
    have hp : 2 ^ (t + 1) = 2 ^ t + 2 ^ t := by rw [Nat.pow_succ]; omega
    have hpos := Nat.two_pow_pos t
    generalize 2 ^ t = p2 at *
    have ha := ih (root + p2)
    have hb := ih root
    split <;> omega

/-- The root of a number less than 2 ^ (B + 1). -/
theorem root_mag {d r : Ieee.Datum} {B : Int} (q : Nat) (h : mag d B) (hr : d.root q = some r) : mag r (B / 2) ∨ ∃ s e, r = .number s 0 e := by
  cases d with
  | nan s t => simp [Ieee.Datum.root] at hr
  | infinity s =>
    left
    simp only [Ieee.Datum.root] at hr
    split at hr
    · simp at hr
    · simp at hr
      subst hr; trivial
  | number s m i =>
    simp only [Ieee.Datum.root] at hr
    split at hr
    · rename_i hm
      simp at hr
      subst hr; subst hm
      exact .inr ⟨s, i, rfl⟩
    · rename_i hm
      split at hr
      · simp at hr
      · simp only [Option.some.injEq] at hr
        subst hr
        left
        have hb : (m.log2 : Int) + i ≤ B := by rcases h with h | h; exact absurd h hm; exact h
        right
        generalize (2 * q - m.log2 + ((i - ((2 * q - m.log2 : Nat) : Int)) % 2).toNat) = more
        have hl : (m <<< more).log2 ≤ m.log2 + more := by
          refine log2_le_of_lt ?_
          rw [Nat.shiftLeft_eq]
          calc m * 2 ^ more < 2 ^ (m.log2 + 1) * 2 ^ more := Nat.mul_lt_mul_of_pos_right Nat.lt_log2_self (Nat.two_pow_pos _)
            _ = 2 ^ (m.log2 + more + 1) := by rw [← Nat.pow_add]; congr 1; omega
        generalize hn : m <<< more = n at hl ⊢
        have hw := rootFrom_lt n (n.log2 / 2 + 1) 0
        rw [Nat.zero_add] at hw
        generalize Ieee.Datum.rootFrom n (n.log2 / 2 + 1) 0 = whole at hw ⊢
        have hbit : (whole * whole != n).toNat ≤ 1 := by cases (whole * whole != n) <;> simp
        have h2 : (2 * whole + (whole * whole != n).toNat).log2 ≤ n.log2 / 2 + 1 := by
          refine log2_le_of_lt ?_
          have : 2 ^ (n.log2 / 2 + 1 + 1) = 2 * 2 ^ (n.log2 / 2 + 1) := by rw [Nat.pow_succ]; omega
          omega
        omega

/-- The square root of a float64. -/
def fsqrt (o : Option Nat) : Option Nat := o.bind FloatKind.f64.format.sqrt
/-- A float64 as a float32. -/
def narrow (o : Option Nat) : Option Nat := o.map fun b => FloatKind.f32.encode (FloatKind.f64.decode b)
/-- It fits. -/
def fits (o : Option Nat) : Prop := ∀ b, o = some b → mag (FloatKind.f64.decode b) 126

theorem nanConv32_cn (b t : Nat) : cn .f32 ((Question.nanConv .f32 b).cut t) = none := by
  have h : (FloatKind.f32.decode ((Question.nanConv .f32 b).cut t)).isNaN = true := nanCut32 t
  simp [cn, h]

theorem run_narrow {P : Program} (w : World) (src dst : TypeId) (hs : (P.underlying src).isSome = true) (hd : P.underlying dst = some (.float .f32)) (b : Nat) (hf : fits (cn .f64 b)) :
    ∃ r w', (convert src dst (.float .f64 b)).run P w = .ok (.float .f32 r) w' ∧ (∃ n, w' = w.drewN n) ∧ cn .f32 r = narrow (cn .f64 b) := by
  obtain ⟨u, hs'⟩ := Option.isSome_iff_exists.1 hs
  cases hc : cn .f64 b with
  | none =>
    obtain ⟨s, t, hdec⟩ := cn_none hc
    refine ⟨(Question.nanConv .f32 b).cut (w.tape w.drawn (.nanConv .f32 b)), w.drew, ?_, ⟨1, rfl⟩, nanConv32_cn b _⟩
    cases u <;> simp [convert, run_underlying hs', run_underlying hd, Conv.floatToFloat, hdec, Question.forced] <;> rfl
  | some b' =>
    obtain ⟨rfl, hn⟩ := cn_some hc
    have hm := hf b hc
    cases hdec : FloatKind.f64.decode b with
    | nan s t => rw [hdec] at hn; simp [Ieee.Datum.isNaN] at hn
    | infinity s =>
      refine ⟨FloatKind.f32.encode (.infinity s), w, ?_, ⟨0, rfl⟩, ?_⟩
      · cases u <;> simp [convert, run_underlying hs', run_underlying hd, Conv.floatToFloat, hdec]
      · simp [narrow, hdec]; exact cn_write .f32 (.infinity s) rfl
    | number s m e =>
      rw [hdec] at hm
      have hf := narrow_fits hm
      refine ⟨FloatKind.f32.encode (.number s m e), w, ?_, ⟨0, rfl⟩, ?_⟩
      · cases u <;> simp [convert, run_underlying hs', run_underlying hd, Conv.floatToFloat, hdec, hf]
      · simp [narrow, hdec]; exact cn_write .f32 (.number s m e) rfl

theorem wpl_narrow {P : Program} {w : World} {ops : Array Oper} {rest : List Oper} {o : Oper} {ac : Act} {Q : Exit → Act → World → Prop}
    (hw : Region.wanted o (yielded ops ac.tmps) = true) (src dst : TypeId) (x : Operand) (hop : o.op = .convert src dst x) (hs : (P.underlying src).isSome = true) (hd : P.underlying dst = some (.float .f32)) (b : Nat)
    (hx : ac.eval x = .float .f64 b) (hf : fits (cn .f64 b))
    (hK : ∀ r w', (∃ n, w' = w.drewN n) → cn .f32 r = narrow (cn .f64 b) → wpList P ops Q rest (ac.put o.dst (.float .f32 r)) w') : wpList P ops Q (o :: rest) ac w := by
  obtain ⟨r, w', hru, hn, hc⟩ := run_narrow (P := P) w src dst hs hd b hf
  unfold wpList
  rw [if_pos hw]
  left
  unfold Oper.wp execOp
  simp only [hop, Sem.run_bind, Sem.run_pure, Result.andThen_ok, hx, hru]
  exact hK r w' hn hc

theorem root_nan {q : Nat} {d r : Ieee.Datum} (h : d.root q = some r) : d.isNaN = false ∧ r.isNaN = false := by
  cases d with
  | nan s t => simp [Ieee.Datum.root] at h
  | infinity s =>
    simp only [Ieee.Datum.root] at h
    split at h
    · simp at h
    · simp at h; subst h; exact ⟨rfl, rfl⟩
  | number s m i =>
    refine ⟨rfl, ?_⟩
    simp only [Ieee.Datum.root] at h
    split at h
    · simp at h; subst h; rfl
    · split at h
      · simp at h
      · simp only [Option.some.injEq] at h; subst h; rfl

/-- The root of a float32 fits a float32. -/
theorem sqrt_fits (b : Nat) : fits (fsqrt (widen (cn .f32 b))) := by
  intro r hr
  unfold fsqrt widen at hr
  cases hc : cn .f32 b with
  | none => rw [hc] at hr; simp at hr
  | some b' =>
    obtain ⟨rfl, hn⟩ := cn_some hc
    rw [hc] at hr
    simp only [Option.map_some, Option.bind_some] at hr
    unfold Ieee.Format.sqrt at hr
    simp only [Option.map_eq_some_iff] at hr
    obtain ⟨d, hd, rfl⟩ := hr
    have hw : mag (FloatKind.f64.decode (FloatKind.f64.encode (FloatKind.f32.decode b))) 128 := by
      cases hdec : FloatKind.f32.decode b with
      | nan s t => rw [hdec] at hn; simp [Ieee.Datum.isNaN] at hn
      | infinity s => cases s <;> trivial
      | number s m e =>
        obtain ⟨hm, he1, he2⟩ := read32_bd b hdec
        have : mag (.number s m e) 127 := by
          by_cases h0 : m = 0
          · exact .inl h0
          · have := log2_lt24 h0 hm
            exact .inr (by omega)
        exact enc64_mag this (by omega)
    rcases root_mag _ hw hd with h | ⟨s, e, rfl⟩
    · cases d with
      | nan s t => have := (root_nan hd).2; simp [Ieee.Datum.isNaN] at this
      | infinity s => cases s <;> trivial
      | number s m e => exact mag_mono (enc64_mag (B := 64) h (by omega)) (by omega)
    · exact mag_mono (enc64_mag (s := s) (m := 0) (e := e) (B := 64) (.inl rfl) (by omega)) (by omega)

end Go.Proofs.Ytmmpemfhbnkomaa

namespace Go.Proofs.Ytmmpemfhbnkomaa
open Go.RowKit

/-- m * 2 ^ e is at most 2 ^ B. -/
def leB (B : Int) (m : Nat) (e : Int) : Prop := m = 0 ∨ (e ≤ B ∧ m ≤ 2 ^ (B - e).toNat)
def numB (B : Int) (s : Bool) (d : Ieee.Datum) : Prop := ∃ m e, d = .number s m e ∧ leB B m e
theorem leB_cases {B : Int} {m : Nat} {e : Int} (h : leB B m e) : m = 0 ∨ (m ≠ 0 ∧ (m.log2 : Int) + e < B) ∨ (m ≠ 0 ∧ (m.log2 : Int) + e = B ∧ m = 2 ^ m.log2) := by
  rcases h with h | ⟨h1, h2⟩
  · exact .inl h
  · by_cases h0 : m = 0
    · exact .inl h0
    · right
      rcases Nat.lt_or_ge m (2 ^ (B - e).toNat) with h3 | h3
      · left
        have := (Nat.log2_lt h0).2 h3
        exact ⟨h0, by omega⟩
      · right
        have h4 : m = 2 ^ (B - e).toNat := Nat.le_antisymm h2 h3
        have h5 : m.log2 = (B - e).toNat := by rw [h4]; exact Nat.log2_two_pow
        exact ⟨h0, by omega, by rw [h5]; exact h4⟩
theorem numB_mag {B : Int} {s : Bool} {d : Ieee.Datum} (h : numB B s d) : mag d B := by
  obtain ⟨m, e, rfl, h⟩ := h
  rcases leB_cases h with h | ⟨_, h⟩ | ⟨_, h, _⟩
  · exact .inl h
  · exact .inr (by omega)
  · exact .inr (by omega)

theorem read64_leB (neg : Bool) (r B' : Nat) (h : r ≤ B' * 4503599627370496) (h0 : 1 ≤ B') (hB : B' ≤ 2046) : numB ((B' : Int) - 1023) neg (Ieee.double.read (Ieee.double.word neg r)) := by
  have e1 : Ieee.double.signWeight = 9223372036854775808 := by decide
  have e2 : Ieee.double.binade = 4503599627370496 := by decide
  have e3 : Ieee.double.infRung = 9218868437227405312 := by decide
  have e4 : Ieee.double.leastPlace = -1074 := by decide
  unfold Ieee.Format.read Ieee.Format.word
  simp only [e1, e2, e3, e4]
  have hm : (if neg = true then 9223372036854775808 + r else r) % 9223372036854775808 = r := by split <;> omega
  have hs : ((if neg = true then 9223372036854775808 + r else r) / 9223372036854775808 % 2 == 1) = neg := by
    cases neg
    · simp; omega
    · simp; omega
  rw [hm, hs]
  by_cases h1 : r < 4503599627370496
  · rw [if_pos h1]
    refine ⟨r, -1074, rfl, .inr ⟨by omega, ?_⟩⟩
    have h2 : (2 : Nat) ^ 52 ≤ 2 ^ ((B' : Int) - 1023 - -1074).toNat := Nat.pow_le_pow_right (by omega) (by omega)
    have h3 : (2 : Nat) ^ 52 = 4503599627370496 := by decide
    omega
  · rw [if_neg h1, if_pos (by omega)]
    have hq1 : 1 ≤ r / 4503599627370496 := by omega
    have hq2 : r / 4503599627370496 ≤ B' := by omega
    have hr : r = r / 4503599627370496 * 4503599627370496 + r % 4503599627370496 := by omega
    have hlt : r % 4503599627370496 < 4503599627370496 := Nat.mod_lt _ (by omega)
    generalize r / 4503599627370496 = q at hq1 hq2 hr ⊢
    generalize r % 4503599627370496 = f at hr hlt ⊢
    refine ⟨_, _, rfl, .inr ⟨by omega, ?_⟩⟩
    have h3 : (2 : Nat) ^ 52 = 4503599627370496 := by decide
    have h4 : (2 : Nat) ^ 53 = 9007199254740992 := by decide
    rcases Nat.lt_or_ge q B' with hlt2 | hge
    · have h2 : (2 : Nat) ^ 53 ≤ 2 ^ ((B' : Int) - 1023 - (-1074 + ((q - 1 : Nat) : Int))).toNat := Nat.pow_le_pow_right (by omega) (by omega)
      omega
    · have h2 : (2 : Nat) ^ 52 ≤ 2 ^ ((B' : Int) - 1023 - (-1074 + ((q - 1 : Nat) : Int))).toNat := Nat.pow_le_pow_right (by omega) (by omega)
      have : q = B' := by omega
      subst this
      omega

theorem cut_pow (neg : Bool) (L : Nat) : Ieee.Toward.even.cut neg (2 ^ L <<< (52 - L)) (L - 52) = 4503599627370496 := by
  rcases Nat.le_total L 52 with h | h
  · have h1 : L - 52 = 0 := by omega
    rw [h1, cut_zero, Nat.shiftLeft_eq, ← Nat.pow_add, show L + (52 - L) = 52 by omega]
  · have h1 : 52 - L = 0 := by omega
    rw [h1, Nat.shiftLeft_zero]
    unfold Ieee.Toward.cut
    simp only [Nat.log2_two_pow]
    rw [show min (L - 52) (L + 2) = L - 52 by omega, Nat.one_shiftLeft]
    have h2 : 2 ^ L = 4503599627370496 * 2 ^ (L - 52) := by
      rw [show (4503599627370496 : Nat) = 2 ^ 52 by decide, ← Nat.pow_add, show 52 + (L - 52) = L by omega]
    have hp := Nat.two_pow_pos (L - 52)
    rw [h2]
    generalize 2 ^ (L - 52) = g at hp ⊢
    have h3 : 4503599627370496 * g % g = 0 := Nat.mul_mod_left _ _
    have h4 : 4503599627370496 * g / g = 4503599627370496 := Nat.mul_div_cancel _ hp
    rw [h3, h4]
    have h5 : (decide (g < 2 * 0) || (g == 2 * 0 && 4503599627370496 % 2 == 1)) = false := by
      have : ¬ g < 2 * 0 := by omega
      simp [Nat.ne_of_gt hp]
    rw [h5]
    rfl

/-- A number of at most 2 ^ B is written as such a one. -/
theorem enc64_leB {s : Bool} {m : Nat} {e : Int} {B : Int} (h : leB B m e) (h1 : -1021 ≤ B) (h2 : B ≤ 1023) : numB B s (FloatKind.f64.decode (FloatKind.f64.encode (.number s m e))) := by
  show numB B s (Ieee.double.read (Ieee.double.nearest s m e))
  have key : ∀ r : Nat, r ≤ (B + 1023).toNat * 4503599627370496 → numB B s (Ieee.double.read (Ieee.double.word s r)) := by
    intro r hr
    have := read64_leB s r (B + 1023).toNat hr (by omega) (by omega)
    have e : (((B + 1023).toNat : Nat) : Int) - 1023 = B := by omega
    rwa [e] at this
  unfold Ieee.Format.nearest
  split
  · exact key 0 (by omega)
  · rename_i h0
    have e4 : Ieee.double.leastPlace = -1074 := by decide
    have e5 : Ieee.double.fractionBits = 52 := rfl
    have e2 : Ieee.double.binade = 4503599627370496 := by decide
    have e3 : Ieee.double.infRung = 9218868437227405312 := by decide
    rcases leB_cases h with h | ⟨_, hb⟩ | ⟨_, hb, hm⟩
    · exact absurd h h0
    · have hr := rung_le Ieee.double s m e h0
      simp only [e4, e5, e2, e3] at hr ⊢
      generalize Ieee.Toward.even.cut s (m <<< (e - max (e + (m.log2 : Int) - ((52 : Nat) : Int)) (-1074)).toNat) (max (e + (m.log2 : Int) - ((52 : Nat) : Int)) (-1074) - e).toNat = kept at hr ⊢
      have h4 : (max (e + (m.log2 : Int) - ((52 : Nat) : Int)) (-1074) - -1074).toNat + 2 ≤ (B + 1023).toNat := by omega
      generalize (max (e + (m.log2 : Int) - ((52 : Nat) : Int)) (-1074) - -1074).toNat = qq at h4 ⊢
      have hr' : kept ≤ 9007199254740992 := hr
      refine key _ (Nat.le_trans (Nat.min_le_left _ _) ?_)
      have h5 : (qq + 2) * 4503599627370496 ≤ (B + 1023).toNat * 4503599627370496 := Nat.mul_le_mul_right _ h4
      omega
    · simp only [e4, e5, e2, e3]
      have h5 : max (e + (m.log2 : Int) - ((52 : Nat) : Int)) (-1074) = B - 52 := by omega
      rw [h5]
      have h6 : (e - (B - 52)).toNat = 52 - m.log2 := by omega
      have h7 : (B - 52 - e).toNat = m.log2 - 52 := by omega
      rw [h6, h7]
      generalize m.log2 = L at hm
      subst hm
      rw [cut_pow]
      refine key _ (Nat.le_trans (Nat.min_le_left _ _) ?_)
      have h8 : (B - 52 - -1074).toNat + 1 = (B + 1023).toNat := by omega
      rw [← h8]
      omega

theorem decode_enc_le {B : Int} {s : Bool} {d : Ieee.Datum} (h : numB B s d) (h1 : -1021 ≤ B) (h2 : B ≤ 1023) : numB B s (FloatKind.f64.decode (FloatKind.f64.format.write d)) := by
  obtain ⟨m, e, rfl, h⟩ := h
  exact enc64_leB h h1 h2

theorem leB_mul {B C : Int} {m n : Nat} {e j : Int} (h : leB B m e) (g : leB C n j) : leB (B + C) (m * n) (e + j) := by
  rcases h with h | ⟨h1, h2⟩
  · left; rw [h, Nat.zero_mul]
  · rcases g with g | ⟨g1, g2⟩
    · left; rw [g, Nat.mul_zero]
    · right
      refine ⟨by omega, ?_⟩
      have := Nat.mul_le_mul h2 g2
      rw [← Nat.pow_add] at this
      have e1 : (B - e).toNat + (C - j).toNat = (B + C - (e + j)).toNat := by omega
      rwa [e1] at this
theorem mul_leB {B C : Int} {s t : Bool} {a b : Nat} (h : numB B s (FloatKind.f64.decode a)) (g : numB C t (FloatKind.f64.decode b)) (h1 : -1021 ≤ B + C) (h2 : B + C ≤ 1023) :
    ∃ r, fbin .mul .f64 (some a) (some b) = some r ∧ numB (B + C) (s ^^ t) (FloatKind.f64.decode r) := by
  obtain ⟨m, e, hd, h⟩ := h
  obtain ⟨n, j, gd, g⟩ := g
  refine ⟨_, ?_, enc64_leB (leB_mul h g) h1 h2⟩
  show floatBits .mul .f64 a b = _
  unfold floatBits Ieee.Format.mul
  show ((FloatKind.f64.decode a).product (FloatKind.f64.decode b)).map _ = _
  rw [hd, gd]
  rfl
theorem leB_quo {B C : Int} {m n : Nat} {i j : Int} (q : Nat) (h : leB B m i) (hn : n ≠ 0) (hj : j ≤ C) (hC : 2 ^ (C - j).toNat ≤ n) :
    leB (B - C) (2 * (m <<< (q + n.log2 - m.log2) / n) + (m <<< (q + n.log2 - m.log2) % n != 0).toNat) (i - j - ((q + n.log2 - m.log2 : Nat) : Int) - 1) := by
  by_cases h0 : m = 0
  · left; subst h0; simp
  · right
    obtain ⟨h1, h2⟩ : i ≤ B ∧ m ≤ 2 ^ (B - i).toNat := by rcases h with h | h; exact absurd h h0; exact h
    have hl1 : m.log2 ≤ (B - i).toNat := log2_le_of_lt (Nat.lt_of_le_of_lt h2 (Nat.pow_lt_pow_right (by omega) (by omega)))
    have hl2 : (C - j).toNat ≤ n.log2 := by
      rw [Nat.le_log2 hn]; exact hC
    generalize hmore : q + n.log2 - m.log2 = more
    have hm2 : q + n.log2 ≤ more + m.log2 := by omega
    refine ⟨by omega, ?_⟩
    have e1 : (B - C - (i - j - (more : Int) - 1)).toNat = ((B - i).toNat + more - (C - j).toNat) + 1 := by omega
    rw [e1, Nat.pow_succ, Nat.shiftLeft_eq]
    have hX : 2 ^ ((B - i).toNat + more - (C - j).toNat) * 2 ^ (C - j).toNat = 2 ^ (B - i).toNat * 2 ^ more := by
      rw [← Nat.pow_add, ← Nat.pow_add]; congr 1; omega
    have hd : m * 2 ^ more ≤ 2 ^ ((B - i).toNat + more - (C - j).toNat) * n := by
      calc m * 2 ^ more ≤ 2 ^ (B - i).toNat * 2 ^ more := Nat.mul_le_mul_right _ h2
        _ = 2 ^ ((B - i).toNat + more - (C - j).toNat) * 2 ^ (C - j).toNat := hX.symm
        _ ≤ _ := Nat.mul_le_mul_left _ hC
    generalize 2 ^ ((B - i).toNat + more - (C - j).toNat) = X at hd ⊢
    generalize m * 2 ^ more = D at hd ⊢
    have hb : ∀ b : Bool, b.toNat ≤ 1 := by intro b; cases b <;> simp
    have hnp : 0 < n := Nat.pos_of_ne_zero hn
    have hle : D / n ≤ X := Nat.div_le_of_le_mul (by rw [Nat.mul_comm]; exact hd)
    rcases Nat.lt_or_ge (D / n) X with hlt | hge
    · have := hb (D % n != 0); omega
    · have he : D / n = X := Nat.le_antisymm hle hge
      have h5 := Nat.div_add_mod D n
      rw [he, Nat.mul_comm] at h5
      have h6 : D % n = 0 := by omega
      rw [he, h6]
      simp
      omega
theorem quo_leB {B C : Int} {s : Bool} {a b : Nat} {n : Nat} {j : Int} (h : numB B s (FloatKind.f64.decode a)) (hb : FloatKind.f64.decode b = .number false n j) (hn : n ≠ 0) (hj : j ≤ C) (hC : 2 ^ (C - j).toNat ≤ n) (h1 : -1021 ≤ B - C) (h2 : B - C ≤ 1023) :
    ∃ r, fbin .quo .f64 (some a) (some b) = some r ∧ numB (B - C) s (FloatKind.f64.decode r) := by
  obtain ⟨m, e, hd, h⟩ := h
  have he : ∃ q, floatBits .quo .f64 a b = ((FloatKind.f64.decode a).quotient q (FloatKind.f64.decode b)).map FloatKind.f64.format.write := ⟨_, rfl⟩
  obtain ⟨q, he⟩ := he
  refine ⟨_, ?_, enc64_leB (s := s) (leB_quo q h hn hj hC) h1 h2⟩
  show floatBits .quo .f64 a b = _
  rw [he, hd, hb]
  unfold Ieee.Datum.quotient
  simp only [if_neg hn, Option.map_some, Bool.xor_false]
  rfl
theorem dec_one : FloatKind.f64.decode 4607182418800017408 = .number false 4503599627370496 (-52) := by decide
theorem add1_leB {b : Nat} (h : numB 0 true (FloatKind.f64.decode b)) : ∃ r, fbin .add .f64 (some 4607182418800017408) (some b) = some r ∧ numB 0 false (FloatKind.f64.decode r) := by
  obtain ⟨m, e, hd, h⟩ := h
  have hs : ∃ k p, Ieee.Datum.sum (.number false 4503599627370496 (-52)) (.number true m e) = some (.number false k p) ∧ leB 0 k p := by
    unfold Ieee.Datum.sum Ieee.signed
    simp only [Bool.false_and, Bool.false_eq_true, if_false, if_true]
    have h52 : (4503599627370496 : Nat) = 2 ^ 52 := by decide
    have ha : 4503599627370496 <<< (-52 - min (-52) e).toNat = 2 ^ (0 - min (-52) e).toNat := by
      rw [Nat.shiftLeft_eq, h52, ← Nat.pow_add]; congr 1; omega
    have hb : m <<< (e - min (-52) e).toNat ≤ 2 ^ (0 - min (-52) e).toNat := by
      rcases h with h | ⟨h1, h2⟩
      · rw [h]; simp
      · rw [Nat.shiftLeft_eq]
        calc m * 2 ^ (e - min (-52) e).toNat ≤ 2 ^ (0 - e).toNat * 2 ^ (e - min (-52) e).toNat := Nat.mul_le_mul_right _ h2
          _ = 2 ^ (0 - min (-52) e).toNat := by rw [← Nat.pow_add]; congr 1; omega
    rw [ha]
    generalize m <<< (e - min (-52) e).toNat = y at hb ⊢
    have hmin : min (-52) e ≤ 0 := by omega
    generalize hp : min (-52) e = p at *
    generalize hx : 2 ^ (0 - p).toNat = x at *
    refine ⟨((x : Int) + -(y : Int)).natAbs, p, ?_, .inr ⟨hmin, ?_⟩⟩
    · have hneg : (if ((x : Int) + -(y : Int)) = 0 then false else decide ((x : Int) + -(y : Int) < 0)) = false := by
        split
        · rfl
        · exact decide_eq_false (by omega)
      rw [hneg]
    · rw [hx]; omega
  obtain ⟨k, p, hs, hk⟩ := hs
  refine ⟨_, ?_, enc64_leB (s := false) hk (by omega) (by omega)⟩
  show floatBits .add .f64 4607182418800017408 b = _
  unfold floatBits Ieee.Format.add
  show ((FloatKind.f64.decode 4607182418800017408).sum (FloatKind.f64.decode b)).map _ = _
  rw [dec_one, hd, hs]
  rfl

/-! The exponential function. -/
def kF (i : Nat) : Nat := floatOfInt .f64 (12 - (i : Int))
def kOk (d : Ieee.Datum) : Bool := match d with
  | .number s n j => (s == false) && (n != 0) && decide (j ≤ 0) && decide (2 ^ (0 - j).toNat ≤ n)
  | _ => false
theorem kF_ok : ∀ i : Fin 12, kOk (FloatKind.f64.decode (kF i.val)) = true := by decide +kernel
theorem kF_dec (i : Nat) (h : i < 12) : ∃ n j, FloatKind.f64.decode (kF i) = .number false n j ∧ n ≠ 0 ∧ j ≤ 0 ∧ 2 ^ (0 - j).toNat ≤ n := by
  have hk := kF_ok ⟨i, h⟩
  simp only at hk
  cases hd : FloatKind.f64.decode (kF i) with
  | number s n j =>
    rw [hd] at hk
    unfold kOk at hk
    simp only [Bool.and_eq_true, beq_iff_eq, bne_iff_ne, decide_eq_true_eq] at hk
    obtain ⟨⟨⟨h1, h2⟩, h3⟩, h4⟩ := hk
    subst h1
    exact ⟨n, j, rfl, h2, h3, h4⟩
  | infinity s => rw [hd] at hk; simp [kOk] at hk
  | nan s t => rw [hd] at hk; simp [kOk] at hk
def hornerF (t : Option Nat) : Nat → Option Nat
  | 0 => some 4607182418800017408
  | i + 1 => fbin .add .f64 (some 4607182418800017408) (fbin .quo .f64 (fbin .mul .f64 t (hornerF t i)) (some (kF i)))
def squareF (p : Option Nat) : Nat → Option Nat
  | 0 => p
  | i + 1 => fbin .mul .f64 (squareF p i) (squareF p i)
theorem hornerF_le {t : Nat} (h : numB 0 true (FloatKind.f64.decode t)) (i : Nat) (hi : i ≤ 12) : ∃ b, hornerF (some t) i = some b ∧ numB 0 false (FloatKind.f64.decode b) := by
  induction i with
  | zero => exact ⟨_, rfl, _, _, dec_one, .inr ⟨by decide, by decide⟩⟩
  | succ i ih =>
    obtain ⟨b, hb, hn⟩ := ih (by omega)
    obtain ⟨r1, e1, n1⟩ := mul_leB h hn (by omega) (by omega)
    obtain ⟨n, j, hk, hk0, hk1, hk2⟩ := kF_dec i (by omega)
    obtain ⟨r2, e2, n2⟩ := quo_leB (C := 0) n1 hk hk0 hk1 hk2 (by omega) (by omega)
    obtain ⟨r3, e3, n3⟩ := add1_leB n2
    exact ⟨r3, by rw [hornerF, hb, e1, e2, e3], n3⟩
theorem squareF_le {p : Nat} (h : numB 0 false (FloatKind.f64.decode p)) (i : Nat) : ∃ b, squareF (some p) i = some b ∧ numB 0 false (FloatKind.f64.decode b) := by
  induction i with
  | zero => exact ⟨p, rfl, h⟩
  | succ i ih =>
    obtain ⟨b, hb, hn⟩ := ih
    obtain ⟨r, e, n⟩ := mul_leB hn hn (by omega) (by omega)
    exact ⟨r, by rw [squareF, hb, e], n⟩

end Go.Proofs.Ytmmpemfhbnkomaa

namespace Go.Proofs.Ytmmpemfhbnkomaa
open Go.RowKit

/-- A number of a sign, or an infinity of it. -/
def sgD (s : Bool) (d : Ieee.Datum) : Prop := (∃ m e, d = .number s m e) ∨ d = .infinity s
theorem read32_sgn (s : Bool) (r : Nat) (h : r ≤ 2139095040) : sgD s (Ieee.single.read (Ieee.single.word s r)) := by
  have e1 : Ieee.single.signWeight = 2147483648 := by decide
  have e2 : Ieee.single.binade = 8388608 := by decide
  have e3 : Ieee.single.infRung = 2139095040 := by decide
  unfold Ieee.Format.read Ieee.Format.word
  simp only [e1, e2, e3]
  have hm : (if s = true then 2147483648 + r else r) % 2147483648 = r := by split <;> omega
  have hs : ((if s = true then 2147483648 + r else r) / 2147483648 % 2 == 1) = s := by
    cases s
    · simp; omega
    · simp; omega
  rw [hm, hs]
  split
  · exact .inl ⟨_, _, rfl⟩
  · split
    · exact .inl ⟨_, _, rfl⟩
    · split
      · exact .inr rfl
      · omega
theorem enc32_sgn (s : Bool) (m : Nat) (e : Int) : sgD s (FloatKind.f32.decode (FloatKind.f32.encode (.number s m e))) := by
  show sgD s (Ieee.single.read (Ieee.single.nearest s m e))
  have e3 : Ieee.single.infRung = 2139095040 := by decide
  unfold Ieee.Format.nearest
  split
  · exact read32_sgn s 0 (by omega)
  · refine read32_sgn s _ ?_
    rw [e3]; exact Nat.min_le_right _ _
theorem inf32_sgn (s : Bool) : sgD s (FloatKind.f32.decode (FloatKind.f32.encode (.infinity s))) := read32_sgn s 2139095040 (Nat.le_refl _)
theorem write32_sgn {s : Bool} {d : Ieee.Datum} (h : sgD s d) : sgD s (FloatKind.f32.decode (FloatKind.f32.format.write d)) := by
  rcases h with ⟨m, e, rfl⟩ | rfl
  · exact enc32_sgn s m e
  · exact inf32_sgn s
theorem sgn_notNaN {s : Bool} {d : Ieee.Datum} (h : sgD s d) : d.isNaN = false := by
  rcases h with ⟨m, e, rfl⟩ | rfl <;> rfl

/-- -0.6931472 -/
def cLn : Nat := 3207688728
theorem cLn_dec : FloatKind.f32.decode cLn = .number true 11629080 (-24) := by decide
/-- The exponent: -0.6931472 times a time, over a half. -/
def expQ (dt : Int) (H : Nat) : Option Nat := fbin .quo .f32 (fbin .mul .f32 (some cLn) (some (floatOfInt .f32 dt))) (some H)
theorem expQ_neg {dt : Int} {H : Nat} {n : Nat} {j : Int} (h0 : 0 ≤ dt) (hH : FloatKind.f32.decode H = .number false n j) (hn : n ≠ 0) : ∃ b, expQ dt H = some b ∧ sgD true (FloatKind.f32.decode b) := by
  have hd : sgD false (FloatKind.f32.decode (floatOfInt .f32 dt)) := by
    have e : floatOfInt .f32 dt = FloatKind.f32.encode (.number (decide (dt < 0)) dt.natAbs 0) := rfl
    rw [e, decide_eq_false (by omega)]
    exact enc32_sgn _ _ _
  obtain ⟨r1, h1, s1⟩ : ∃ r, fbin .mul .f32 (some cLn) (some (floatOfInt .f32 dt)) = some r ∧ sgD true (FloatKind.f32.decode r) := by
    rcases hd with ⟨m, e, hd⟩ | hd
    · refine ⟨FloatKind.f32.format.write (.number true (11629080 * m) (-24 + e)), ?_, enc32_sgn _ _ _⟩
      show floatBits .mul .f32 cLn (floatOfInt .f32 dt) = _
      unfold floatBits Ieee.Format.mul
      show ((FloatKind.f32.decode cLn).product (FloatKind.f32.decode (floatOfInt .f32 dt))).map _ = _
      rw [cLn_dec, hd]
      rfl
    · refine ⟨FloatKind.f32.format.write (.infinity true), ?_, inf32_sgn _⟩
      show floatBits .mul .f32 cLn (floatOfInt .f32 dt) = _
      unfold floatBits Ieee.Format.mul
      show ((FloatKind.f32.decode cLn).product (FloatKind.f32.decode (floatOfInt .f32 dt))).map _ = _
      rw [cLn_dec, hd]
      rfl
  have he : ∃ q, floatBits .quo .f32 r1 H = ((FloatKind.f32.decode r1).quotient q (FloatKind.f32.decode H)).map FloatKind.f32.format.write := ⟨_, rfl⟩
  obtain ⟨q, he⟩ := he
  have e0 : expQ dt H = floatBits .quo .f32 r1 H := by unfold expQ; rw [h1]; rfl
  rcases s1 with ⟨m, e, hd1⟩ | hd1
  · rw [hd1, hH] at he
    unfold Ieee.Datum.quotient at he
    simp only [if_neg hn, Option.map_some, Bool.xor_false] at he
    exact ⟨_, e0.trans he, enc32_sgn _ _ _⟩
  · rw [hd1, hH] at he
    have he2 : floatBits .quo .f32 r1 H = some (FloatKind.f32.format.write (.infinity (true ^^ false))) := he
    exact ⟨_, e0.trans he2, inf32_sgn _⟩

/-- Two numbers stand to one another as their values do. -/
theorem order_shift (s t : Bool) (m n d f : Nat) (i j : Int) : (Ieee.Datum.number s (m <<< d) (i - d)).order (.number t (n <<< f) (j - f)) = (Ieee.Datum.number s m i).order (.number t n j) := by
  show some (compare (Ieee.signed s (m <<< d) _) (Ieee.signed t (n <<< f) _)) = some (compare (Ieee.signed s m _) (Ieee.signed t n _))
  have hb : min (i - d) (j - f) ≤ min i j := by omega
  obtain ⟨g, hg⟩ : ∃ g : Nat, min i j - min (i - d) (j - f) = (g : Int) := ⟨(min i j - min (i - d) (j - f)).toNat, by omega⟩
  have h1 : ∀ (s : Bool) (m a b : Nat), Ieee.signed s (m <<< a) b = Ieee.signed s m (b + a) := by
    intro s m a b
    unfold Ieee.signed
    rw [← Nat.shiftLeft_add, Nat.add_comm a b]
  have h2 : ∀ (s : Bool) (m a : Nat), Ieee.signed s m (a + g) = Ieee.signed s m a * (2 ^ g : Nat) := by
    intro s m a
    unfold Ieee.signed
    rw [Nat.shiftLeft_add]
    cases s
    · simp only [Bool.false_eq_true, if_false, Nat.shiftLeft_eq]; push_cast; rfl
    · simp only [if_true, Nat.shiftLeft_eq]; push_cast; rw [Int.neg_mul]
  rw [h1, h1]
  have e1 : (i - d - min (i - d) (j - f)).toNat + d = (i - min i j).toNat + g := by omega
  have e2 : (j - f - min (i - d) (j - f)).toNat + f = (j - min i j).toNat + g := by omega
  rw [e1, e2, h2, h2]
  have hp : (0 : Int) < ((2 ^ g : Nat) : Int) := by have := Nat.two_pow_pos g; omega
  generalize ((2 ^ g : Nat) : Int) = G at hp
  generalize Ieee.signed s m _ = A
  generalize Ieee.signed t n _ = B
  congr 1
  rcases Int.lt_trichotomy A B with h | h | h
  · have h' : A * G < B * G := Int.mul_lt_mul_of_pos_right h hp
    rw [Int.compare_eq_lt.2 h, Int.compare_eq_lt.2 h']
  · subst h; simp
  · have h' : B * G < A * G := Int.mul_lt_mul_of_pos_right h hp
    rw [Int.compare_eq_gt.2 h, Int.compare_eq_gt.2 h']

theorem read64_num (s : Bool) (r : Nat) (h1 : 4503599627370496 ≤ r) (h : r < 9218868437227405312) : Ieee.double.read (Ieee.double.word s r) = .number s (4503599627370496 + r % 4503599627370496) (-1074 + ((r / 4503599627370496 - 1 : Nat) : Int)) := by
  have e1 : Ieee.double.signWeight = 9223372036854775808 := by decide
  have e2 : Ieee.double.binade = 4503599627370496 := by decide
  have e3 : Ieee.double.infRung = 9218868437227405312 := by decide
  have e4 : Ieee.double.leastPlace = -1074 := by decide
  unfold Ieee.Format.read Ieee.Format.word
  simp only [e1, e2, e3, e4]
  have hm : (if s = true then 9223372036854775808 + r else r) % 9223372036854775808 = r := by split <;> omega
  have hs : ((if s = true then 9223372036854775808 + r else r) / 9223372036854775808 % 2 == 1) = s := by
    cases s
    · simp; omega
    · simp; omega
  rw [hm, hs, if_neg (by omega), if_pos h]
theorem shl_ge {m : Nat} (hm : m ≠ 0) (q : Nat) (hq : m.log2 ≤ q) : 2 ^ q ≤ m <<< (q - m.log2) := by
  rw [Nat.shiftLeft_eq]
  have h1 : 2 ^ m.log2 ≤ m := (Nat.le_log2 hm).1 (Nat.le_refl _)
  calc 2 ^ q = 2 ^ m.log2 * 2 ^ (q - m.log2) := by rw [← Nat.pow_add]; congr 1; omega
    _ ≤ _ := Nat.mul_le_mul_right _ h1
theorem min_word {qq kk : Nat} (h1 : qq ≤ 1149) (h2 : kk < 9007199254740992) : min (qq * 4503599627370496 + kk) 9218868437227405312 = qq * 4503599627370496 + kk := by
  apply Nat.min_eq_left
  omega
theorem read_rung {s : Bool} {qq kk : Nat} (h1 : qq ≤ 1149) (h2 : kk < 9007199254740992) (h3 : 4503599627370496 ≤ kk) : Ieee.double.read (Ieee.double.word s (min (qq * 4503599627370496 + kk) 9218868437227405312)) = .number s kk (-1074 + (qq : Int)) := by
  rw [min_word h1 h2, read64_num s _ (by omega) (by omega)]
  have hd : (qq * 4503599627370496 + kk) / 4503599627370496 = qq + 1 := by omega
  have hmo : (qq * 4503599627370496 + kk) % 4503599627370496 = kk - 4503599627370496 := by omega
  have ea : 4503599627370496 + (kk - 4503599627370496) = kk := by omega
  have eb : qq + 1 - 1 = qq := by omega
  rw [hd, hmo, ea, eb]
/-- A float32 as a float64: the same number. -/
theorem widen_dec (b : Nat) {s : Bool} {m : Nat} {e : Int} (h : FloatKind.f32.decode b = .number s m e) (h0 : m ≠ 0) :
    FloatKind.f64.decode (FloatKind.f64.encode (.number s m e)) = .number s (m <<< (52 - m.log2)) (e - ((52 - m.log2 : Nat) : Int)) := by
  obtain ⟨hm, he1, he2⟩ := read32_bd b h
  show Ieee.double.read (Ieee.double.nearest s m e) = _
  unfold Ieee.Format.nearest
  rw [if_neg h0]
  have hl := log2_lt24 h0 hm
  have e3 : Ieee.double.infRung = 9218868437227405312 := by decide
  have e4 : Ieee.double.leastPlace = -1074 := by decide
  have e5 : Ieee.double.fractionBits = 52 := rfl
  have e2 : Ieee.double.binade = 4503599627370496 := by decide
  simp only [e4, e5, e2, e3]
  have hlast : max (e + (m.log2 : Int) - ((52 : Nat) : Int)) (-1074) = e + m.log2 - 52 := by omega
  rw [hlast]
  have h1 : (e - (e + (m.log2 : Int) - 52)).toNat = 52 - m.log2 := by omega
  have h2 : ((e + (m.log2 : Int) - 52) - e).toNat = 0 := by omega
  rw [h1, h2, cut_zero]
  have h3 : m <<< (52 - m.log2) < 9007199254740992 := shl_lt h0 52 (by omega)
  have h3' := shl_ge h0 52 (by omega)
  have e52 : (2 : Nat) ^ 52 = 4503599627370496 := by decide
  rw [e52] at h3'
  generalize m <<< (52 - m.log2) = kk at h3 h3'
  have h4 : ((e + (m.log2 : Int) - 52) - -1074).toNat ≤ 1149 := by omega
  have h5 : -1074 + ((((e + (m.log2 : Int) - 52) - -1074).toNat : Nat) : Int) = e - ((52 - m.log2 : Nat) : Int) := by omega
  rw [← h5]
  exact read_rung h4 h3 h3'
theorem widen_zero (b : Nat) {s : Bool} {e : Int} (h : FloatKind.f32.decode b = .number s 0 e) : ∃ p, FloatKind.f64.decode (FloatKind.f64.encode (.number s 0 e)) = .number s 0 p := by
  have e0 : FloatKind.f64.encode (.number s 0 e) = Ieee.double.word s 0 := by
    show Ieee.double.nearest s 0 e = _
    unfold Ieee.Format.nearest
    rw [if_pos rfl]
  rw [e0]
  cases s
  · exact ⟨_, rfl⟩
  · exact ⟨_, rfl⟩
/-- -200 in both kinds -/
theorem m200_32 : FloatKind.f32.decode 3276275712 = .number true 13107200 (-16) := by decide
theorem m200_64 : FloatKind.f64.decode 13864612927836782592 = .number true (13107200 <<< 29) (-16 - ((29 : Nat) : Int)) := by decide +kernel
theorem p200_32 : FloatKind.f32.decode 1128792064 = .number false 13107200 (-16) := by decide
theorem p200_64 : FloatKind.f64.decode 4641240890982006784 = .number false (13107200 <<< 29) (-16 - ((29 : Nat) : Int)) := by decide +kernel
theorem order_zero_neg (s : Bool) (e j : Int) (n : Nat) (hn : n ≠ 0) : (Ieee.Datum.number s 0 e).order (.number true n j) = some .gt := by
  show some (compare (Ieee.signed s 0 _) (Ieee.signed true n _)) = _
  congr 1
  have h1 : Ieee.signed s 0 (e - min e j).toNat = 0 := by cases s <;> simp [Ieee.signed]
  have h2 : Ieee.signed true n (j - min e j).toNat < 0 := by
    unfold Ieee.signed
    rw [if_pos rfl, Nat.shiftLeft_eq]
    have := Nat.mul_pos (Nat.pos_of_ne_zero hn) (Nat.two_pow_pos (j - min e j).toNat)
    omega
  rw [h1]
  exact Int.compare_eq_gt.2 h2
theorem order_neg_pos (m : Nat) (e j : Int) (n : Nat) (hn : n ≠ 0) : (Ieee.Datum.number true m e).order (.number false n j) = some .lt := by
  show some (compare (Ieee.signed true m _) (Ieee.signed false n _)) = _
  congr 1
  have h1 : Ieee.signed true m (e - min e j).toNat ≤ 0 := by unfold Ieee.signed; rw [if_pos rfl]; generalize m <<< (e - min e j).toNat = g; omega
  have h2 : 0 < Ieee.signed false n (j - min e j).toNat := by
    unfold Ieee.signed
    simp only [Bool.false_eq_true, if_false, Nat.shiftLeft_eq]
    have := Nat.mul_pos (Nat.pos_of_ne_zero hn) (Nat.two_pow_pos (j - min e j).toNat)
    omega
  exact Int.compare_eq_lt.2 (by omega)
/-- How it stands to -200, in both kinds. -/
theorem order_m200 {b : Nat} (h : sgD true (FloatKind.f32.decode b)) : FloatKind.f64.format.order (FloatKind.f64.encode (FloatKind.f32.decode b)) 13864612927836782592 = FloatKind.f32.format.order b 3276275712 := by
  show (FloatKind.f64.decode (FloatKind.f64.encode (FloatKind.f32.decode b))).order (FloatKind.f64.decode 13864612927836782592) = (FloatKind.f32.decode b).order (FloatKind.f32.decode 3276275712)
  rw [m200_32, m200_64]
  rcases h with ⟨m, e, hd⟩ | hd
  · rw [hd]
    by_cases h0 : m = 0
    · subst h0
      obtain ⟨p, hp⟩ := widen_zero b hd
      rw [hp, order_zero_neg _ _ _ _ (by decide), order_zero_neg _ _ _ _ (by decide)]
    · rw [widen_dec b hd h0, order_shift]
  · rw [hd]
    rfl
theorem order_p200 {b : Nat} (h : sgD true (FloatKind.f32.decode b)) : FloatKind.f32.format.order b 1128792064 = some .lt ∧ FloatKind.f64.format.order (FloatKind.f64.encode (FloatKind.f32.decode b)) 4641240890982006784 = some .lt := by
  refine ⟨?_, ?_⟩
  · show (FloatKind.f32.decode b).order (FloatKind.f32.decode 1128792064) = _
    rw [p200_32]
    rcases h with ⟨m, e, hd⟩ | hd
    · rw [hd]; exact order_neg_pos _ _ _ _ (by decide)
    · rw [hd]; rfl
  · show (FloatKind.f64.decode (FloatKind.f64.encode (FloatKind.f32.decode b))).order (FloatKind.f64.decode 4641240890982006784) = _
    rw [p200_64]
    rcases h with ⟨m, e, hd⟩ | hd
    · rw [hd]
      by_cases h0 : m = 0
      · subst h0
        obtain ⟨p, hp⟩ := widen_zero b hd
        rw [hp]; exact order_neg_pos _ _ _ _ (by decide)
      · rw [widen_dec b hd h0]; exact order_neg_pos _ _ _ _ (by decide)
    · rw [hd]; rfl
theorem order_self64 {b : Nat} (h : sgD true (FloatKind.f32.decode b)) : FloatKind.f64.format.order (FloatKind.f64.encode (FloatKind.f32.decode b)) (FloatKind.f64.encode (FloatKind.f32.decode b)) = some .eq := by
  apply order_self
  rcases h with ⟨m, e, hd⟩ | hd
  · rw [hd]; exact write_notNaN .f64 _ rfl
  · rw [hd]; exact write_notNaN .f64 _ rfl

/-- What is not below -200 is at most 2^8. -/
theorem m200_leB {b : Nat} (h : sgD true (FloatKind.f32.decode b)) (ho : FloatKind.f32.format.order b 3276275712 ≠ some .lt) : numB 8 true (FloatKind.f32.decode b) := by
  have ho' : (FloatKind.f32.decode b).order (FloatKind.f32.decode 3276275712) ≠ some .lt := ho
  rw [m200_32] at ho'
  rcases h with ⟨m, e, hd⟩ | hd
  · rw [hd] at ho' ⊢
    refine ⟨m, e, rfl, ?_⟩
    by_cases h0 : m = 0
    · exact .inl h0
    right
    have hc : compare (Ieee.signed true m (e - min e (-16)).toNat) (Ieee.signed true 13107200 (-16 - min e (-16)).toNat) ≠ .lt := fun hh => ho' (congrArg some hh)
    rw [Ne, Int.compare_eq_lt] at hc
    unfold Ieee.signed at hc
    rw [if_pos rfl, if_pos rfl, Nat.shiftLeft_eq, Nat.shiftLeft_eq] at hc
    have hc2 : m * 2 ^ (e - min e (-16)).toNat ≤ 13107200 * 2 ^ (-16 - min e (-16)).toNat := by omega
    have h24 : (13107200 : Nat) ≤ 2 ^ 24 := by decide
    rcases Int.le_total e (-16) with hle | hle
    · have e1 : (e - min e (-16)).toNat = 0 := by omega
      have e2 : (-16 - min e (-16)).toNat = (-16 - e).toNat := by omega
      rw [e1, e2, Nat.pow_zero, Nat.mul_one] at hc2
      refine ⟨by omega, Nat.le_trans hc2 ?_⟩
      have e3 : (8 - e).toNat = 24 + (-16 - e).toNat := by omega
      rw [e3, Nat.pow_add]
      exact Nat.mul_le_mul_right _ h24
    · have e1 : (e - min e (-16)).toNat = (e + 16).toNat := by omega
      have e2 : (-16 - min e (-16)).toNat = 0 := by omega
      rw [e1, e2, Nat.pow_zero, Nat.mul_one] at hc2
      have hc3 : m * 2 ^ (e + 16).toNat ≤ 2 ^ 24 := Nat.le_trans hc2 h24
      have h1 : 1 * 2 ^ (e + 16).toNat ≤ 2 ^ 24 := Nat.le_trans (Nat.mul_le_mul_right _ (Nat.pos_of_ne_zero h0)) hc3
      have h2 : (e + 16).toNat ≤ 24 := by
        rw [Nat.one_mul] at h1
        exact (Nat.pow_le_pow_iff_right (by decide)).1 h1
      refine ⟨by omega, ?_⟩
      have e3 : 24 = (8 - e).toNat + (e + 16).toNat := by omega
      rw [e3, Nat.pow_add] at hc3
      exact Nat.le_of_mul_le_mul_right hc3 (Nat.two_pow_pos _)
  · rw [hd] at ho'
    exact absurd rfl ho'

/-- e to the power. -/
def expT (b : Nat) : Option Nat := fbin .quo .f64 (widen (some b)) (some 4643211215818981376)
def expO (b : Nat) : Option Nat := if FloatKind.f32.format.order b 3276275712 = some .lt then some 0 else narrow (squareF (hornerF (expT b) 12) 8)
theorem c256 : FloatKind.f64.decode 4643211215818981376 = .number false 4503599627370496 (-44) := by decide +kernel
theorem expT_ok {b : Nat} (h : sgD true (FloatKind.f32.decode b)) (ho : FloatKind.f32.format.order b 3276275712 ≠ some .lt) : ∃ t, expT b = some t ∧ numB 0 true (FloatKind.f64.decode t) := by
  have h8 := m200_leB h ho
  obtain ⟨m, e, hd, hl⟩ := h8
  have hw : numB 8 true (FloatKind.f64.decode (FloatKind.f64.encode (FloatKind.f32.decode b))) := by rw [hd]; exact enc64_leB hl (by omega) (by omega)
  obtain ⟨r, hr, hn⟩ := quo_leB (C := 8) hw c256 (by decide) (by omega) (by decide) (by omega) (by omega)
  exact ⟨r, hr, hn⟩
theorem expS_ok {b : Nat} (h : sgD true (FloatKind.f32.decode b)) (ho : FloatKind.f32.format.order b 3276275712 ≠ some .lt) : ∃ p, squareF (hornerF (expT b) 12) 8 = some p ∧ numB 0 false (FloatKind.f64.decode p) := by
  obtain ⟨t, ht, hn⟩ := expT_ok h ho
  obtain ⟨p, hp, hpn⟩ := hornerF_le hn 12 (by omega)
  obtain ⟨r, hr, hrn⟩ := squareF_le hpn 8
  exact ⟨r, by rw [ht, hp, hr], hrn⟩
theorem exp_fits {b : Nat} (h : sgD true (FloatKind.f32.decode b)) (ho : FloatKind.f32.format.order b 3276275712 ≠ some .lt) : fits (squareF (hornerF (expT b) 12) 8) := by
  obtain ⟨p, hp, hn⟩ := expS_ok h ho
  intro q hq
  rw [hp] at hq
  simp at hq
  subst hq
  exact mag_mono (numB_mag hn) (by omega)

end Go.Proofs.Ytmmpemfhbnkomaa

namespace Go.Proofs.Ytmmpemfhbnkomaa
open Go.RowKit

def RetF64 (w : World) (o : Option Nat) (en : Ending) (w' : World) : Prop :=
  ∃ r, en = .returned (.float .f64 r) ∧ cn .f64 r = o ∧ Below w.heap.size w w'

def rootC (o : Option Nat) : Option Nat := narrow (fsqrt (widen o))

theorem l01Narrow_any {x : Nat} {w : World} (hf : fits (cn .f64 x)) : Calls Try.prog 25 #[.float .f64 x] w (RetF w (narrow (cn .f64 x))) := by
  have HF := Lib.hid hf
  clear hf
  go_enter Try.func25, Try.ntmps25
  go_wp2_with (refine wpl_narrow rfl _ _ _ rfl (by kernel_rfl) (by kernel_rfl) _ rfl HF.out ?_; rintro q2 w' ⟨n2, rfl⟩ hq2; have HQ2 := Lib.hid hq2; clear hq2)
  go_ret
  exact ⟨q2, rfl, HQ2.out, below_of_drewN _ _ _⟩

def normR (xs : List Nat) : Option Nat := if isVec xs then ifFin (rootC (dotC xs xs)) else some 0
def normB (xs : List Nat) : Bool := isVec xs && fin .f32 (rootC (dotC xs xs))

end Go.Proofs.Ytmmpemfhbnkomaa
