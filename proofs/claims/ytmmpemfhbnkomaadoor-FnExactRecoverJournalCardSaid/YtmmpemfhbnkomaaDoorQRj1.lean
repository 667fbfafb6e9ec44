/- Floats, whatever the bits of a NaN are: 'cn' forgets them; each operation is a function of what 'cn' leaves. The walks of the laws' small helpers on slices of float32. slices.IndexFunc and slices.ContainsFunc at []float32, for whatever closure. IsFinite, finite lists, vectors. sameFloat, and eq.. on lists of float32. eq.. on lists of float32. The sum of the products of two vectors, in both texts; a number if it is finite. The walks of the laws' small helpers on slices of bool. -/
import Derived.Test.YtmmpemfhbnkomaaDoorQRj0
import Derived.Test.YtmmpemfhbnkomaaDoorRows
set_option linter.unusedVariables false
set_option linter.unusedSimpArgs false
namespace Go.Proofs.YtmmpemfhbnkomaaDoor
open Go.RowKit

/-- The bits of a float that is a number or an infinity; nothing of a NaN. -/
def cn (k : FloatKind) (b : Nat) : Option Nat := if (k.decode b).isNaN then none else some b

theorem read_word32 (neg : Bool) (r : Nat) (h : r ≤ 2139095040) : (Ieee.single.read (Ieee.single.word neg r)).isNaN = false := by
  have e1 : Ieee.single.signWeight = 2147483648 := by decide
  have e2 : Ieee.single.binade = 8388608 := by decide
  have e3 : Ieee.single.infRung = 2139095040 := by decide
  unfold Ieee.Format.read Ieee.Format.word
  simp only [e1, e2, e3]
  have hm : (if neg = true then 2147483648 + r else r) % 2147483648 = r := by split <;> omega
  rw [hm]
  split
  · rfl
  · split
    · rfl
    · split
      · rfl
      · omega
theorem read_word64 (neg : Bool) (r : Nat) (h : r ≤ 9218868437227405312) : (Ieee.double.read (Ieee.double.word neg r)).isNaN = false := by
  have e1 : Ieee.double.signWeight = 9223372036854775808 := by decide
  have e2 : Ieee.double.binade = 4503599627370496 := by decide
  have e3 : Ieee.double.infRung = 9218868437227405312 := by decide
  unfold Ieee.Format.read Ieee.Format.word
  simp only [e1, e2, e3]
  have hm : (if neg = true then 9223372036854775808 + r else r) % 9223372036854775808 = r := by split <;> omega
  rw [hm]
  split
  · rfl
  · split
    · rfl
    · split
      · rfl
      · omega

theorem read_word (k : FloatKind) (neg : Bool) (r : Nat) (h : r ≤ k.format.infRung) : (k.decode (k.format.word neg r)).isNaN = false := by
  cases k
  · exact read_word32 neg r (by have e3 : Ieee.single.infRung = 2139095040 := by decide
                                rw [← e3]; exact h)
  · exact read_word64 neg r (by have e3 : Ieee.double.infRung = 9218868437227405312 := by decide
                                rw [← e3]; exact h)

theorem nearest_notNaN (k : FloatKind) (neg : Bool) (m : Nat) (p : Int) : (k.decode (k.format.nearest neg m p)).isNaN = false := by
  unfold Ieee.Format.nearest
  split
  · exact read_word k neg 0 (Nat.zero_le _)
  · exact read_word k neg _ (Nat.min_le_right _ _)

theorem write_notNaN (k : FloatKind) (d : Ieee.Datum) (h : d.isNaN = false) : (k.decode (k.format.write d)).isNaN = false := by
  cases d with
  | number s m e => exact nearest_notNaN k s m e
  | infinity s => exact read_word k s _ (Nat.le_refl _)
  | nan s t => simp [Ieee.Datum.isNaN] at h

theorem cn_write (k : FloatKind) (d : Ieee.Datum) (h : d.isNaN = false) : cn k (k.format.write d) = some (k.format.write d) := by simp [cn, write_notNaN k d h]
theorem cn_ofInt (k : FloatKind) (n : Int) : cn k (floatOfInt k n) = some (floatOfInt k n) := cn_write k (.number (n < 0) n.natAbs 0) rfl

theorem cn_some {k : FloatKind} {b c : Nat} (h : cn k b = some c) : b = c ∧ (k.decode b).isNaN = false := by
  unfold cn at h
  split at h
  · simp at h
  · rename_i h2; simp at h; exact ⟨h, by simpa using h2⟩
theorem cn_none {k : FloatKind} {b : Nat} (h : cn k b = none) : ∃ s t, k.decode b = .nan s t := by
  unfold cn at h
  split at h
  · rename_i h2
    cases hd : k.decode b with
    | nan s t => exact ⟨s, t, rfl⟩
    | number => rw [hd] at h2; simp [Ieee.Datum.isNaN] at h2
    | infinity => rw [hd] at h2; simp [Ieee.Datum.isNaN] at h2
  · simp at h

/-- An operation on what 'cn' leaves. -/
def fbin (bop : BinOp) (k : FloatKind) (x y : Option Nat) : Option Nat := x.bind fun a => y.bind fun b => floatBits bop k a b

theorem sum_nan {d e f : Ieee.Datum} (h : d.sum e = some f) : d.isNaN = false ∧ e.isNaN = false ∧ f.isNaN = false := by
  cases d <;> cases e <;> simp [Ieee.Datum.sum, Ieee.Datum.isNaN] at h ⊢ <;> first | (obtain ⟨_, rfl⟩ := h; simp) | (subst h; simp)
theorem product_nan {d e f : Ieee.Datum} (h : d.product e = some f) : d.isNaN = false ∧ e.isNaN = false ∧ f.isNaN = false := by
  cases d <;> cases e <;> simp [Ieee.Datum.product, Ieee.Datum.isNaN] at h ⊢ <;> first | (obtain ⟨_, rfl⟩ := h; simp) | (subst h; simp)
theorem quotient_nan {q : Nat} {d e f : Ieee.Datum} (h : d.quotient q e = some f) : d.isNaN = false ∧ e.isNaN = false ∧ f.isNaN = false := by
  cases d <;> cases e <;> simp [Ieee.Datum.quotient, Ieee.Datum.isNaN] at h ⊢ <;> first | (subst h; simp; done) | skip
  split at h
  · split at h
    · simp at h
    · simp at h; subst h; simp
  · simp at h; subst h; simp

theorem opposite_nan (d : Ieee.Datum) : d.opposite.isNaN = d.isNaN := by cases d <;> rfl

theorem floatBits_nan {bop : BinOp} {k : FloatKind} {a b r : Nat} (h : floatBits bop k a b = some r) : (k.decode a).isNaN = false ∧ (k.decode b).isNaN = false ∧ (k.decode r).isNaN = false := by
  unfold floatBits at h
  split at h
  · unfold Ieee.Format.add at h
    simp at h; obtain ⟨d, hd, rfl⟩ := h
    have := sum_nan hd
    exact ⟨this.1, this.2.1, write_notNaN k d this.2.2⟩
  · unfold Ieee.Format.sub at h
    simp at h; obtain ⟨d, hd, rfl⟩ := h
    have := sum_nan hd
    rw [opposite_nan] at this
    exact ⟨this.1, this.2.1, write_notNaN k d this.2.2⟩
  · unfold Ieee.Format.mul at h
    simp at h; obtain ⟨d, hd, rfl⟩ := h
    have := product_nan hd
    exact ⟨this.1, this.2.1, write_notNaN k d this.2.2⟩
  · unfold Ieee.Format.div at h
    simp at h; obtain ⟨d, hd, rfl⟩ := h
    have := quotient_nan hd
    exact ⟨this.1, this.2.1, write_notNaN k d this.2.2⟩
  · simp at h

theorem nan32 (p q : Nat) (hp : p < 2) (hq : q < 8388607) : (Ieee.single.read (p * 2147483648 + 2139095041 + q)).isNaN = true := by
  have e1 : Ieee.single.signWeight = 2147483648 := by decide
  have e2 : Ieee.single.binade = 8388608 := by decide
  have e3 : Ieee.single.infRung = 2139095040 := by decide
  have hm : (p * 2147483648 + 2139095041 + q) % 2147483648 = 2139095041 + q := by omega
  unfold Ieee.Format.read
  simp only [e1, e2, e3, hm]
  rw [if_neg (by omega), if_neg (by omega), if_neg (by omega)]
  rfl
theorem nan64 (p q : Nat) (hp : p < 2) (hq : q < 4503599627370495) : (Ieee.double.read (p * 9223372036854775808 + 9218868437227405313 + q)).isNaN = true := by
  have e1 : Ieee.double.signWeight = 9223372036854775808 := by decide
  have e2 : Ieee.double.binade = 4503599627370496 := by decide
  have e3 : Ieee.double.infRung = 9218868437227405312 := by decide
  have hm : (p * 9223372036854775808 + 9218868437227405313 + q) % 9223372036854775808 = 9218868437227405313 + q := by omega
  unfold Ieee.Format.read
  simp only [e1, e2, e3, hm]
  rw [if_neg (by omega), if_neg (by omega), if_neg (by omega)]
  rfl

theorem nanCut32 (t : Nat) : (Ieee.single.read ((t % 2) * 2147483648 + 2139095040 + 1 + (t / 2) % 8388607)).isNaN = true := by
  have := nan32 (t % 2) ((t / 2) % 8388607) (by omega) (Nat.mod_lt _ (by omega))
  rwa [show (t % 2) * 2147483648 + 2139095040 + 1 + (t / 2) % 8388607 = (t % 2) * 2147483648 + 2139095041 + (t / 2) % 8388607 by omega]
theorem nanCut64 (t : Nat) : (Ieee.double.read ((t % 2) * 9223372036854775808 + 9218868437227405312 + 1 + (t / 2) % 4503599627370495)).isNaN = true := by
  have := nan64 (t % 2) ((t / 2) % 4503599627370495) (by omega) (Nat.mod_lt _ (by omega))
  rwa [show (t % 2) * 9223372036854775808 + 9218868437227405312 + 1 + (t / 2) % 4503599627370495 = (t % 2) * 9223372036854775808 + 9218868437227405313 + (t / 2) % 4503599627370495 by omega]

theorem nanBits_cn (k : FloatKind) (a b t : Nat) : cn k ((Question.nanBits k a b).cut t) = none := by
  have h : (k.decode ((Question.nanBits k a b).cut t)).isNaN = true := by
    cases k
    · exact nanCut32 t
    · exact nanCut64 t
  simp [cn, h]

def arith (bop : BinOp) : Bool := match bop with | .add | .sub | .mul | .quo => true | _ => false

/-- + - * / on floats: the result, whatever bits a NaN gets. -/
theorem run_fbin {P : Program} (w : World) (bop : BinOp) (hb : arith bop = true) (t : TypeId) (k : FloatKind) (a b : Nat) :
    ∃ r w', (binOp bop t (.float k a) (.float k b)).run P w = .ok (.float k r) w' ∧ (∃ n, w' = w.drewN n) ∧ cn k r = fbin bop k (cn k a) (cn k b) := by
  cases h : floatBits bop k a b with
  | some r =>
    refine ⟨r, w, run_float_arith w bop t k a b r h, ⟨0, rfl⟩, ?_⟩
    have hn := floatBits_nan h
    simp [cn, fbin, hn.1, hn.2.1, hn.2.2, h]
  | none =>
    have hz : fbin bop k (cn k a) (cn k b) = none := by
      unfold fbin
      cases h1 : cn k a with
      | none => rfl
      | some a' =>
        cases h2 : cn k b with
        | none => rfl
        | some b' =>
          obtain ⟨rfl, _⟩ := cn_some h1
          obtain ⟨rfl, _⟩ := cn_some h2
          exact h
    refine ⟨(Question.nanBits k a b).cut (w.tape w.drawn (.nanBits k a b)), w.drew, ?_, ⟨1, rfl⟩, by rw [hz]; exact nanBits_cn k a b _⟩
    unfold floatBits at h
    cases bop <;> simp [arith] at hb <;> simp only at h <;> simp [binOp, Op.floatArith, h, Question.forced] <;> rfl

/-- + - * / on floats, in a walk. -/
theorem wpl_fbin {P : Program} {w : World} {ops : Array Oper} {rest : List Oper} {o : Oper} {ac : Act} {Q : Exit → Act → World → Prop}
    (hw : Region.wanted o (yielded ops ac.tmps) = true) (bop : BinOp) (t t2 : TypeId) (x y : Operand) (hop : o.op = .binOp bop t x y t2) (hb : arith bop = true) (k : FloatKind) (a b : Nat)
    (hx : ac.eval x = .float k a) (hy : ac.eval y = .float k b)
    (hK : ∀ r w', (∃ n, w' = w.drewN n) → cn k r = fbin bop k (cn k a) (cn k b) → wpList P ops Q rest (ac.put o.dst (.float k r)) w') : wpList P ops Q (o :: rest) ac w := by
  obtain ⟨r, w', hru, hn, hc⟩ := run_fbin (P := P) w bop hb t k a b
  have hge : (eqGuard bop t x y (.float k a) (.float k b)).run P w = .ok () w := by cases bop <;> simp [arith] at hb <;> rfl
  unfold wpList
  rw [if_pos hw]
  left
  unfold Oper.wp execOp
  simp only [hop, Sem.run_bind, Sem.run_pure, Result.andThen_ok, hx, hy, hge, hru]
  exact hK r w' hn hc

/-- The same at a step of a region that draws its order. -/
theorem step_fbin {P : Program} {w : World} {ops : Array Oper} {o : Oper} {ac : Act} {K : Act → World → Prop} {Q : Exit → Act → World → Prop} {E : Prop}
    (hg : o.guard = none) (bop : BinOp) (t t2 : TypeId) (x y : Operand) (hop : o.op = .binOp bop t x y t2) (hb : arith bop = true) (k : FloatKind) (a b : Nat)
    (hx : ac.eval x = .float k a) (hy : ac.eval y = .float k b)
    (hK : ∀ r w', (∃ n, w' = w.drewN n) → cn k r = fbin bop k (cn k a) (cn k b) → K (ac.put o.dst (.float k r)) w') :
    if Region.wanted o (yielded ops ac.tmps) = true then Oper.wp P o ac w K Q else E := by
  obtain ⟨r, w', hru, hn, hc⟩ := run_fbin (P := P) w bop hb t k a b
  have hge : (eqGuard bop t x y (.float k a) (.float k b)).run P w = .ok () w := by cases bop <;> simp [arith] at hb <;> rfl
  have hw : Region.wanted o (yielded ops ac.tmps) = true := by simp [Region.wanted, hg]
  rw [if_pos hw]
  unfold Oper.wp execOp
  simp only [hop, Sem.run_bind, Sem.run_pure, Result.andThen_ok, hx, hy, hge, hru]
  exact hK r w' hn hc

theorem read32_bd (b : Nat) {s : Bool} {m : Nat} {e : Int} (h : FloatKind.f32.decode b = .number s m e) : m < 16777216 ∧ -149 ≤ e ∧ e ≤ 104 := by
  have e1 : Ieee.single.signWeight = 2147483648 := by decide
  have e2 : Ieee.single.binade = 8388608 := by decide
  have e3 : Ieee.single.infRung = 2139095040 := by decide
  have e4 : Ieee.single.leastPlace = -149 := by decide
  have h' : Ieee.single.read b = .number s m e := h
  unfold Ieee.Format.read at h'
  simp only [e1, e2, e3, e4] at h'
  split at h'
  · simp only [Ieee.Datum.number.injEq] at h'
    omega
  · split at h'
    · simp only [Ieee.Datum.number.injEq] at h'
      omega
    · split at h' <;> simp at h'

theorem shl_lt {m : Nat} (hm : m ≠ 0) (q : Nat) (hq : m.log2 ≤ q) : m <<< (q - m.log2) < 2 ^ (q + 1) := by
  rw [Nat.shiftLeft_eq]
  have h1 : m < 2 ^ (m.log2 + 1) := Nat.lt_log2_self
  calc m * 2 ^ (q - m.log2) < 2 ^ (m.log2 + 1) * 2 ^ (q - m.log2) := Nat.mul_lt_mul_of_pos_right h1 (Nat.two_pow_pos _)
    _ = 2 ^ (q + 1) := by rw [← Nat.pow_add]; congr 1; omega

theorem cut_zero (neg : Bool) (n : Nat) : Ieee.Toward.even.cut neg n 0 = n := by
  unfold Ieee.Toward.cut
  simp [Nat.mod_one]

theorem word64_notInf (neg : Bool) (r : Nat) (h : r < 9218868437227405312) : (Ieee.double.read (Ieee.double.word neg r)).isInfinity = false := by
  have e1 : Ieee.double.signWeight = 9223372036854775808 := by decide
  have e2 : Ieee.double.binade = 4503599627370496 := by decide
  have e3 : Ieee.double.infRung = 9218868437227405312 := by decide
  unfold Ieee.Format.read Ieee.Format.word
  simp only [e1, e2, e3]
  have hm : (if neg = true then 9223372036854775808 + r else r) % 9223372036854775808 = r := by split <;> omega
  rw [hm]
  by_cases h1 : r < 4503599627370496
  · rw [if_pos h1]; rfl
  · rw [if_neg h1, if_pos h]; rfl

theorem log2_lt24 {m : Nat} (h0 : m ≠ 0) (h : m < 16777216) : m.log2 ≤ 23 := by
  have : m.log2 < 24 := (Nat.log2_lt h0).2 (by simpa using h)
  omega

/-- A float32 that is a number fits a float64. -/
theorem widen_fits (b : Nat) {s : Bool} {m : Nat} {e : Int} (h : FloatKind.f32.decode b = .number s m e) : (FloatKind.f64.decode (FloatKind.f64.encode (.number s m e))).isInfinity = false := by
  obtain ⟨hm, he1, he2⟩ := read32_bd b h
  show (Ieee.double.read (Ieee.double.nearest s m e)).isInfinity = false
  unfold Ieee.Format.nearest
  split
  · exact word64_notInf s 0 (by omega)
  · rename_i h0
    have hl := log2_lt24 h0 hm
    have e4 : Ieee.double.leastPlace = -1074 := by decide
    have e5 : Ieee.double.fractionBits = 52 := rfl
    have e2 : Ieee.double.binade = 4503599627370496 := by decide
    simp only [e4, e5, e2]
    have hlast : max (e + (m.log2 : Int) - ((52 : Nat) : Int)) (-1074) = e + m.log2 - 52 := by omega
    rw [hlast]
    have h1 : (e - (e + (m.log2 : Int) - 52)).toNat = 52 - m.log2 := by omega
    have h2 : ((e + (m.log2 : Int) - 52) - e).toNat = 0 := by omega
    rw [h1, h2, cut_zero]
    have h3 : m <<< (52 - m.log2) < 9007199254740992 := shl_lt h0 52 (by omega)
    generalize m <<< (52 - m.log2) = kk at h3
    have h4 : ((e + (m.log2 : Int) - 52) - -1074).toNat ≤ 1149 := by omega
    generalize ((e + (m.log2 : Int) - 52) - -1074).toNat = qq at h4
    refine word64_notInf s _ ?_
    exact Nat.lt_of_le_of_lt (Nat.min_le_left _ _) (by omega)

/-- A float32 as a float64. -/
def widen (o : Option Nat) : Option Nat := o.map fun b => FloatKind.f64.encode (FloatKind.f32.decode b)

theorem nanConv_cn (b t : Nat) : cn .f64 ((Question.nanConv .f64 b).cut t) = none := by
  have h : (FloatKind.f64.decode ((Question.nanConv .f64 b).cut t)).isNaN = true := nanCut64 t
  simp [cn, h]

theorem run_widen {P : Program} (w : World) (src dst : TypeId) (hs : (P.underlying src).isSome = true) (hd : P.underlying dst = some (.float .f64)) (b : Nat) :
    ∃ r w', (convert src dst (.float .f32 b)).run P w = .ok (.float .f64 r) w' ∧ (∃ n, w' = w.drewN n) ∧ cn .f64 r = widen (cn .f32 b) := by
  obtain ⟨u, hs'⟩ := Option.isSome_iff_exists.1 hs
  cases hc : cn .f32 b with
  | none =>
    obtain ⟨s, t, hdec⟩ := cn_none hc
    refine ⟨(Question.nanConv .f64 b).cut (w.tape w.drawn (.nanConv .f64 b)), w.drew, ?_, ⟨1, rfl⟩, nanConv_cn b _⟩
    cases u <;> simp [convert, run_underlying hs', run_underlying hd, Conv.floatToFloat, hdec, Question.forced] <;> rfl
  | some b' =>
    obtain ⟨rfl, hn⟩ := cn_some hc
    have hk : FloatKind.f32 ≠ FloatKind.f64 := by decide
    cases hdec : FloatKind.f32.decode b with
    | nan s t => rw [hdec] at hn; simp [Ieee.Datum.isNaN] at hn
    | infinity s =>
      refine ⟨FloatKind.f64.encode (.infinity s), w, ?_, ⟨0, rfl⟩, ?_⟩
      · cases u <;> simp [convert, run_underlying hs', run_underlying hd, Conv.floatToFloat, hdec]
      · simp [widen, hdec]; exact cn_write .f64 (.infinity s) rfl
    | number s m e =>
      have hf := widen_fits b hdec
      refine ⟨FloatKind.f64.encode (.number s m e), w, ?_, ⟨0, rfl⟩, ?_⟩
      · cases u <;> simp [convert, run_underlying hs', run_underlying hd, Conv.floatToFloat, hdec, hf]
      · simp [widen, hdec]; exact cn_write .f64 (.number s m e) rfl

theorem wpl_widen {P : Program} {w : World} {ops : Array Oper} {rest : List Oper} {o : Oper} {ac : Act} {Q : Exit → Act → World → Prop}
    (hw : Region.wanted o (yielded ops ac.tmps) = true) (src dst : TypeId) (x : Operand) (hop : o.op = .convert src dst x) (hs : (P.underlying src).isSome = true) (hd : P.underlying dst = some (.float .f64)) (b : Nat)
    (hx : ac.eval x = .float .f32 b)
    (hK : ∀ r w', (∃ n, w' = w.drewN n) → cn .f64 r = widen (cn .f32 b) → wpList P ops Q rest (ac.put o.dst (.float .f64 r)) w') : wpList P ops Q (o :: rest) ac w := by
  obtain ⟨r, w', hru, hn, hc⟩ := run_widen (P := P) w src dst hs hd b
  unfold wpList
  rw [if_pos hw]
  left
  unfold Oper.wp execOp
  simp only [hop, Sem.run_bind, Sem.run_pure, Result.andThen_ok, hx, hru]
  exact hK r w' hn hc

theorem upon_fbin {P : Program} {w : World} {o : Oper} {ac : Act} {K : Act → World → Prop} {Q : Exit → Act → World → Prop} {bop : BinOp} {t : TypeId} {k : FloatKind} (hb : arith bop = true) (a b : Nat)
    (hK : ∀ r w', (∃ n, w' = w.drewN n) → cn k r = fbin bop k (cn k a) (cn k b) → K (ac.put o.dst (.float k r)) w') :
    Oper.upon P o ac K Q (((binOp bop t (.float k a) (.float k b)).run P w).andThen fun a w' => .ok (Next.value a) w') := by
  obtain ⟨r, w', hru, hn, hc⟩ := run_fbin (P := P) w bop hb t k a b
  rw [hru]
  exact hK r w' hn hc

/-- A float and a bool: what 'cn' leaves of the float. -/
def RetFB (w : World) (o : Option Nat) (b : Bool) (en : Ending) (w' : World) : Prop :=
  ∃ r, en = .returned (.tuple #[.float .f32 r, .bool b]) ∧ cn .f32 r = o ∧ Below w.heap.size w w'
/-- A float. -/
def RetF (w : World) (o : Option Nat) (en : Ending) (w' : World) : Prop :=
  ∃ r, en = .returned (.float .f32 r) ∧ cn .f32 r = o ∧ Below w.heap.size w w'
theorem cn_zero : cn .f32 0 = some 0 := by kernel_rfl

theorem upon_widen {P : Program} {w : World} {o : Oper} {ac : Act} {K : Act → World → Prop} {Q : Exit → Act → World → Prop} {src dst : TypeId} (hs : (P.underlying src).isSome = true) (hd : P.underlying dst = some (.float .f64)) (b : Nat)
    (hK : ∀ r w', (∃ n, w' = w.drewN n) → cn .f64 r = widen (cn .f32 b) → K (ac.put o.dst (.float .f64 r)) w') :
    Oper.upon P o ac K Q (((convert src dst (.float .f32 b)).run P w).andThen fun a w' => .ok (Next.value a) w') := by
  obtain ⟨r, w', hru, hn, hc⟩ := run_widen (P := P) w src dst hs hd b
  rw [hru]
  exact hK r w' hn hc

theorem step_widen {P : Program} {w : World} {ops : Array Oper} {o : Oper} {ac : Act} {K : Act → World → Prop} {Q : Exit → Act → World → Prop} {E : Prop}
    (hg : o.guard = none) (src dst : TypeId) (x : Operand) (hop : o.op = .convert src dst x) (hs : (P.underlying src).isSome = true) (hd : P.underlying dst = some (.float .f64)) (b : Nat)
    (hx : ac.eval x = .float .f32 b)
    (hK : ∀ r w', (∃ n, w' = w.drewN n) → cn .f64 r = widen (cn .f32 b) → K (ac.put o.dst (.float .f64 r)) w') :
    if Region.wanted o (yielded ops ac.tmps) = true then Oper.wp P o ac w K Q else E := by
  obtain ⟨r, w', hru, hn, hc⟩ := run_widen (P := P) w src dst hs hd b
  have hw : Region.wanted o (yielded ops ac.tmps) = true := by simp [Region.wanted, hg]
  rw [if_pos hw]
  unfold Oper.wp execOp
  simp only [hop, Sem.run_bind, Sem.run_pure, Result.andThen_ok, hx, hru]
  exact hK r w' hn hc

end Go.Proofs.YtmmpemfhbnkomaaDoor

namespace Go.Proofs.YtmmpemfhbnkomaaDoor
open Go.RowKit

theorem info_f : (Tryd.prog.info? 180).map (fun i => (i.zero, i.size, i.bytes)) = some (some (.float .f32 0), 1, 4) := by kernel_rfl

end Go.Proofs.YtmmpemfhbnkomaaDoor

namespace Go.Proofs.YtmmpemfhbnkomaaDoor
open Go.RowKit

end Go.Proofs.YtmmpemfhbnkomaaDoor

namespace Go.Proofs.YtmmpemfhbnkomaaDoor
open Go.RowKit

/-- Is it a number (no NaN, no infinity)? -/
def fin (k : FloatKind) (o : Option Nat) : Bool := match o with
  | none => false
  | some b => !(k.decode b).isInfinity

/-- How two floats stand to one another, by what 'cn' leaves. -/
def ford (k : FloatKind) (x y : Option Nat) : Option Ordering := x.bind fun a => y.bind fun b => k.format.order a b

theorem order_cn (k : FloatKind) (a b : Nat) : k.format.order a b = ford k (cn k a) (cn k b) := by
  unfold ford
  cases h1 : cn k a with
  | none =>
    obtain ⟨s, t, hd⟩ := cn_none h1
    show (k.decode a).order (k.decode b) = none
    rw [hd]; cases k.decode b <;> rfl
  | some a' =>
    obtain ⟨rfl, _⟩ := cn_some h1
    cases h2 : cn k b with
    | none =>
      obtain ⟨s, t, hd⟩ := cn_none h2
      show (k.decode a).order (k.decode b) = none
      rw [hd]; cases k.decode a <;> rfl
    | some b' =>
      obtain ⟨rfl, _⟩ := cn_some h2
      rfl

theorem signed_neg (s : Bool) (m u : Nat) : Ieee.signed (!s) m u = - Ieee.signed s m u := by
  cases s <;> simp [Ieee.signed]

theorem decode_zero (k : FloatKind) : ∃ p, k.decode 0 = .number false 0 p := by
  cases k
  · exact ⟨_, rfl⟩
  · exact ⟨_, rfl⟩

theorem nearest_zero (k : FloatKind) (p : Int) : k.format.nearest false 0 p = 0 := by
  unfold Ieee.Format.nearest Ieee.Format.word
  simp

/-- x - x == 0 just where x is finite. -/
theorem sub_self_zero (k : FloatKind) (x r : Nat) (h : cn k r = fbin .sub k (cn k x) (cn k x)) : (k.format.order r 0 == some Ordering.eq) = fin k (cn k x) := by
  cases hx : cn k x with
  | none =>
    rw [hx] at h
    have : k.format.order r 0 = none := by rw [order_cn, h]; rfl
    rw [this]; rfl
  | some b =>
    obtain ⟨rfl, hn⟩ := cn_some hx
    rw [hx] at h
    have hs : fbin .sub k (some x) (some x) = k.format.sub x x := rfl
    rw [hs] at h
    unfold Ieee.Format.sub at h
    have hd' : k.format.read x = k.decode x := rfl
    rw [hd'] at h
    cases hd : k.decode x with
    | nan s t => rw [hd] at hn; simp [Ieee.Datum.isNaN] at hn
    | infinity s =>
      rw [hd] at h
      have : (Ieee.Datum.infinity s).sum (Ieee.Datum.infinity s).opposite = none := by cases s <;> rfl
      rw [this] at h
      have : k.format.order r 0 = none := by rw [order_cn, h]; rfl
      rw [this]; simp [fin, hd, Ieee.Datum.isInfinity]
    | number s m e =>
      rw [hd] at h
      have : (Ieee.Datum.number s m e).sum (Ieee.Datum.number s m e).opposite = some (.number false 0 e) := by
        simp only [Ieee.Datum.opposite, Ieee.Datum.sum, signed_neg]
        have h0 : ∀ u, Ieee.signed s m u + -Ieee.signed s m u = 0 := fun u => by omega
        simp [h0]
      rw [this] at h
      simp only [Option.map_some, Ieee.Format.write, nearest_zero] at h
      obtain ⟨rfl, _⟩ := cn_some h
      obtain ⟨p, hp⟩ := decode_zero k
      have : k.format.order 0 0 = some .eq := by
        show (k.decode 0).order (k.decode 0) = _
        rw [hp]; simp [Ieee.Datum.order]
      rw [this]; simp [fin, hd, Ieee.Datum.isInfinity]

def fins (xs : List Nat) : Bool := xs.all fun x => fin .f32 (cn .f32 x)

def isVec (xs : List Nat) : Bool := decide (1 ≤ xs.length) && decide (xs.length ≤ 32) && fins xs


end Go.Proofs.YtmmpemfhbnkomaaDoor

namespace Go.Proofs.YtmmpemfhbnkomaaDoor
open Go.RowKit

theorem compare_self (n : Int) : compare n n = .eq := by simp
theorem order_self {k : FloatKind} {a : Nat} (h : (k.decode a).isNaN = false) : k.format.order a a = some .eq := by
  show (k.decode a).order (k.decode a) = _
  cases hd : k.decode a with
  | nan s t => rw [hd] at h; simp [Ieee.Datum.isNaN] at h
  | infinity s => simp [Ieee.Datum.order]
  | number s m e => simp [Ieee.Datum.order]
theorem order_nan {k : FloatKind} {a b : Nat} (h : cn k a = none) : k.format.order a b = none := by rw [order_cn, h]; rfl

/-- Two lists of floats, the same but for the bits of their NaNs. -/
def sameF (xs ys : List Nat) : Prop := xs.map (cn .f32) = ys.map (cn .f32)


end Go.Proofs.YtmmpemfhbnkomaaDoor

namespace Go.Proofs.YtmmpemfhbnkomaaDoor
open Go.RowKit

theorem und_f32 : (Tryd.prog.underlying 180).isSome = true := by kernel_rfl
end Go.Proofs.YtmmpemfhbnkomaaDoor

namespace Go.Proofs.YtmmpemfhbnkomaaDoor
open Go.RowKit

/-- The sum of products, from left to right, each rounded. -/
def dotC (xs ys : List Nat) : Option Nat := (List.zip xs ys).foldl (fun s p => fbin .add .f32 s (fbin .mul .f32 (cn .f32 p.1) (cn .f32 p.2))) (some 0)
theorem dotC_snoc (xs ys : List Nat) (k : Nat) (h1 : k < xs.length) (h2 : k < ys.length) :
    dotC (xs.take (k + 1)) (ys.take (k + 1)) = fbin .add .f32 (dotC (xs.take k) (ys.take k)) (fbin .mul .f32 (cn .f32 xs[k]) (cn .f32 ys[k])) := by
  unfold dotC
  rw [List.take_add_one, List.take_add_one, List.getElem?_eq_getElem h1, List.getElem?_eq_getElem h2]
  simp only [Option.toList_some]
  rw [List.zip_append (by simp; omega), List.foldl_append]
  rfl

/-- A number, if it is finite. -/
def ifFin (o : Option Nat) : Option Nat := if fin .f32 o then o else some 0

def dotOk (xs ys : List Nat) : Bool := isVec xs && isVec ys && decide (xs.length = ys.length)
def dotR (xs ys : List Nat) : Option Nat := if dotOk xs ys then ifFin (dotC xs ys) else some 0
def dotB (xs ys : List Nat) : Bool := dotOk xs ys && fin .f32 (dotC xs ys)

end Go.Proofs.YtmmpemfhbnkomaaDoor

namespace Go.Proofs.YtmmpemfhbnkomaaDoor
open Go.RowKit

theorem und_bs : Tryd.prog.underlying 28 = some (.slice (Tryd.prog.elem 28)) := by kernel_rfl
theorem siz_bs (w : World) : (sizeOf (Tryd.prog.elem 28)).run Tryd.prog w = .ok 1 w := by kernel_rfl
theorem und_bse : Tryd.prog.underlying 28 = some (.slice 4) := by kernel_rfl
theorem info_b : (Tryd.prog.info? 4).map (fun i => (i.zero, i.size, i.bytes)) = some (some (.bool false), 1, 1) := by kernel_rfl

end Go.Proofs.YtmmpemfhbnkomaaDoor
