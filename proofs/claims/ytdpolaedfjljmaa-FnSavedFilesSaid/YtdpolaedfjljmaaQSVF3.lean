/- The walks of the laws' small helpers on slices of bool. Floats, whatever the bits of a NaN are: 'cn' forgets them; each operation is a function of what 'cn' leaves. The walks of the laws' small helpers on slices of float32. slices.IndexFunc and slices.ContainsFunc at []float32, for whatever closure. IsFinite, finite lists, vectors. sameFloat, and eq.. on lists of float32. eq.. on lists of float32. The sum of the products of two vectors, in both texts; a number if it is finite. mark.., held.. on lists of float32. Narrowing a float64 to a float32 where it fits; the square root. RootNumber: the square root of a float32, narrowed. eq.. on bools. Are two slices equal: SlB. The walks of the laws' small helpers on slices of string. -/
import Derived.Test.YtdpolaedfjljmaaRows
import Derived.Test.YtdpolaedfjljmaaQSVF2
namespace Go.Proofs.Ytdpolaedfjljmaa
open Go.RowKit

theorem und_bs : Try.prog.underlying 60 = some (.slice (Try.prog.elem 60)) := by kernel_rfl
theorem siz_bs (w : World) : (sizeOf (Try.prog.elem 60)).run Try.prog w = .ok 1 w := by kernel_rfl
theorem und_bse : Try.prog.underlying 60 = some (.slice 4) := by kernel_rfl
theorem info_b : (Try.prog.info? 4).map (fun i => (i.zero, i.size, i.bytes)) = some (some (.bool false), 1, 1) := by kernel_rfl

end Go.Proofs.Ytdpolaedfjljmaa

namespace Go.Proofs.Ytdpolaedfjljmaa
open Go.RowKit

/-- The bits of a float that is a number or an infinity; nothing of a NaN. -/
def cn (k : FloatKind) (b : Nat) : Option Nat := if (k.decode b).isNaN then none else some b

theorem read_word32 (neg : Bool) (r : Nat) (h : r ≤ 2139095040) : (Ieee.single.read (Ieee.single.word neg r)).isNaN = false := by
  have e1 : Ieee.single.signWeight = 2147483648 := by decide
  have e2 : Ieee.single.binade = 8388608 := by decide
  have e3 : Ieee.single.infRung = 2139095040 := by decide
  unfold Ieee.Format.read Ieee.Format.word
  simp only [e1, e2, e3]
  have hm : (if neg = true then 2147483648 + r else r) % 2147483648 = r := by split <;> omega
  rw [hm]
  split
  · rfl
  · split
    · rfl
    · split
      · rfl
      · omega
theorem read_word64 (neg : Bool) (r : Nat) (h : r ≤ 9218868437227405312) : (Ieee.double.read (Ieee.double.word neg r)).isNaN = false := by
  have e1 : Ieee.double.signWeight = 9223372036854775808 := by decide
  have e2 : Ieee.double.binade = 4503599627370496 := by decide
  have e3 : Ieee.double.infRung = 9218868437227405312 := by decide
  unfold Ieee.Format.read Ieee.Format.word
  simp only [e1, e2, e3]
  have hm : (if neg = true then 9223372036854775808 + r else r) % 9223372036854775808 = r := by split <;> omega
  rw [hm]
  split
  · rfl
  · split
    · rfl
    · split
      · rfl
      · omega

theorem read_word (k : FloatKind) (neg : Bool) (r : Nat) (h : r ≤ k.format.infRung) : (k.decode (k.format.word neg r)).isNaN = false := by
  cases k
  · exact read_word32 neg r (by have e3 : Ieee.single.infRung = 2139095040 := by decide
                                rw [← e3]; exact h)
  · exact read_word64 neg r (by have e3 : Ieee.double.infRung = 9218868437227405312 := by decide
                                rw [← e3]; exact h)

theorem nearest_notNaN (k : FloatKind) (neg : Bool) (m : Nat) (p : Int) : (k.decode (k.format.nearest neg m p)).isNaN = false := by
  unfold Ieee.Format.nearest
  split
  · exact read_word k neg 0 (Nat.zero_le _)
  · exact read_word k neg _ (Nat.min_le_right _ _)

theorem write_notNaN (k : FloatKind) (d : Ieee.Datum) (h : d.isNaN = false) : (k.decode (k.format.write d)).isNaN = false := by
  cases d with
  | number s m e => exact nearest_notNaN k s m e
  | infinity s => exact read_word k s _ (Nat.le_refl _)
  | nan s t => simp [Ieee.Datum.isNaN] at h

theorem cn_write (k : FloatKind) (d : Ieee.Datum) (h : d.isNaN = false) : cn k (k.format.write d) = some (k.format.write d) := by simp [cn, write_notNaN k d h]
theorem cn_ofInt (k : FloatKind) (n : Int) : cn k (floatOfInt k n) = some (floatOfInt k n) := cn_write k (.number (n < 0) n.natAbs 0) rfl

theorem cn_some {k : FloatKind} {b c : Nat} (h : cn k b = some c) : b = c ∧ (k.decode b).isNaN = false := by
  unfold cn at h
  split at h
  · simp at h
  · rename_i h2; simp at h; exact ⟨h, by simpa using h2⟩
theorem cn_none {k : FloatKind} {b : Nat} (h : cn k b = none) : ∃ s t, k.decode b = .nan s t := by
  unfold cn at h
  split at h
  · rename_i h2
    cases hd : k.decode b with
    | nan s t => exact ⟨s, t, rfl⟩
    | number => rw [hd] at h2; simp [Ieee.Datum.isNaN] at h2
    | infinity => rw [hd] at h2; simp [Ieee.Datum.isNaN] at h2
  · simp at h

/-- An operation on what 'cn' leaves. -/
def fbin (bop : BinOp) (k : FloatKind) (x y : Option Nat) : Option Nat := x.bind fun a => y.bind fun b => floatBits bop k a b

theorem sum_nan {d e f : Ieee.Datum} (h : d.sum e = some f) : d.isNaN = false ∧ e.isNaN = false ∧ f.isNaN = false := by
  cases d <;> cases e <;> simp [Ieee.Datum.sum, Ieee.Datum.isNaN] at h ⊢ <;> first | (obtain ⟨_, rfl⟩ := h; simp) | (subst h; simp)
theorem product_nan {d e f : Ieee.Datum} (h : d.product e = some f) : d.isNaN = false ∧ e.isNaN = false ∧ f.isNaN = false := by
  cases d <;> cases e <;> simp [Ieee.Datum.product, Ieee.Datum.isNaN] at h ⊢ <;> first | (obtain ⟨_, rfl⟩ := h; simp) | (subst h; simp)
theorem quotient_nan {q : Nat} {d e f : Ieee.Datum} (h : d.quotient q e = some f) : d.isNaN = false ∧ e.isNaN = false ∧ f.isNaN = false := by
  cases d <;> cases e <;> simp [Ieee.Datum.quotient, Ieee.Datum.isNaN] at h ⊢ <;> first | (subst h; simp; done) | skip
  split at h
  · split at h
    · simp at h
    · simp at h; subst h; simp
  · simp at h; subst h; simp

theorem opposite_nan (d : Ieee.Datum) : d.opposite.isNaN = d.isNaN := by cases d <;> rfl

theorem floatBits_nan {bop : BinOp} {k : FloatKind} {a b r : Nat} (h : floatBits bop k a b = some r) : (k.decode a).isNaN = false ∧ (k.decode b).isNaN = false ∧ (k.decode r).isNaN = false := by
  unfold floatBits at h
  split at h
  · unfold Ieee.Format.add at h
    simp at h; obtain ⟨d, hd, rfl⟩ := h
    have := sum_nan hd
    exact ⟨this.1, this.2.1, write_notNaN k d this.2.2⟩
  · unfold Ieee.Format.sub at h
    simp at h; obtain ⟨d, hd, rfl⟩ := h
    have := sum_nan hd
    rw [opposite_nan] at this
    exact ⟨this.1, this.2.1, write_notNaN k d this.2.2⟩
  · unfold Ieee.Format.mul at h
    simp at h; obtain ⟨d, hd, rfl⟩ := h
    have := product_nan hd
    exact ⟨this.1, this.2.1, write_notNaN k d this.2.2⟩
  · unfold Ieee.Format.div at h
    simp at h; obtain ⟨d, hd, rfl⟩ := h
    have := quotient_nan hd
    exact ⟨this.1, this.2.1, write_notNaN k d this.2.2⟩
  · simp at h

theorem nan32 (p q : Nat) (hp : p < 2) (hq : q < 8388607) : (Ieee.single.read (p * 2147483648 + 2139095041 + q)).isNaN = true := by
  have e1 : Ieee.single.signWeight = 2147483648 := by decide
  have e2 : Ieee.single.binade = 8388608 := by decide
  have e3 : Ieee.single.infRung = 2139095040 := by decide
  have hm : (p * 2147483648 + 2139095041 + q) % 2147483648 = 2139095041 + q := by omega
  unfold Ieee.Format.read
  simp only [e1, e2, e3, hm]
  rw [if_neg (by omega), if_neg (by omega), if_neg (by omega)]
  rfl
theorem nan64 (p q : Nat) (hp : p < 2) (hq : q < 4503599627370495) : (Ieee.double.read (p * 9223372036854775808 + 9218868437227405313 + q)).isNaN = true := by
  have e1 : Ieee.double.signWeight = 9223372036854775808 := by decide
  have e2 : Ieee.double.binade = 4503599627370496 := by decide
  have e3 : Ieee.double.infRung = 9218868437227405312 := by decide
  have hm : (p * 9223372036854775808 + 9218868437227405313 + q) % 9223372036854775808 = 9218868437227405313 + q := by omega
  unfold Ieee.Format.read
  simp only [e1, e2, e3, hm]
  rw [if_neg (by omega), if_neg (by omega), if_neg (by omega)]
  rfl

theorem nanCut32 (t : Nat) : (Ieee.single.read ((t % 2) * 2147483648 + 2139095040 + 1 + (t / 2) % 8388607)).isNaN = true := by
  have := nan32 (t % 2) ((t / 2) % 8388607) (by omega) (Nat.mod_lt _ (by omega))
  rwa [show (t % 2) * 2147483648 + 2139095040 + 1 + (t / 2) % 8388607 = (t % 2) * 2147483648 + 2139095041 + (t / 2) % 8388607 by omega]
theorem nanCut64 (t : Nat) : (Ieee.double.read ((t % 2) * 9223372036854775808 + 9218868437227405312 + 1 + (t / 2) % 4503599627370495)).isNaN = true := by
  have := nan64 (t % 2) ((t / 2) % 4503599627370495) (by omega) (Nat.mod_lt _ (by omega))
  rwa [show (t % 2) * 9223372036854775808 + 9218868437227405312 + 1 + (t / 2) % 4503599627370495 = (t % 2) * 9223372036854775808 + 9218868437227405313 + (t / 2) % 4503599627370495 by omega]

theorem nanBits_cn (k : FloatKind) (a b t : Nat) : cn k ((Question.nanBits k a b).cut t) = none := by
  have h : (k.decode ((Question.nanBits k a b).cut t)).isNaN = true := by
    cases k
    · exact nanCut32 t
    · exact nanCut64 t
  simp [cn, h]

def arith (bop : BinOp) : Bool := match bop with | .add | .sub | .mul | .quo => true | _ => false

/-- + - * / on floats: the result, whatever bits a NaN gets. -/
theorem run_fbin {P : Program} (w : World) (bop : BinOp) (hb : arith bop = true) (t : TypeId) (k : FloatKind) (a b : Nat) :
    ∃ r w', (binOp bop t (.float k a) (.float k b)).run P w = .ok (.float k r) w' ∧ (∃ n, w' = w.drewN n) ∧ cn k r = fbin bop k (cn k a) (cn k b) := by
  cases h : floatBits bop k a b with
  | some r =>
    refine ⟨r, w, run_float_arith w bop t k a b r h, ⟨0, rfl⟩, ?_⟩
    have hn := floatBits_nan h
    simp [cn, fbin, hn.1, hn.2.1, hn.2.2, h]
  | none =>
    have hz : fbin bop k (cn k a) (cn k b) = none := by
      unfold fbin
      cases h1 : cn k a with
      | none => rfl
      | some a' =>
        cases h2 : cn k b with
        | none => rfl
        | some b' =>
          obtain ⟨rfl, _⟩ := cn_some h1
          obtain ⟨rfl, _⟩ := cn_some h2
          exact h
    refine ⟨(Question.nanBits k a b).cut (w.tape w.drawn (.nanBits k a b)), w.drew, ?_, ⟨1, rfl⟩, by rw [hz]; exact nanBits_cn k a b _⟩
    unfold floatBits at h
    cases bop <;> simp [arith] at hb <;> simp only at h <;> simp [binOp, Op.floatArith, h, Question.forced] <;> rfl

/-- + - * / on floats, in a walk. -/
theorem wpl_fbin {P : Program} {w : World} {ops : Array Oper} {rest : List Oper} {o : Oper} {ac : Act} {Q : Exit → Act → World → Prop}
    (hw : Region.wanted o (yielded ops ac.tmps) = true) (bop : BinOp) (t t2 : TypeId) (x y : Operand) (hop : o.op = .binOp bop t x y t2) (hb : arith bop = true) (k : FloatKind) (a b : Nat)
    (hx : ac.eval x = .float k a) (hy : ac.eval y = .float k b)
    (hK : ∀ r w', (∃ n, w' = w.drewN n) → cn k r = fbin bop k (cn k a) (cn k b) → wpList P ops Q rest (ac.put o.dst (.float k r)) w') : wpList P ops Q (o :: rest) ac w := by
  obtain ⟨r, w', hru, hn, hc⟩ := run_fbin (P := P) w bop hb t k a b
  have hge : (eqGuard bop t x y (.float k a) (.float k b)).run P w = .ok () w := by cases bop <;> simp [arith] at hb <;> rfl
  unfold wpList
  rw [if_pos hw]
  left
  unfold Oper.wp execOp
  simp only [hop, Sem.run_bind, Sem.run_pure, Result.andThen_ok, hx, hy, hge, hru]
  exact hK r w' hn hc

/-- The same at a step of a region that draws its order. -/
theorem step_fbin {P : Program} {w : World} {ops : Array Oper} {o : Oper} {ac : Act} {K : Act → World → Prop} {Q : Exit → Act → World → Prop} {E : Prop}
    (hg : o.guard = none) (bop : BinOp) (t t2 : TypeId) (x y : Operand) (hop : o.op = .binOp bop t x y t2) (hb : arith bop = true) (k : FloatKind) (a b : Nat)
    (hx : ac.eval x = .float k a) (hy : ac.eval y = .float k b)
    (hK : ∀ r w', (∃ n, w' = w.drewN n) → cn k r = fbin bop k (cn k a) (cn k b) → K (ac.put o.dst (.float k r)) w') :
    if Region.wanted o (yielded ops ac.tmps) = true then Oper.wp P o ac w K Q else E := by
  obtain ⟨r, w', hru, hn, hc⟩ := run_fbin (P := P) w bop hb t k a b
  have hge : (eqGuard bop t x y (.float k a) (.float k b)).run P w = .ok () w := by cases bop <;> simp [arith] at hb <;> rfl
  have hw : Region.wanted o (yielded ops ac.tmps) = true := by simp [Region.wanted, hg]
  rw [if_pos hw]
  unfold Oper.wp execOp
  simp only [hop, Sem.run_bind, Sem.run_pure, Result.andThen_ok, hx, hy, hge, hru]
  exact hK r w' hn hc

theorem read32_bd (b : Nat) {s : Bool} {m : Nat} {e : Int} (h : FloatKind.f32.decode b = .number s m e) : m < 16777216 ∧ -149 ≤ e ∧ e ≤ 104 := by
  have e1 : Ieee.single.signWeight = 2147483648 := by decide
  have e2 : Ieee.single.binade = 8388608 := by decide
  have e3 : Ieee.single.infRung = 2139095040 := by decide
  have e4 : Ieee.single.leastPlace = -149 := by decide
  have h' : Ieee.single.read b = .number s m e := h
  unfold Ieee.Format.read at h'
  simp only [e1, e2, e3, e4] at h'
  split at h'
  · simp only [Ieee.Datum.number.injEq] at h'
    omega
  · split at h'
    · simp only [Ieee.Datum.number.injEq] at h'
      omega
    · split at h' <;> simp at h'

theorem shl_lt {m : Nat} (hm : m ≠ 0) (q : Nat) (hq : m.log2 ≤ q) : m <<< (q - m.log2) < 2 ^ (q + 1) := by
  rw [Nat.shiftLeft_eq]
  have h1 : m < 2 ^ (m.log2 + 1) := Nat.lt_log2_self
  calc m * 2 ^ (q - m.log2) < 2 ^ (m.log2 + 1) * 2 ^ (q - m.log2) := Nat.mul_lt_mul_of_pos_right h1 (Nat.two_pow_pos _)
    _ = 2 ^ (q + 1) := by rw [← Nat.pow_add]; congr 1; omega

theorem cut_zero (neg : Bool) (n : Nat) : Ieee.Toward.even.cut neg n 0 = n := by
  unfold Ieee.Toward.cut
  simp [Nat.mod_one]

theorem word64_notInf (neg : Bool) (r : Nat) (h : r < 9218868437227405312) : (Ieee.double.read (Ieee.double.word neg r)).isInfinity = false := by
  have e1 : Ieee.double.signWeight = 9223372036854775808 := by decide
  have e2 : Ieee.double.binade = 4503599627370496 := by decide
  have e3 : Ieee.double.infRung = 9218868437227405312 := by decide
  unfold Ieee.Format.read Ieee.Format.word
  simp only [e1, e2, e3]
  have hm : (if neg = true then 9223372036854775808 + r else r) % 9223372036854775808 = r := by split <;> omega
  rw [hm]
  by_cases h1 : r < 4503599627370496
  · rw [if_pos h1]; rfl
  · rw [if_neg h1, if_pos h]; rfl

theorem log2_lt24 {m : Nat} (h0 : m ≠ 0) (h : m < 16777216) : m.log2 ≤ 23 := by
  have : m.log2 < 24 := (Nat.log2_lt h0).2 (by simpa using h)
  omega

/-- A float32 that is a number fits a float64. -/
theorem widen_fits (b : Nat) {s : Bool} {m : Nat} {e : Int} (h : FloatKind.f32.decode b = .number s m e) : (FloatKind.f64.decode (FloatKind.f64.encode (.number s m e))).isInfinity = false := by
  obtain ⟨hm, he1, he2⟩ := read32_bd b h
  show (Ieee.double.read (Ieee.double.nearest s m e)).isInfinity = false
  unfold Ieee.Format.nearest
  split
  · exact word64_notInf s 0 (by omega)
  · rename_i h0
    have hl := log2_lt24 h0 hm
    have e4 : Ieee.double.leastPlace = -1074 := by decide
    have e5 : Ieee.double.fractionBits = 52 := rfl
    have e2 : Ieee.double.binade = 4503599627370496 := by decide
    simp only [e4, e5, e2]
    have hlast : max (e + (m.log2 : Int) - ((52 : Nat) : Int)) (-1074) = e + m.log2 - 52 := by omega
    rw [hlast]
    have h1 : (e - (e + (m.log2 : Int) - 52)).toNat = 52 - m.log2 := by omega
    have h2 : ((e + (m.log2 : Int) - 52) - e).toNat = 0 := by omega
    rw [h1, h2, cut_zero]
    have h3 : m <<< (52 - m.log2) < 9007199254740992 := shl_lt h0 52 (by omega)
    generalize m <<< (52 - m.log2) = kk at h3
    have h4 : ((e + (m.log2 : Int) - 52) - -1074).toNat ≤ 1149 := by omega
    generalize ((e + (m.log2 : Int) - 52) - -1074).toNat = qq at h4
    refine word64_notInf s _ ?_
    exact Nat.lt_of_le_of_lt (Nat.min_le_left _ _) (by omega)

/-- A float32 as a float64. -/
def widen (o : Option Nat) : Option Nat := o.map fun b => FloatKind.f64.encode (FloatKind.f32.decode b)

theorem nanConv_cn (b t : Nat) : cn .f64 ((Question.nanConv .f64 b).cut t) = none := by
  have h : (FloatKind.f64.decode ((Question.nanConv .f64 b).cut t)).isNaN = true := nanCut64 t
  simp [cn, h]

theorem run_widen {P : Program} (w : World) (src dst : TypeId) (hs : (P.underlying src).isSome = true) (hd : P.underlying dst = some (.float .f64)) (b : Nat) :
    ∃ r w', (convert src dst (.float .f32 b)).run P w = .ok (.float .f64 r) w' ∧ (∃ n, w' = w.drewN n) ∧ cn .f64 r = widen (cn .f32 b) := by
  obtain ⟨u, hs'⟩ := Option.isSome_iff_exists.1 hs
  cases hc : cn .f32 b with
  | none =>
    obtain ⟨s, t, hdec⟩ := cn_none hc
    refine ⟨(Question.nanConv .f64 b).cut (w.tape w.drawn (.nanConv .f64 b)), w.drew, ?_, ⟨1, rfl⟩, nanConv_cn b _⟩
    cases u <;> simp [convert, run_underlying hs', run_underlying hd, Conv.floatToFloat, hdec, Question.forced] <;> rfl
  | some b' =>
    obtain ⟨rfl, hn⟩ := cn_some hc
    have hk : FloatKind.f32 ≠ FloatKind.f64 := by decide
    cases hdec : FloatKind.f32.decode b with
    | nan s t => rw [hdec] at hn; simp [Ieee.Datum.isNaN] at hn
    | infinity s =>
      refine ⟨FloatKind.f64.encode (.infinity s), w, ?_, ⟨0, rfl⟩, ?_⟩
      · cases u <;> simp [convert, run_underlying hs', run_underlying hd, Conv.floatToFloat, hdec]
      · simp [widen, hdec]; exact cn_write .f64 (.infinity s) rfl
    | number s m e =>
      have hf := widen_fits b hdec
      refine ⟨FloatKind.f64.encode (.number s m e), w, ?_, ⟨0, rfl⟩, ?_⟩
      · cases u <;> simp [convert, run_underlying hs', run_underlying hd, Conv.floatToFloat, hdec, hf]
      · simp [widen, hdec]; exact cn_write .f64 (.number s m e) rfl

theorem wpl_widen {P : Program} {w : World} {ops : Array Oper} {rest : List Oper} {o : Oper} {ac : Act} {Q : Exit → Act → World → Prop}
    (hw : Region.wanted o (yielded ops ac.tmps) = true) (src dst : TypeId) (x : Operand) (hop : o.op = .convert src dst x) (hs : (P.underlying src).isSome = true) (hd : P.underlying dst = some (.float .f64)) (b : Nat)
    (hx : ac.eval x = .float .f32 b)
    (hK : ∀ r w', (∃ n, w' = w.drewN n) → cn .f64 r = widen (cn .f32 b) → wpList P ops Q rest (ac.put o.dst (.float .f64 r)) w') : wpList P ops Q (o :: rest) ac w := by
  obtain ⟨r, w', hru, hn, hc⟩ := run_widen (P := P) w src dst hs hd b
  unfold wpList
  rw [if_pos hw]
  left
  unfold Oper.wp execOp
  simp only [hop, Sem.run_bind, Sem.run_pure, Result.andThen_ok, hx, hru]
  exact hK r w' hn hc

theorem upon_fbin {P : Program} {w : World} {o : Oper} {ac : Act} {K : Act → World → Prop} {Q : Exit → Act → World → Prop} {bop : BinOp} {t : TypeId} {k : FloatKind} (hb : arith bop = true) (a b : Nat)
    (hK : ∀ r w', (∃ n, w' = w.drewN n) → cn k r = fbin bop k (cn k a) (cn k b) → K (ac.put o.dst (.float k r)) w') :
    Oper.upon P o ac K Q (((binOp bop t (.float k a) (.float k b)).run P w).andThen fun a w' => .ok (Next.value a) w') := by
  obtain ⟨r, w', hru, hn, hc⟩ := run_fbin (P := P) w bop hb t k a b
  rw [hru]
  exact hK r w' hn hc

/-- A float and a bool: what 'cn' leaves of the float. -/
def RetFB (w : World) (o : Option Nat) (b : Bool) (en : Ending) (w' : World) : Prop :=
  ∃ r, en = .returned (.tuple #[.float .f32 r, .bool b]) ∧ cn .f32 r = o ∧ Below w.heap.size w w'
/-- A float. -/
def RetF (w : World) (o : Option Nat) (en : Ending) (w' : World) : Prop :=
  ∃ r, en = .returned (.float .f32 r) ∧ cn .f32 r = o ∧ Below w.heap.size w w'
theorem cn_zero : cn .f32 0 = some 0 := by kernel_rfl

theorem upon_widen {P : Program} {w : World} {o : Oper} {ac : Act} {K : Act → World → Prop} {Q : Exit → Act → World → Prop} {src dst : TypeId} (hs : (P.underlying src).isSome = true) (hd : P.underlying dst = some (.float .f64)) (b : Nat)
    (hK : ∀ r w', (∃ n, w' = w.drewN n) → cn .f64 r = widen (cn .f32 b) → K (ac.put o.dst (.float .f64 r)) w') :
    Oper.upon P o ac K Q (((convert src dst (.float .f32 b)).run P w).andThen fun a w' => .ok (Next.value a) w') := by
  obtain ⟨r, w', hru, hn, hc⟩ := run_widen (P := P) w src dst hs hd b
  rw [hru]
  exact hK r w' hn hc

theorem step_widen {P : Program} {w : World} {ops : Array Oper} {o : Oper} {ac : Act} {K : Act → World → Prop} {Q : Exit → Act → World → Prop} {E : Prop}
    (hg : o.guard = none) (src dst : TypeId) (x : Operand) (hop : o.op = .convert src dst x) (hs : (P.underlying src).isSome = true) (hd : P.underlying dst = some (.float .f64)) (b : Nat)
    (hx : ac.eval x = .float .f32 b)
    (hK : ∀ r w', (∃ n, w' = w.drewN n) → cn .f64 r = widen (cn .f32 b) → K (ac.put o.dst (.float .f64 r)) w') :
    if Region.wanted o (yielded ops ac.tmps) = true then Oper.wp P o ac w K Q else E := by
  obtain ⟨r, w', hru, hn, hc⟩ := run_widen (P := P) w src dst hs hd b
  have hw : Region.wanted o (yielded ops ac.tmps) = true := by simp [Region.wanted, hg]
  rw [if_pos hw]
  unfold Oper.wp execOp
  simp only [hop, Sem.run_bind, Sem.run_pure, Result.andThen_ok, hx, hru]
  exact hK r w' hn hc

end Go.Proofs.Ytdpolaedfjljmaa

namespace Go.Proofs.Ytdpolaedfjljmaa
open Go.RowKit

theorem und_fs : Try.prog.underlying 61 = some (.slice (Try.prog.elem 61)) := by kernel_rfl
theorem siz_fs (w : World) : (sizeOf (Try.prog.elem 61)).run Try.prog w = .ok 1 w := by kernel_rfl
theorem und_fse : Try.prog.underlying 61 = some (.slice 49) := by kernel_rfl
theorem info_f : (Try.prog.info? 49).map (fun i => (i.zero, i.size, i.bytes)) = some (some (.float .f32 0), 1, 4) := by kernel_rfl

set_option maxHeartbeats 400000 in
theorem toF_any {a : Option Addr} {c : Nat} {xs : List Nat} {w : World} (hr : Rd (Value.float .f32) w a c xs) (hn : xs.length ≤ 1048576) :
    Calls Try.prog 40 #[.slice a xs.length c] w (RetS (Value.float .f32) 49 w xs) := by
  have hsf := @run_store_fl Try.prog
  go_enter Try.func40, Try.ntmps40
  go_wp2_with (at_make; refine wpl_make (f := Value.float .f32) (d := 0) und_fse info_f rfl xs.length rfl _ _ rfl rfl rfl (by omega) (by omega) ?_; intro w1 ho0 hb0)
  go_loopw [4] (fun i wr => ∃ k : Nat, k ≤ xs.length ∧ i = .int .i64 k ∧ Own (Value.float .f32) 49 wr w.heap.size (some ⟨w.heap.size, 0, none⟩) xs.length (xs.take k ++ List.replicate (xs.length - k) (0 : Nat)) ∧ Below w.heap.size w wr) (fun i _ => xs.length - (intOf i).toNat)
  case atStart => exact ⟨0, Nat.zero_le _, rfl, by simpa using ho0, hb0⟩
  case round =>
    obtain ⟨k, hk, rfl, ho, hb⟩ := hrel
    clear ho0 hb0
    by_cases hlt : k < xs.length
    · have hr' := hr.below hb (Nat.le_refl _)
      have hix := hr'.idx und_fs siz_fs
      have hcx : wr.cell? (elt a k) = some (Value.float .f32 (xs[k]?.getD 0)) := hr'.cell k hlt
      have hln : (xs.take k ++ List.replicate (xs.length - k) (0 : Nat)).length = xs.length := by simp; omega
      have hio := ho.idx und_fs siz_fs
      rw [hln] at hio
      have hcs := ho.rd.cell k (by omega)
      have hfz := ho.free k (by omega)
      have hst := ho.set k (by omega) (xs[k]?.getD 0)
      have hgt : xs[k]? = some (xs[k]?.getD 0) := by simp [hlt]
      rw [set_fill xs 0 _ k hlt hgt] at hst
      have HG : Hid (wr.grownBy _ _) := hst.2
      have HS : Hid (Own _ _ _ _ _ _ _) := hst.1
      clear hst hgt
      go_wp2
      go_roundw
      case rel => exact ⟨k + 1, by omega, by go_num, by simpa [hlt] using HS.out, hb.grown (by simpa [hlt] using HG.out) hb.size (by simp)⟩
      case measure => simp [intOf]; omega
    · obtain rfl : k = xs.length := by omega
      have HO : Hid (Own _ _ _ _ _ _ _) := ho
      clear ho
      go_wp2
      go_ret
      exact ⟨_, _, rfl, HO.out.cast (by simp), hb⟩


end Go.Proofs.Ytdpolaedfjljmaa

namespace Go.Proofs.Ytdpolaedfjljmaa
open Go.RowKit

set_option maxHeartbeats 400000 in
theorem indexFuncf_any (a : Option Addr) (c : Nat) (xs : List Nat) (w : World) (F : Nat) (caps : Array Value) (p : Nat → Bool) (hF : ∀ (vs : Array Value) (w : World), (callFunc F vs).run Try.prog w = .ok (.enter F vs) w) (hr : Rd (Value.float .f32) w a c xs)
    (hclo : ∀ k (h : k < xs.length) wr, Below w.heap.size w wr → Calls Try.prog F (#[(Value.float .f32) xs[k]] ++ caps) wr fun e w' => e = .returned (.bool (p xs[k])) ∧ Below wr.heap.size wr w') :
    Calls Try.prog 185 #[.slice a xs.length c, .func (.func F) #[] caps] w fun e w' => e = .returned (.int .i64 (idxOf p xs)) ∧ Below w.heap.size w w' := by
  have hln := hr.len
  go_enter Try.func185, Try.ntmps185
  go_wp2
  go_loopw [5, 8] (fun _ i wr => ∃ k : Nat, k ≤ xs.length ∧ i = .int .i64 k ∧ (∀ x ∈ xs.take k, p x = false) ∧ Below w.heap.size w wr) (fun _ i _ => xs.length - (intOf i).toNat)
  case atStart => exact ⟨0, Nat.zero_le _, rfl, by simp, Below.refl _ _⟩
  case round =>
    obtain ⟨k, hk, rfl, hp, hb⟩ := hrel
    have HP : Hid (∀ x ∈ xs.take k, p x = false) := hp
    clear hp
    by_cases hlt : k < xs.length
    · have hr' := hr.below hb (Nat.le_refl _)
      have hix := hr'.idx und_fs siz_fs
      have hcx := hr'.cell k hlt
      have HC : Hid (∀ k (h : k < xs.length) wr, Below w.heap.size w wr → Calls Try.prog F (#[(Value.float .f32) xs[k]] ++ caps) wr fun e w' => e = .returned (.bool (p xs[k])) ∧ Below wr.heap.size wr w') := hclo
      clear hclo
      simp only [List.getElem?_eq_getElem hlt, Option.getD_some] at hcx
      go_wp2_with fail
      refine (HC.out k hlt wr hb).mono ?_
      rintro e w1 ⟨rfl, hb1⟩
      by_cases hpx : p xs[k] = true
      · have HX : Hid (p xs[k] = true) := hpx
        rw [hpx]
        clear hpx
        go_wp2
        go_ret
        refine ⟨ret_int ?_, hb.trans (hb1.mono hb.size)⟩
        rw [idxOf_here HX.out HP.out]
      · have hpx' : p xs[k] = false := by simpa using hpx
        have HX : Hid (p xs[k] = false) := hpx'
        rw [hpx']
        clear hpx hpx'
        go_wp2
        go_roundw
        case rel => exact ⟨k + 1, by omega, by go_num, snoc_none hlt HP.out HX.out, hb.trans (hb1.mono hb.size)⟩
        case measure => simp [intOf]; omega
    · obtain rfl : k = xs.length := by omega
      have HC : Hid (∀ k (h : k < xs.length) wr, Below w.heap.size w wr → Calls Try.prog F (#[(Value.float .f32) xs[k]] ++ caps) wr fun e w' => e = .returned (.bool (p xs[k])) ∧ Below wr.heap.size wr w') := hclo
      clear hclo
      go_wp2
      go_ret
      refine ⟨ret_int ?_, hb⟩
      rw [idxOf_none (by simpa using HP.out)]

set_option maxHeartbeats 400000 in
theorem containsFuncf_any (a : Option Addr) (c : Nat) (xs : List Nat) (w : World) (F : Nat) (caps : Array Value) (p : Nat → Bool) (hF : ∀ (vs : Array Value) (w : World), (callFunc F vs).run Try.prog w = .ok (.enter F vs) w) (hr : Rd (Value.float .f32) w a c xs)
    (hclo : ∀ k (h : k < xs.length) wr, Below w.heap.size w wr → Calls Try.prog F (#[(Value.float .f32) xs[k]] ++ caps) wr fun e w' => e = .returned (.bool (p xs[k])) ∧ Below wr.heap.size wr w') :
    Calls Try.prog 165 #[.slice a xs.length c, .func (.func F) #[] caps] w fun e w' => e = .returned (.bool (xs.any p)) ∧ Below w.heap.size w w' := by
  have HC := Lib.hid (indexFuncf_any a c xs w F caps p hF hr hclo)
  clear hclo
  go_enter Try.func165, Try.ntmps165
  go_wp2_with fail
  refine HC.out.mono ?_
  rintro e w1 ⟨rfl, hb1⟩
  have HB := Lib.hid (idxOf_any p xs)
  go_wp2
  go_ret
  exact ⟨ret_bool (by simpa using HB.out), hb1⟩

end Go.Proofs.Ytdpolaedfjljmaa

namespace Go.Proofs.Ytdpolaedfjljmaa
open Go.RowKit

/-- Is it a number (no NaN, no infinity)? -/
def fin (k : FloatKind) (o : Option Nat) : Bool := match o with
  | none => false
  | some b => !(k.decode b).isInfinity

/-- How two floats stand to one another, by what 'cn' leaves. -/
def ford (k : FloatKind) (x y : Option Nat) : Option Ordering := x.bind fun a => y.bind fun b => k.format.order a b

theorem order_cn (k : FloatKind) (a b : Nat) : k.format.order a b = ford k (cn k a) (cn k b) := by
  unfold ford
  cases h1 : cn k a with
  | none =>
    obtain ⟨s, t, hd⟩ := cn_none h1
    show (k.decode a).order (k.decode b) = none
    rw [hd]; cases k.decode b <;> rfl
  | some a' =>
    obtain ⟨rfl, _⟩ := cn_some h1
    cases h2 : cn k b with
    | none =>
      obtain ⟨s, t, hd⟩ := cn_none h2
      show (k.decode a).order (k.decode b) = none
      rw [hd]; cases k.decode a <;> rfl
    | some b' =>
      obtain ⟨rfl, _⟩ := cn_some h2
      rfl

theorem signed_neg (s : Bool) (m u : Nat) : Ieee.signed (!s) m u = - Ieee.signed s m u := by
  cases s <;> simp [Ieee.signed]

theorem decode_zero (k : FloatKind) : ∃ p, k.decode 0 = .number false 0 p := by
  cases k
  · exact ⟨_, rfl⟩
  · exact ⟨_, rfl⟩

theorem nearest_zero (k : FloatKind) (p : Int) : k.format.nearest false 0 p = 0 := by
  unfold Ieee.Format.nearest Ieee.Format.word
  simp

/-- x - x == 0 just where x is finite. -/
theorem sub_self_zero (k : FloatKind) (x r : Nat) (h : cn k r = fbin .sub k (cn k x) (cn k x)) : (k.format.order r 0 == some Ordering.eq) = fin k (cn k x) := by
  cases hx : cn k x with
  | none =>
    rw [hx] at h
    have : k.format.order r 0 = none := by rw [order_cn, h]; rfl
    rw [this]; rfl
  | some b =>
    obtain ⟨rfl, hn⟩ := cn_some hx
    rw [hx] at h
    have hs : fbin .sub k (some x) (some x) = k.format.sub x x := rfl
    rw [hs] at h
    unfold Ieee.Format.sub at h
    have hd' : k.format.read x = k.decode x := rfl
    rw [hd'] at h
    cases hd : k.decode x with
    | nan s t => rw [hd] at hn; simp [Ieee.Datum.isNaN] at hn
    | infinity s =>
      rw [hd] at h
      have : (Ieee.Datum.infinity s).sum (Ieee.Datum.infinity s).opposite = none := by cases s <;> rfl
      rw [this] at h
      have : k.format.order r 0 = none := by rw [order_cn, h]; rfl
      rw [this]; simp [fin, hd, Ieee.Datum.isInfinity]
    | number s m e =>
      rw [hd] at h
      have : (Ieee.Datum.number s m e).sum (Ieee.Datum.number s m e).opposite = some (.number false 0 e) := by
        simp only [Ieee.Datum.opposite, Ieee.Datum.sum, signed_neg]
        have h0 : ∀ u, Ieee.signed s m u + -Ieee.signed s m u = 0 := fun u => by omega
        simp [h0]
      rw [this] at h
      simp only [Option.map_some, Ieee.Format.write, nearest_zero] at h
      obtain ⟨rfl, _⟩ := cn_some h
      obtain ⟨p, hp⟩ := decode_zero k
      have : k.format.order 0 0 = some .eq := by
        show (k.decode 0).order (k.decode 0) = _
        rw [hp]; simp [Ieee.Datum.order]
      rw [this]; simp [fin, hd, Ieee.Datum.isInfinity]

theorem isFinite_any {x : Nat} {w : World} : Calls Try.prog 92 #[.float .f32 x] w fun e w' => e = .returned (.bool (fin .f32 (cn .f32 x))) ∧ Below w.heap.size w w' := by
  have H := Lib.hid (sub_self_zero .f32 x)
  go_enter Try.func92, Try.ntmps92
  go_wp2_with (refine wpl_fbin rfl _ _ _ _ _ rfl rfl .f32 _ _ rfl rfl ?_; rintro r w' ⟨n, rfl⟩ hr; have HR := Lib.hid hr; clear hr)
  go_ret
  exact ⟨ret_bool (H.out _ HR.out), below_of_drewN _ _ _⟩

theorem l01Finite_any {x : Nat} {w : World} : Calls Try.prog 130 #[.float .f32 x] w fun e w' => e = .returned (.bool (fin .f32 (cn .f32 x))) ∧ Below w.heap.size w w' := by
  have H := Lib.hid (sub_self_zero .f32 x)
  go_enter Try.func130, Try.ntmps130
  go_wp2_with (refine wpl_fbin rfl _ _ _ _ _ rfl rfl .f32 _ _ rfl rfl ?_; rintro r w' ⟨n, rfl⟩ hr; have HR := Lib.hid hr; clear hr)
  go_ret
  exact ⟨ret_bool (H.out _ HR.out), below_of_drewN _ _ _⟩

def fins (xs : List Nat) : Bool := xs.all fun x => fin .f32 (cn .f32 x)

theorem areFinite1_any {x : Nat} {w : World} : Calls Try.prog 166 #[.float .f32 x] w fun e w' => e = .returned (.bool (!fin .f32 (cn .f32 x))) ∧ Below w.heap.size w w' := by
  go_enter Try.func166, Try.ntmps166
  go_wp2_with fail
  refine isFinite_any.mono ?_
  rintro e w1 ⟨rfl, hb⟩
  go_wp2
  go_ret
  exact ⟨rfl, hb⟩

theorem call_areFinite1 (vs : Array Value) (w : World) : (callFunc 166 vs).run Try.prog w = .ok (.enter 166 vs) w := by kernel_rfl

theorem areFinite_any {a : Option Addr} {c : Nat} {xs : List Nat} {w : World} (hr : Rd (Value.float .f32) w a c xs) :
    Calls Try.prog 139 #[.slice a xs.length c] w fun e w' => e = .returned (.bool (fins xs)) ∧ Below w.heap.size w w' := by
  have HC := Lib.hid (containsFuncf_any a c xs w 166 #[] (fun x => !fin .f32 (cn .f32 x)) call_areFinite1 hr (fun k h wr hb => by simpa using areFinite1_any))
  go_enter Try.func139, Try.ntmps139
  go_wp2_with fail
  refine HC.out.mono ?_
  rintro e w1 ⟨rfl, hb1⟩
  go_wp2
  go_ret
  refine ⟨ret_bool ?_, hb1⟩
  rw [Bool.eq_iff_iff]; simp [fins, List.all_eq_true, List.any_eq_true]

set_option maxHeartbeats 400000 in
theorem l02Finite_any {a : Option Addr} {c : Nat} {xs : List Nat} {w : World} (hr : Rd (Value.float .f32) w a c xs) :
    Calls Try.prog 142 #[.slice a xs.length c] w fun e w' => e = .returned (.bool (fins xs)) ∧ Below w.heap.size w w' := by
  have hln := hr.len
  go_enter Try.func142, Try.ntmps142
  go_wp2
  go_loopw [3] (fun i wr => ∃ k : Nat, k ≤ xs.length ∧ i = .int .i64 k ∧ (∀ x ∈ xs.take k, (!fin .f32 (cn .f32 x)) = false) ∧ Below w.heap.size w wr) (fun i _ => xs.length - (intOf i).toNat)
  case atStart => exact ⟨0, Nat.zero_le _, rfl, by simp, Below.refl _ _⟩
  case round =>
    obtain ⟨k, hk, rfl, hp, hb⟩ := hrel
    have HP := Lib.hid hp
    clear hp
    by_cases hlt : k < xs.length
    · have hxr := hr.below hb (Nat.le_refl _)
      have hix := hxr.idx und_fs siz_fs
      have hcx := hxr.cell k hlt
      simp only [List.getElem?_eq_getElem hlt, Option.getD_some] at hcx
      go_wp2_with fail
      refine l01Finite_any.mono ?_
      rintro e w1 ⟨rfl, hb1⟩
      have hb' : Below w.heap.size w w1 := hb.trans (hb1.mono hb.size)
      by_cases hx : fin .f32 (cn .f32 xs[k]) = true
      · have HX := Lib.hid hx
        rw [hx]
        clear hx
        go_wp2
        go_roundw
        case rel => exact ⟨k + 1, by omega, by go_num, snoc_none hlt HP.out (by rw [HX.out]; rfl), hb'⟩
        case measure => simp [intOf]; omega
      · have hx' : fin .f32 (cn .f32 xs[k]) = false := by simpa using hx
        have HX := Lib.hid hx'
        rw [hx']
        clear hx hx'
        go_wp2
        go_ret
        refine ⟨ret_bool ?_, hb'⟩
        symm
        unfold fins
        rw [List.all_eq_false]; exact ⟨_, List.getElem_mem hlt, by rw [HX.out]; simp⟩
    · obtain rfl : k = xs.length := by omega
      go_wp2
      go_ret
      refine ⟨ret_bool ?_, hb⟩
      have := HP.out
      simpa [fins] using this

def isVec (xs : List Nat) : Bool := decide (1 ≤ xs.length) && decide (xs.length ≤ 32) && fins xs

set_option maxHeartbeats 400000 in
theorem isVector_any {a : Option Addr} {c : Nat} {xs : List Nat} {w : World} (hr : Rd (Value.float .f32) w a c xs) :
    Calls Try.prog 95 #[.slice a xs.length c] w fun e w' => e = .returned (.bool (isVec xs)) ∧ Below w.heap.size w w' := by
  have hln := hr.len
  by_cases h1 : 1 ≤ xs.length
  · by_cases h2 : xs.length ≤ 32
    · go_enter Try.func95, Try.ntmps95
      go_wp2_with fail
      refine (areFinite_any hr).mono ?_
      rintro e w1 ⟨rfl, hb1⟩
      go_wp2
      go_ret
      exact ⟨ret_bool (by simp [isVec, h1, h2]), hb1⟩
    · have h3 : decide ((xs.length : Int) ≤ 32) = false := by simp; omega
      go_enter Try.func95, Try.ntmps95
      go_wp2
      go_ret
      exact ⟨ret_bool (by simp [isVec, h2]), Below.refl _ _⟩
  · have h3 : decide ((1 : Int) ≤ (xs.length : Int)) = false := by simp; omega
    go_enter Try.func95, Try.ntmps95
    go_wp2
    go_ret
    exact ⟨ret_bool (by simp [isVec, h1]), Below.refl _ _⟩

set_option maxHeartbeats 400000 in
theorem l07Vector_any {a : Option Addr} {c : Nat} {xs : List Nat} {w : World} (hr : Rd (Value.float .f32) w a c xs) :
    Calls Try.prog 98 #[.slice a xs.length c] w fun e w' => e = .returned (.bool (isVec xs)) ∧ Below w.heap.size w w' := by
  have hln := hr.len
  by_cases h1 : 1 ≤ xs.length
  · by_cases h2 : xs.length ≤ 32
    · go_enter Try.func98, Try.ntmps98
      go_wp2_with fail
      refine (l02Finite_any hr).mono ?_
      rintro e w1 ⟨rfl, hb1⟩
      go_wp2
      go_ret
      exact ⟨ret_bool (by simp [isVec, h1, h2]), hb1⟩
    · have h3 : decide ((xs.length : Int) ≤ 32) = false := by simp; omega
      go_enter Try.func98, Try.ntmps98
      go_wp2
      go_ret
      exact ⟨ret_bool (by simp [isVec, h2]), Below.refl _ _⟩
  · have h3 : decide ((1 : Int) ≤ (xs.length : Int)) = false := by simp; omega
    go_enter Try.func98, Try.ntmps98
    go_wp2
    go_ret
    exact ⟨ret_bool (by simp [isVec, h1]), Below.refl _ _⟩


end Go.Proofs.Ytdpolaedfjljmaa

namespace Go.Proofs.Ytdpolaedfjljmaa
open Go.RowKit

theorem compare_self (n : Int) : compare n n = .eq := by simp
theorem order_self {k : FloatKind} {a : Nat} (h : (k.decode a).isNaN = false) : k.format.order a a = some .eq := by
  show (k.decode a).order (k.decode a) = _
  cases hd : k.decode a with
  | nan s t => rw [hd] at h; simp [Ieee.Datum.isNaN] at h
  | infinity s => simp [Ieee.Datum.order]
  | number s m e => simp [Ieee.Datum.order]
theorem order_nan {k : FloatKind} {a b : Nat} (h : cn k a = none) : k.format.order a b = none := by rw [order_cn, h]; rfl

set_option maxHeartbeats 400000 in
theorem sameFloat_any {a b : Nat} {w : World} (h : cn .f64 a = cn .f64 b) :
    Calls Try.prog 84 #[.float .f64 a, .float .f64 b] w fun e w' => e = .returned (.bool true) ∧ Below w.heap.size w w' := by
  cases hc : cn .f64 a with
  | none =>
    have h1 : FloatKind.f64.format.order a a = none := order_nan hc
    have h2 : FloatKind.f64.format.order b b = none := order_nan (by rw [← h]; exact hc)
    clear h hc
    go_enter Try.func84, Try.ntmps84
    go_wp2
    go_ret
    exact ⟨rfl, Below.refl _ _⟩
  | some c =>
    obtain ⟨rfl, hn⟩ := cn_some hc
    obtain ⟨rfl, _⟩ := cn_some (by rw [← h]; exact hc)
    have h1 := order_self (k := .f64) hn
    clear h hc hn
    by_cases hz : FloatKind.f64.format.order b 0 = some .eq
    · go_enter Try.func84, Try.ntmps84
      go_wp2_with (refine wpl_fbin rfl _ _ _ _ _ rfl rfl .f64 _ _ rfl rfl ?_; rintro r w' ⟨n, rfl⟩ hr; have HR := Lib.hid hr; clear hr)
      rename_i r1 n1 HR1
      have he : FloatKind.f64.format.order r1 0 = FloatKind.f64.format.order r 0 := by rw [order_cn, order_cn, HR.out, HR1.out]
      go_ret
      exact ⟨ret_bool (by simp [he]), below_of_drewN _ _ _⟩
    · have hz' : (FloatKind.f64.format.order b 0 == some .eq) = false := by simpa using hz
      clear hz
      go_enter Try.func84, Try.ntmps84
      go_wp2
      go_ret
      exact ⟨rfl, Below.refl _ _⟩

/-- Two lists of floats, the same but for the bits of their NaNs. -/
def sameF (xs ys : List Nat) : Prop := xs.map (cn .f32) = ys.map (cn .f32)

theorem sameF_get {xs ys : List Nat} (h : sameF xs ys) (k : Nat) (h1 : k < xs.length) (h2 : k < ys.length) : widen (cn .f32 xs[k]) = widen (cn .f32 ys[k]) := by
  have : (xs.map (cn .f32))[k]? = (ys.map (cn .f32))[k]? := by rw [h]
  simp [h1, h2] at this
  rw [this]

end Go.Proofs.Ytdpolaedfjljmaa

namespace Go.Proofs.Ytdpolaedfjljmaa
open Go.RowKit

theorem und_f32 : (Try.prog.underlying 49).isSome = true := by kernel_rfl
theorem und_f64 : Try.prog.underlying 117 = some (.float .f64) := by kernel_rfl

set_option maxRecDepth 4000 in
set_option maxHeartbeats 800000 in
theorem eqF_any {a1 a2 : Option Addr} {c1 c2 : Nat} {xs ys : List Nat} {w : World} (hx : Rd (Value.float .f32) w a1 c1 xs) (hy : Rd (Value.float .f32) w a2 c2 ys) (h : sameF xs ys) :
    Calls Try.prog 43 #[.slice a1 xs.length c1, .slice a2 ys.length c2] w fun e w' => e = .returned (.bool true) ∧ Below w.heap.size w w' := by
  have hlx := hx.len
  have hly := hy.len
  have hl : xs.length = ys.length := by have := congrArg List.length h; simpa using this
  have hd : ((xs.length : Int) != (ys.length : Int)) = false := by simp [hl]
  have HL := Lib.hid hl
  have HS := Lib.hid h
  clear hl h
  go_enter Try.func43, Try.ntmps43
  go_wp2
  go_loopw [5] (fun i wr => ∃ k : Nat, k ≤ xs.length ∧ i = .int .i64 k ∧ Below w.heap.size w wr) (fun i _ => xs.length - (intOf i).toNat)
  case atStart => exact ⟨0, Nat.zero_le _, rfl, Below.refl _ _⟩
  case round =>
    obtain ⟨k, hk, rfl, hb⟩ := hrel
    clear hd
    by_cases hlt : k < xs.length
    · have hlt2 : k < ys.length := by rw [← HL.out]; exact hlt
      have hxr := hx.below hb (Nat.le_refl _)
      have hyr := hy.below hb (Nat.le_refl _)
      have hcx := hxr.cell k hlt
      have hcy := hyr.cell k hlt2
      have hix := hxr.idx und_fs siz_fs
      have hiy := hyr.idx und_fs siz_fs
      have hg := sameF_get HS.out k hlt hlt2
      simp only [List.getElem?_eq_getElem hlt, List.getElem?_eq_getElem hlt2, Option.getD_some] at hcx hcy
      go_wp2_with fail
      go_region_with (first
          | (go_at_call 84; refine (sameFloat_any (by simp only [*])).mono ?_; rintro e w1 ⟨rfl, hb1⟩)
          | (refine upon_widen und_f32 und_f64 _ ?_; rintro r w' ⟨n, rfl⟩ hr))
      all_goals
        go_wp2
        go_roundw
        case rel => exact ⟨k + 1, by omega, by go_num, hb.trans (Below.trans (below_of_drewN _ _ _) (hb1.mono (by simpa using hb.size)))⟩
        case measure => simp [intOf]; omega
    · go_wp2
      go_ret
      exact ⟨rfl, hb⟩

end Go.Proofs.Ytdpolaedfjljmaa

namespace Go.Proofs.Ytdpolaedfjljmaa
open Go.RowKit

/-- The sum of products, from left to right, each rounded. -/
def dotC (xs ys : List Nat) : Option Nat := (List.zip xs ys).foldl (fun s p => fbin .add .f32 s (fbin .mul .f32 (cn .f32 p.1) (cn .f32 p.2))) (some 0)
theorem dotC_snoc (xs ys : List Nat) (k : Nat) (h1 : k < xs.length) (h2 : k < ys.length) :
    dotC (xs.take (k + 1)) (ys.take (k + 1)) = fbin .add .f32 (dotC (xs.take k) (ys.take k)) (fbin .mul .f32 (cn .f32 xs[k]) (cn .f32 ys[k])) := by
  unfold dotC
  rw [List.take_add_one, List.take_add_one, List.getElem?_eq_getElem h1, List.getElem?_eq_getElem h2]
  simp only [Option.toList_some]
  rw [List.zip_append (by simp; omega), List.foldl_append]
  rfl

set_option maxHeartbeats 800000 in
theorem implDot_any {a1 a2 : Option Addr} {c1 c2 : Nat} {xs ys : List Nat} {w : World} (hx : Rd (Value.float .f32) w a1 c1 xs) (hy : Rd (Value.float .f32) w a2 c2 ys) (hl : xs.length = ys.length) :
    Calls Try.prog 141 #[.slice a1 xs.length c1, .slice a2 ys.length c2] w (RetF w (dotC xs ys)) := by
  have hlx := hx.len
  have HL := Lib.hid hl
  clear hl
  go_enter Try.func141, Try.ntmps141
  go_wp2
  go_loopw [5, 6, 7, 10] (fun s _ _ i wr => ∃ (k r : Nat), k ≤ xs.length ∧ i = .int .i64 k ∧ s = .float .f32 r ∧ Hid (cn .f32 r = dotC (xs.take k) (ys.take k)) ∧ Below w.heap.size w wr) (fun _ _ _ i _ => xs.length - (intOf i).toNat)
  case atStart => exact ⟨0, 0, Nat.zero_le _, rfl, rfl, cn_zero, Below.refl _ _⟩
  case round =>
    obtain ⟨k, r, hk, rfl, rfl, HR, hb⟩ := hrel
    by_cases hlt : k < xs.length
    · have hlt2 : k < ys.length := by rw [← HL.out]; exact hlt
      have hxr := hx.below hb (Nat.le_refl _)
      have hyr := hy.below hb (Nat.le_refl _)
      have hcx := hxr.cell k hlt
      have hcy := hyr.cell k hlt2
      have hix := hxr.idx und_fs siz_fs
      have hiy := hyr.idx und_fs siz_fs
      have HS := Lib.hid (dotC_snoc xs ys k hlt hlt2)
      simp only [List.getElem?_eq_getElem hlt, List.getElem?_eq_getElem hlt2, Option.getD_some] at hcx hcy
      go_wp2_with (refine wpl_fbin rfl _ _ _ _ _ rfl rfl .f32 _ _ rfl rfl ?_; rintro q w' ⟨n, rfl⟩ hq)
      rename_i q1 n1 hq1
      go_roundw
      case rel => exact ⟨k + 1, q, by omega, by go_num, rfl, by show _ = _; rw [HS.out, hq, hq1, HR.out], hb.trans (below_of_drewN _ _ _)⟩
      case measure => simp [intOf]; omega
    · obtain rfl : k = xs.length := by omega
      go_wp2
      go_ret
      refine ⟨r, rfl, ?_, hb⟩
      have := HR.out
      rwa [List.take_length, HL.out, List.take_length] at this

set_option maxHeartbeats 800000 in
theorem specDot_any {a1 a2 : Option Addr} {c1 c2 : Nat} {xs ys : List Nat} {w : World} (hx : Rd (Value.float .f32) w a1 c1 xs) (hy : Rd (Value.float .f32) w a2 c2 ys) (hl : xs.length = ys.length) :
    Calls Try.prog 144 #[.slice a1 xs.length c1, .slice a2 ys.length c2] w (RetF w (dotC xs ys)) := by
  have hlx := hx.len
  have HL := Lib.hid hl
  clear hl
  go_enter Try.func144, Try.ntmps144
  go_wp2
  go_loopw [5, 6, 9] (fun s _ i wr => ∃ (k r : Nat), k ≤ xs.length ∧ i = .int .i64 k ∧ s = .float .f32 r ∧ Hid (cn .f32 r = dotC (xs.take k) (ys.take k)) ∧ Below w.heap.size w wr) (fun _ _ i _ => xs.length - (intOf i).toNat)
  case atStart => exact ⟨0, 0, Nat.zero_le _, rfl, rfl, cn_zero, Below.refl _ _⟩
  case round =>
    obtain ⟨k, r, hk, rfl, rfl, HR, hb⟩ := hrel
    by_cases hlt : k < xs.length
    · have hlt2 : k < ys.length := by rw [← HL.out]; exact hlt
      have hxr := hx.below hb (Nat.le_refl _)
      have hyr := hy.below hb (Nat.le_refl _)
      have hcx := hxr.cell k hlt
      have hcy := hyr.cell k hlt2
      have hix := hxr.idx und_fs siz_fs
      have hiy := hyr.idx und_fs siz_fs
      have HS := Lib.hid (dotC_snoc xs ys k hlt hlt2)
      simp only [List.getElem?_eq_getElem hlt, List.getElem?_eq_getElem hlt2, Option.getD_some] at hcx hcy
      go_wp2_with fail
      go_region_with (refine upon_fbin rfl _ _ ?_; rintro q w' ⟨n, rfl⟩ hq)
      all_goals
        go_wp2
        rename_i q1 n1 hq1
        go_roundw
        case rel => exact ⟨k + 1, q, by omega, by go_num, rfl, by show _ = _; rw [HS.out, hq, hq1, HR.out], hb.trans (below_of_drewN _ _ _)⟩
        case measure => simp [intOf]; omega
    · obtain rfl : k = xs.length := by omega
      go_wp2
      go_ret
      refine ⟨r, rfl, ?_, hb⟩
      have := HR.out
      rwa [List.take_length, HL.out, List.take_length] at this

/-- A number, if it is finite. -/
def ifFin (o : Option Nat) : Option Nat := if fin .f32 o then o else some 0

theorem ifFinite_any {x : Nat} {w : World} : Calls Try.prog 135 #[.float .f32 x] w (RetFB w (ifFin (cn .f32 x)) (fin .f32 (cn .f32 x))) := by
  cases h : fin .f32 (cn .f32 x) with
  | false =>
    go_enter Try.func135, Try.ntmps135
    go_wp2_with fail
    refine isFinite_any.mono ?_
    rintro e w1 ⟨rfl, hb1⟩
    go_wp2
    go_ret2
    exact ⟨0, rfl, by simp [ifFin, h, cn_zero], hb1⟩
  | true =>
    go_enter Try.func135, Try.ntmps135
    go_wp2_with fail
    refine isFinite_any.mono ?_
    rintro e w1 ⟨rfl, hb1⟩
    go_wp2
    go_ret2
    exact ⟨x, rfl, by simp [ifFin, h], hb1⟩

theorem l02Number_any {x : Nat} {w : World} : Calls Try.prog 132 #[.float .f32 x] w (RetFB w (ifFin (cn .f32 x)) (fin .f32 (cn .f32 x))) := by
  cases h : fin .f32 (cn .f32 x) with
  | false =>
    go_enter Try.func132, Try.ntmps132
    go_wp2_with fail
    refine l01Finite_any.mono ?_
    rintro e w1 ⟨rfl, hb1⟩
    go_wp2
    go_ret2
    exact ⟨0, rfl, by simp [ifFin, h, cn_zero], hb1⟩
  | true =>
    go_enter Try.func132, Try.ntmps132
    go_wp2_with fail
    refine l01Finite_any.mono ?_
    rintro e w1 ⟨rfl, hb1⟩
    go_wp2
    go_ret2
    exact ⟨x, rfl, by simp [ifFin, h], hb1⟩

def dotOk (xs ys : List Nat) : Bool := isVec xs && isVec ys && decide (xs.length = ys.length)
def dotR (xs ys : List Nat) : Option Nat := if dotOk xs ys then ifFin (dotC xs ys) else some 0
def dotB (xs ys : List Nat) : Bool := dotOk xs ys && fin .f32 (dotC xs ys)

end Go.Proofs.Ytdpolaedfjljmaa

namespace Go.Proofs.Ytdpolaedfjljmaa
open Go.RowKit

set_option maxHeartbeats 400000 in
theorem markF_any {a : Option Addr} {c base k0 : Nat} {xs : List Nat} {w : World} (ho : Own (Value.float .f32) 49 w base a c xs) (hk : k0 + xs.length ≤ 4611686018427387904) :
    Calls Try.prog 47 #[.slice a xs.length c, .int .i64 k0] w (RetM (Value.float .f32) 49 w base a c (fun k => floatOfInt .f32 (k : Int)) k0 xs.length) := by
  have hsf := @run_store_fl Try.prog
  go_enter Try.func47, Try.ntmps47
  go_wp2
  go_loopw [1, 5] (fun kk i wr => ∃ k : Nat, k ≤ xs.length ∧ i = .int .i64 k ∧ kk = .int .i64 ((k0 + k : Nat) : Int) ∧ Own (Value.float .f32) 49 wr base a c (marks (fun k => floatOfInt .f32 (k : Int)) k0 k ++ xs.drop k) ∧ w.grownBy wr (a.map (·.block))) (fun _ i _ => xs.length - (intOf i).toNat)
  case atStart => exact ⟨0, Nat.zero_le _, rfl, rfl, by simpa [marks] using ho, World.grownBy.refl _ _⟩
  case round =>
    obtain ⟨k, hk, rfl, rfl, hw, hg⟩ := hrel
    clear ho
    have hln : (marks (fun k => floatOfInt .f32 (k : Int)) k0 k ++ xs.drop k).length = xs.length := by simp [marks_length]; omega
    by_cases hlt : k < xs.length
    · have hio := hw.idx und_fs siz_fs
      rw [hln] at hio
      obtain ⟨v0, hcs⟩ : ∃ v, wr.cell? (elt a k) = some v := ⟨_, hw.cell k (by omega)⟩
      have hfz := hw.free k (by omega)
      have hst := hw.set k (by omega) (floatOfInt .f32 ((k0 + k : Nat) : Int))
      rw [marks_set (fun k => floatOfInt .f32 (k : Int)) k0 k xs hlt] at hst
      have HG : Hid (wr.grownBy _ _) := hst.2
      have HS : Hid (Own _ _ _ _ _ _ _) := hst.1
      have HC : Hid (w.grownBy _ _) := hg
      clear hst hg hln
      go_wp2
      go_roundw
      case rel => exact ⟨k + 1, by omega, by go_num, by go_num, by simpa using HS.out, grown_trans HC.out (by simpa using HG.out)⟩
      case measure => simp [intOf]; omega
    · obtain rfl : k = xs.length := by omega
      have HO : Hid (Own _ _ _ _ _ _ _) := hw
      have HC : Hid (w.grownBy _ _) := hg
      clear hw hln hg
      go_wp2
      go_ret
      exact ⟨rfl, HO.out.cast (by simp), HC.out⟩


end Go.Proofs.Ytdpolaedfjljmaa

namespace Go.Proofs.Ytdpolaedfjljmaa
open Go.RowKit

/-- The number is less than 2 ^ (B + 1). -/
def mag (d : Ieee.Datum) (B : Int) : Prop := match d with
  | .number _ m e => m = 0 ∨ (m.log2 : Int) + e ≤ B
  | _ => True

theorem mag_mono {d : Ieee.Datum} {B C : Int} (h : mag d B) (hc : B ≤ C) : mag d C := by
  cases d with
  | number s m e => rcases h with h | h; exact .inl h; exact .inr (by omega)
  | infinity s => trivial
  | nan s t => trivial

theorem log2_div_pow {m d : Nat} : m / 2 ^ d < 2 ^ (m.log2 + 1 - d) := by
  by_cases h : d ≤ m.log2 + 1
  · rw [Nat.div_lt_iff_lt_mul (Nat.two_pow_pos _), ← Nat.pow_add]
    have : m.log2 + 1 - d + d = m.log2 + 1 := by omega
    rw [this]; exact Nat.lt_log2_self
  · have h1 : m < 2 ^ d := Nat.lt_of_lt_of_le Nat.lt_log2_self (Nat.pow_le_pow_right (by omega) (by omega))
    rw [Nat.div_eq_of_lt h1]
    exact Nat.two_pow_pos _

/-- What is kept of the digits is at most 2 ^ (F + 1). -/
theorem cut_le (neg : Bool) (m drop F : Nat) (h : m.log2 ≤ F + drop) : Ieee.Toward.even.cut neg m drop ≤ 2 ^ (F + 1) := by
  unfold Ieee.Toward.cut
  simp only
  have hb : ∀ b : Bool, b.toNat ≤ 1 := by intro b; cases b <;> simp
  rw [Nat.one_shiftLeft]
  generalize hmd : min drop (m.log2 + 2) = md
  have h1 : m / 2 ^ md < 2 ^ (F + 1) := by
    rcases Nat.le_total drop (m.log2 + 2) with hd | hd
    · have : md = drop := by omega
      rw [this]
      refine Nat.lt_of_lt_of_le log2_div_pow (Nat.pow_le_pow_right (by omega) (by omega))
    · have : md = m.log2 + 2 := by omega
      rw [this]
      refine Nat.lt_of_lt_of_le log2_div_pow (Nat.pow_le_pow_right (by omega) (by omega))
  have h2 := hb (decide (2 ^ md < 2 * (m % 2 ^ md)) || (2 ^ md == 2 * (m % 2 ^ md) && m / 2 ^ md % 2 == 1))
  omega

/-- The rung of the nearest word. -/
theorem rung_le (f : Ieee.Format) (neg : Bool) (m : Nat) (e : Int) (h0 : m ≠ 0) :
    Ieee.Toward.even.cut neg (m <<< (e - max (e + (m.log2 : Int) - (f.fractionBits : Int)) f.leastPlace).toNat) ((max (e + (m.log2 : Int) - (f.fractionBits : Int)) f.leastPlace) - e).toNat ≤ 2 ^ (f.fractionBits + 1) := by
  generalize hl : max (e + (m.log2 : Int) - (f.fractionBits : Int)) f.leastPlace = last
  have hge : e + (m.log2 : Int) - (f.fractionBits : Int) ≤ last := by omega
  by_cases hc : last ≤ e
  · have h1 : (last - e).toNat = 0 := by omega
    rw [h1]
    unfold Ieee.Toward.cut
    simp only [Nat.zero_min, Nat.shiftLeft_zero, Nat.div_one, Nat.mod_one]
    have h2 : m <<< (e - last).toNat < 2 ^ (f.fractionBits + 1) := by
      rw [Nat.shiftLeft_eq]
      calc m * 2 ^ (e - last).toNat < 2 ^ (m.log2 + 1) * 2 ^ (e - last).toNat := Nat.mul_lt_mul_of_pos_right Nat.lt_log2_self (Nat.two_pow_pos _)
        _ = 2 ^ (m.log2 + 1 + (e - last).toNat) := by rw [← Nat.pow_add]
        _ ≤ 2 ^ (f.fractionBits + 1) := Nat.pow_le_pow_right (by omega) (by omega)
    simp
    omega
  · have h1 : (e - last).toNat = 0 := by omega
    rw [h1, Nat.shiftLeft_zero]
    exact cut_le neg m _ f.fractionBits (by omega)

theorem word32_notInf (neg : Bool) (r : Nat) (h : r < 2139095040) : (Ieee.single.read (Ieee.single.word neg r)).isInfinity = false := by
  have e1 : Ieee.single.signWeight = 2147483648 := by decide
  have e2 : Ieee.single.binade = 8388608 := by decide
  have e3 : Ieee.single.infRung = 2139095040 := by decide
  unfold Ieee.Format.read Ieee.Format.word
  simp only [e1, e2, e3]
  have hm : (if neg = true then 2147483648 + r else r) % 2147483648 = r := by split <;> omega
  rw [hm]
  by_cases h1 : r < 8388608
  · rw [if_pos h1]; rfl
  · rw [if_neg h1, if_pos h]; rfl

/-- A number less than 2 ^ 127 fits a float32. -/
theorem narrow_fits {s : Bool} {m : Nat} {e : Int} (h : mag (.number s m e) 126) : (FloatKind.f32.decode (FloatKind.f32.encode (.number s m e))).isInfinity = false := by
  show (Ieee.single.read (Ieee.single.nearest s m e)).isInfinity = false
  unfold Ieee.Format.nearest
  split
  · exact word32_notInf s 0 (by omega)
  · rename_i h0
    have hb : (m.log2 : Int) + e ≤ 126 := by rcases h with h | h; exact absurd h h0; exact h
    have hr := rung_le Ieee.single s m e h0
    have e4 : Ieee.single.leastPlace = -149 := by decide
    have e5 : Ieee.single.fractionBits = 23 := rfl
    have e2 : Ieee.single.binade = 8388608 := by decide
    simp only [e4, e5, e2] at hr ⊢
    generalize Ieee.Toward.even.cut s (m <<< (e - max (e + (m.log2 : Int) - ((23 : Nat) : Int)) (-149)).toNat) (max (e + (m.log2 : Int) - ((23 : Nat) : Int)) (-149) - e).toNat = kept at hr ⊢
    have h4 : (max (e + (m.log2 : Int) - ((23 : Nat) : Int)) (-149) - -149).toNat ≤ 252 := by omega
    generalize (max (e + (m.log2 : Int) - ((23 : Nat) : Int)) (-149) - -149).toNat = qq at h4 ⊢
    have hr' : kept ≤ 16777216 := hr
    refine word32_notInf s _ ?_
    exact Nat.lt_of_le_of_lt (Nat.min_le_left _ _) (by omega)

theorem log2_le_of_lt {m k : Nat} (h : m < 2 ^ (k + 1)) : m.log2 ≤ k := by
  by_cases h0 : m = 0
  · rw [h0]; simp
  · have := (Nat.log2_lt h0).2 h
    omega

/-- What a float64 word of a rung stands for. -/
theorem read64_mag (neg : Bool) (r : Nat) (q : Nat) (h : r < (q + 1) * 4503599627370496) (hr : r ≤ 9218868437227405312) : mag (Ieee.double.read (Ieee.double.word neg r)) ((q : Int) - 1023) := by
  have e1 : Ieee.double.signWeight = 9223372036854775808 := by decide
  have e2 : Ieee.double.binade = 4503599627370496 := by decide
  have e3 : Ieee.double.infRung = 9218868437227405312 := by decide
  have e4 : Ieee.double.leastPlace = -1074 := by decide
  unfold Ieee.Format.read Ieee.Format.word
  simp only [e1, e2, e3, e4]
  have hm : (if neg = true then 9223372036854775808 + r else r) % 9223372036854775808 = r := by split <;> omega
  rw [hm]
  by_cases h1 : r < 4503599627370496
  · rw [if_pos h1]
    right
    have : r.log2 ≤ 51 := log2_le_of_lt (by simpa using h1)
    omega
  · rw [if_neg h1]
    by_cases h2 : r < 9218868437227405312
    · rw [if_pos h2]
      right
      have : (4503599627370496 + r % 4503599627370496).log2 ≤ 52 := log2_le_of_lt (by
        have : r % 4503599627370496 < 4503599627370496 := Nat.mod_lt _ (by omega)
        simp; omega)
      have h3 : r / 4503599627370496 ≤ q := by
        have := (Nat.div_lt_iff_lt_mul (by omega : 0 < 4503599627370496)).2 h
        omega
      omega
    · rw [if_neg h2]
      split <;> trivial

/-- A number written as a float64 and read again is hardly greater. -/
theorem enc64_mag {s : Bool} {m : Nat} {e : Int} {B : Int} (h : mag (.number s m e) B) (hB : -1022 ≤ B) : mag (FloatKind.f64.decode (FloatKind.f64.encode (.number s m e))) (B + 1) := by
  show mag (Ieee.double.read (Ieee.double.nearest s m e)) (B + 1)
  unfold Ieee.Format.nearest
  split
  · have := read64_mag s 0 0 (by omega) (by omega)
    exact mag_mono this (by omega)
  · rename_i h0
    have hb : (m.log2 : Int) + e ≤ B := by rcases h with h | h; exact absurd h h0; exact h
    have hr := rung_le Ieee.double s m e h0
    have e4 : Ieee.double.leastPlace = -1074 := by decide
    have e5 : Ieee.double.fractionBits = 52 := rfl
    have e2 : Ieee.double.binade = 4503599627370496 := by decide
    have e3 : Ieee.double.infRung = 9218868437227405312 := by decide
    simp only [e4, e5, e2, e3] at hr ⊢
    generalize Ieee.Toward.even.cut s (m <<< (e - max (e + (m.log2 : Int) - ((52 : Nat) : Int)) (-1074)).toNat) (max (e + (m.log2 : Int) - ((52 : Nat) : Int)) (-1074) - e).toNat = kept at hr ⊢
    have h4 : ((max (e + (m.log2 : Int) - ((52 : Nat) : Int)) (-1074) - -1074).toNat : Int) ≤ B + 1022 := by omega
    generalize (max (e + (m.log2 : Int) - ((52 : Nat) : Int)) (-1074) - -1074).toNat = qq at h4 ⊢
    have hr' : kept ≤ 9007199254740992 := hr
    have h5 : qq * 4503599627370496 + kept < (qq + 2 + 1) * 4503599627370496 := by omega
    have := read64_mag s (min (qq * 4503599627370496 + kept) 9218868437227405312) (qq + 2) (Nat.lt_of_le_of_lt (Nat.min_le_left _ _) h5) (Nat.min_le_right _ _)
    exact mag_mono this (by omega)

theorem rootFrom_lt (n : Nat) : ∀ todo root, Ieee.Datum.rootFrom n todo root < root + 2 ^ todo := by
  intro todo
  induction todo with
  | zero => intro root; simp [Ieee.Datum.rootFrom]
  | succ t ih =>
    intro root
    unfold Ieee.Datum.rootFrom
    simp only [Nat.one_shiftLeft]
    have hp : 2 ^ (t + 1) = 2 ^ t + 2 ^ t := by rw [Nat.pow_succ]; omega
    have hpos := Nat.two_pow_pos t
    generalize 2 ^ t = p2 at *
    have ha := ih (root + p2)
    have hb := ih root
    split <;> omega

/-- The root of a number less than 2 ^ (B + 1). -/
theorem root_mag {d r : Ieee.Datum} {B : Int} (q : Nat) (h : mag d B) (hr : d.root q = some r) : mag r (B / 2) ∨ ∃ s e, r = .number s 0 e := by
  cases d with
  | nan s t => simp [Ieee.Datum.root] at hr
  | infinity s =>
    left
    simp only [Ieee.Datum.root] at hr
    split at hr
    · simp at hr
    · simp at hr
      subst hr; trivial
  | number s m i =>
    simp only [Ieee.Datum.root] at hr
    split at hr
    · rename_i hm
      simp at hr
      subst hr; subst hm
      exact .inr ⟨s, i, rfl⟩
    · rename_i hm
      split at hr
      · simp at hr
      · simp only [Option.some.injEq] at hr
        subst hr
        left
        have hb : (m.log2 : Int) + i ≤ B := by rcases h with h | h; exact absurd h hm; exact h
        right
        generalize (2 * q - m.log2 + ((i - ((2 * q - m.log2 : Nat) : Int)) % 2).toNat) = more
        have hl : (m <<< more).log2 ≤ m.log2 + more := by
          refine log2_le_of_lt ?_
          rw [Nat.shiftLeft_eq]
          calc m * 2 ^ more < 2 ^ (m.log2 + 1) * 2 ^ more := Nat.mul_lt_mul_of_pos_right Nat.lt_log2_self (Nat.two_pow_pos _)
            _ = 2 ^ (m.log2 + more + 1) := by rw [← Nat.pow_add]; congr 1; omega
        generalize hn : m <<< more = n at hl ⊢
        have hw := rootFrom_lt n (n.log2 / 2 + 1) 0
        rw [Nat.zero_add] at hw
        generalize Ieee.Datum.rootFrom n (n.log2 / 2 + 1) 0 = whole at hw ⊢
        have hbit : (whole * whole != n).toNat ≤ 1 := by cases (whole * whole != n) <;> simp
        have h2 : (2 * whole + (whole * whole != n).toNat).log2 ≤ n.log2 / 2 + 1 := by
          refine log2_le_of_lt ?_
          have : 2 ^ (n.log2 / 2 + 1 + 1) = 2 * 2 ^ (n.log2 / 2 + 1) := by rw [Nat.pow_succ]; omega
          omega
        omega

/-- The square root of a float64. -/
def fsqrt (o : Option Nat) : Option Nat := o.bind FloatKind.f64.format.sqrt
/-- A float64 as a float32. -/
def narrow (o : Option Nat) : Option Nat := o.map fun b => FloatKind.f32.encode (FloatKind.f64.decode b)
/-- It fits. -/
def fits (o : Option Nat) : Prop := ∀ b, o = some b → mag (FloatKind.f64.decode b) 126

theorem nanConv32_cn (b t : Nat) : cn .f32 ((Question.nanConv .f32 b).cut t) = none := by
  have h : (FloatKind.f32.decode ((Question.nanConv .f32 b).cut t)).isNaN = true := nanCut32 t
  simp [cn, h]

theorem run_narrow {P : Program} (w : World) (src dst : TypeId) (hs : (P.underlying src).isSome = true) (hd : P.underlying dst = some (.float .f32)) (b : Nat) (hf : fits (cn .f64 b)) :
    ∃ r w', (convert src dst (.float .f64 b)).run P w = .ok (.float .f32 r) w' ∧ (∃ n, w' = w.drewN n) ∧ cn .f32 r = narrow (cn .f64 b) := by
  obtain ⟨u, hs'⟩ := Option.isSome_iff_exists.1 hs
  cases hc : cn .f64 b with
  | none =>
    obtain ⟨s, t, hdec⟩ := cn_none hc
    refine ⟨(Question.nanConv .f32 b).cut (w.tape w.drawn (.nanConv .f32 b)), w.drew, ?_, ⟨1, rfl⟩, nanConv32_cn b _⟩
    cases u <;> simp [convert, run_underlying hs', run_underlying hd, Conv.floatToFloat, hdec, Question.forced] <;> rfl
  | some b' =>
    obtain ⟨rfl, hn⟩ := cn_some hc
    have hm := hf b hc
    cases hdec : FloatKind.f64.decode b with
    | nan s t => rw [hdec] at hn; simp [Ieee.Datum.isNaN] at hn
    | infinity s =>
      refine ⟨FloatKind.f32.encode (.infinity s), w, ?_, ⟨0, rfl⟩, ?_⟩
      · cases u <;> simp [convert, run_underlying hs', run_underlying hd, Conv.floatToFloat, hdec]
      · simp [narrow, hdec]; exact cn_write .f32 (.infinity s) rfl
    | number s m e =>
      rw [hdec] at hm
      have hf := narrow_fits hm
      refine ⟨FloatKind.f32.encode (.number s m e), w, ?_, ⟨0, rfl⟩, ?_⟩
      · cases u <;> simp [convert, run_underlying hs', run_underlying hd, Conv.floatToFloat, hdec, hf]
      · simp [narrow, hdec]; exact cn_write .f32 (.number s m e) rfl

theorem wpl_narrow {P : Program} {w : World} {ops : Array Oper} {rest : List Oper} {o : Oper} {ac : Act} {Q : Exit → Act → World → Prop}
    (hw : Region.wanted o (yielded ops ac.tmps) = true) (src dst : TypeId) (x : Operand) (hop : o.op = .convert src dst x) (hs : (P.underlying src).isSome = true) (hd : P.underlying dst = some (.float .f32)) (b : Nat)
    (hx : ac.eval x = .float .f64 b) (hf : fits (cn .f64 b))
    (hK : ∀ r w', (∃ n, w' = w.drewN n) → cn .f32 r = narrow (cn .f64 b) → wpList P ops Q rest (ac.put o.dst (.float .f32 r)) w') : wpList P ops Q (o :: rest) ac w := by
  obtain ⟨r, w', hru, hn, hc⟩ := run_narrow (P := P) w src dst hs hd b hf
  unfold wpList
  rw [if_pos hw]
  left
  unfold Oper.wp execOp
  simp only [hop, Sem.run_bind, Sem.run_pure, Result.andThen_ok, hx, hru]
  exact hK r w' hn hc

theorem root_nan {q : Nat} {d r : Ieee.Datum} (h : d.root q = some r) : d.isNaN = false ∧ r.isNaN = false := by
  cases d with
  | nan s t => simp [Ieee.Datum.root] at h
  | infinity s =>
    simp only [Ieee.Datum.root] at h
    split at h
    · simp at h
    · simp at h; subst h; exact ⟨rfl, rfl⟩
  | number s m i =>
    refine ⟨rfl, ?_⟩
    simp only [Ieee.Datum.root] at h
    split at h
    · simp at h; subst h; rfl
    · split at h
      · simp at h
      · simp only [Option.some.injEq] at h; subst h; rfl

/-- The root of a float32 fits a float32. -/
theorem sqrt_fits (b : Nat) : fits (fsqrt (widen (cn .f32 b))) := by
  intro r hr
  unfold fsqrt widen at hr
  cases hc : cn .f32 b with
  | none => rw [hc] at hr; simp at hr
  | some b' =>
    obtain ⟨rfl, hn⟩ := cn_some hc
    rw [hc] at hr
    simp only [Option.map_some, Option.bind_some] at hr
    unfold Ieee.Format.sqrt at hr
    simp only [Option.map_eq_some_iff] at hr
    obtain ⟨d, hd, rfl⟩ := hr
    have hw : mag (FloatKind.f64.decode (FloatKind.f64.encode (FloatKind.f32.decode b))) 128 := by
      cases hdec : FloatKind.f32.decode b with
      | nan s t => rw [hdec] at hn; simp [Ieee.Datum.isNaN] at hn
      | infinity s => cases s <;> trivial
      | number s m e =>
        obtain ⟨hm, he1, he2⟩ := read32_bd b hdec
        have : mag (.number s m e) 127 := by
          by_cases h0 : m = 0
          · exact .inl h0
          · have := log2_lt24 h0 hm
            exact .inr (by omega)
        exact enc64_mag this (by omega)
    rcases root_mag _ hw hd with h | ⟨s, e, rfl⟩
    · cases d with
      | nan s t => have := (root_nan hd).2; simp [Ieee.Datum.isNaN] at this
      | infinity s => cases s <;> trivial
      | number s m e => exact mag_mono (enc64_mag (B := 64) h (by omega)) (by omega)
    · exact mag_mono (enc64_mag (s := s) (m := 0) (e := e) (B := 64) (.inl rfl) (by omega)) (by omega)

end Go.Proofs.Ytdpolaedfjljmaa

namespace Go.Proofs.Ytdpolaedfjljmaa
open Go.RowKit

def RetF64 (w : World) (o : Option Nat) (en : Ending) (w' : World) : Prop :=
  ∃ r, en = .returned (.float .f64 r) ∧ cn .f64 r = o ∧ Below w.heap.size w w'

theorem call_sqrt (x : Nat) (w : World) : ∃ r w', (callFunc 186 #[.float .f64 x]).run Try.prog w = .ok (.value (.float .f64 r)) w' ∧ (∃ n, w' = w.drewN n) ∧ cn .f64 r = fsqrt (cn .f64 x) := by
  have h := run_callFunc_standIn (P := Try.prog) (f := 186) (e := Extern.MathSqrt.sqrt) Try.func186 (by kernel_rfl) (by kernel_rfl) (by kernel_rfl) (by kernel_rfl) #[.float .f64 x] w
  rw [h]
  have he : Extern.MathSqrt.sqrt #[.float .f64 x] = (match FloatKind.f64.format.sqrt x with
    | some r => pure (.float .f64 r)
    | none => do pure (.float .f64 (← choose (.nanBits .f64 x x)))) := rfl
  rw [he]
  cases hs : FloatKind.f64.format.sqrt x with
  | some r =>
    refine ⟨r, w, by simp, ⟨0, rfl⟩, ?_⟩
    unfold Ieee.Format.sqrt at hs
    simp only [Option.map_eq_some_iff] at hs
    obtain ⟨d, hd, rfl⟩ := hs
    have hn := root_nan hd
    have hx : cn .f64 x = some x := by
      have : (FloatKind.f64.decode x).isNaN = false := hn.1
      simp [cn, this]
    rw [hx, cn_write .f64 d hn.2]
    simp only [fsqrt, Option.bind_some, Ieee.Format.sqrt, hd, Option.map_some]
  | none =>
    have hz : fsqrt (cn .f64 x) = none := by
      cases hx : cn .f64 x with
      | none => rfl
      | some x' => obtain ⟨rfl, _⟩ := cn_some hx; exact hs
    refine ⟨(Question.nanBits .f64 x x).cut (w.tape w.drawn (.nanBits .f64 x x)), w.drew, ?_, ⟨1, rfl⟩, by rw [hz]; exact nanBits_cn .f64 x x _⟩
    simp [Question.forced]

theorem mathSqrt_any {x : Nat} {w : World} : Calls Try.prog 167 #[.float .f64 x] w (RetF64 w (fsqrt (cn .f64 x))) := by
  obtain ⟨r, w', hrun, ⟨n, rfl⟩, hr⟩ := call_sqrt x w
  go_enter Try.func167, Try.ntmps167
  go_wp2
  go_ret
  exact ⟨r, rfl, hr, below_of_drewN _ _ _⟩

def rootC (o : Option Nat) : Option Nat := narrow (fsqrt (widen o))

theorem rootNumber_any {x : Nat} {w : World} : Calls Try.prog 140 #[.float .f32 x] w (RetF w (rootC (cn .f32 x))) := by
  have HF := Lib.hid (sqrt_fits x)
  go_enter Try.func140, Try.ntmps140
  go_wp2_with (refine wpl_widen rfl _ _ _ rfl und_f32 und_f64 _ rfl ?_; rintro q w' ⟨n, rfl⟩ hq; have HQ := Lib.hid hq; clear hq)
  refine mathSqrt_any.mono ?_
  rintro e w1 ⟨r1, rfl, hr1, hb1⟩
  have HR := Lib.hid hr1
  clear hr1
  go_wp2_with (refine wpl_narrow rfl _ _ _ rfl (by kernel_rfl) (by kernel_rfl) _ rfl (by rw [HR.out, HQ.out]; exact HF.out) ?_; rintro q2 w' ⟨n2, rfl⟩ hq2; have HQ2 := Lib.hid hq2; clear hq2)
  go_ret
  exact ⟨q2, rfl, by rw [HQ2.out, HR.out, HQ.out]; rfl, (below_of_drewN _ _ _).trans (hb1.trans (below_of_drewN _ _ _))⟩

theorem l01Narrow_any {x : Nat} {w : World} (hf : fits (cn .f64 x)) : Calls Try.prog 162 #[.float .f64 x] w (RetF w (narrow (cn .f64 x))) := by
  have HF := Lib.hid hf
  clear hf
  go_enter Try.func162, Try.ntmps162
  go_wp2_with (refine wpl_narrow rfl _ _ _ rfl (by kernel_rfl) (by kernel_rfl) _ rfl HF.out ?_; rintro q2 w' ⟨n2, rfl⟩ hq2; have HQ2 := Lib.hid hq2; clear hq2)
  go_ret
  exact ⟨q2, rfl, HQ2.out, below_of_drewN _ _ _⟩

theorem l01Sqrt_any {x : Nat} {w : World} : Calls Try.prog 143 #[.float .f32 x] w (RetF w (rootC (cn .f32 x))) := by
  have HF := Lib.hid (sqrt_fits x)
  go_enter Try.func143, Try.ntmps143
  go_wp2_with (refine wpl_widen rfl _ _ _ rfl und_f32 und_f64 _ rfl ?_; rintro q w' ⟨n, rfl⟩ hq; have HQ := Lib.hid hq; clear hq)
  refine mathSqrt_any.mono ?_
  rintro e w1 ⟨r1, rfl, hr1, hb1⟩
  have HR := Lib.hid hr1
  clear hr1
  go_wp2_with fail
  refine (l01Narrow_any (by rw [HR.out, HQ.out]; exact HF.out)).mono ?_
  rintro e w2 ⟨q2, rfl, hq2, hb2⟩
  have HQ2 := Lib.hid hq2
  clear hq2
  go_wp2
  go_ret
  exact ⟨q2, rfl, by rw [HQ2.out, HR.out, HQ.out]; rfl, (below_of_drewN _ _ _).trans (hb1.trans (hb2.mono hb1.size))⟩

def normR (xs : List Nat) : Option Nat := if isVec xs then ifFin (rootC (dotC xs xs)) else some 0
def normB (xs : List Nat) : Bool := isVec xs && fin .f32 (rootC (dotC xs xs))

set_option maxHeartbeats 400000 in
theorem implNormOf_any {a1 : Option Addr} {c1 : Nat} {xs : List Nat} {w : World} (hx : Rd (Value.float .f32) w a1 c1 xs) :
    Calls Try.prog 96 #[.slice a1 xs.length c1] w (RetFB w (normR xs) (normB xs)) := by
  cases h1 : isVec xs with
  | false =>
    go_enter Try.func96, Try.ntmps96
    go_wp2_with fail
    refine (isVector_any hx).mono ?_
    rintro e w1 ⟨rfl, hb1⟩
    go_wp2
    go_ret2
    exact ⟨0, by simp [normB, h1], by simp [normR, h1, cn_zero], hb1⟩
  | true =>
    go_enter Try.func96, Try.ntmps96
    go_wp2_with fail
    refine (isVector_any hx).mono ?_
    rintro e w1 ⟨rfl, hb1⟩
    go_wp2_with fail
    refine (implDot_any (hx.below hb1 (Nat.le_refl _)) (hx.below hb1 (Nat.le_refl _)) rfl).mono ?_
    rintro e w2 ⟨r, rfl, hr, hb2⟩
    have B2 : Below w.heap.size w w2 := hb1.trans (hb2.mono hb1.size)
    have HR := Lib.hid hr
    clear hr hb1 hb2
    go_wp2_with fail
    refine rootNumber_any.mono ?_
    rintro e w3 ⟨q, rfl, hq, hb3⟩
    have B3 : Below w.heap.size w w3 := B2.trans (hb3.mono B2.size)
    have HQ := Lib.hid hq
    clear hq hb3 B2
    go_wp2_with fail
    refine ifFinite_any.mono ?_
    rintro e w4 ⟨p, rfl, hp, hb4⟩
    have HP := Lib.hid hp
    clear hp
    go_wp2
    go_ret2
    refine ⟨p, ?_, ?_, B3.trans (hb4.mono B3.size)⟩
    · rw [HQ.out, HR.out]; simp [normB, h1]
    · rw [HP.out, HQ.out, HR.out]; simp [normR, h1]

set_option maxHeartbeats 400000 in
theorem specNormOf_any {a1 : Option Addr} {c1 : Nat} {xs : List Nat} {w : World} (hx : Rd (Value.float .f32) w a1 c1 xs) :
    Calls Try.prog 99 #[.slice a1 xs.length c1] w (RetFB w (normR xs) (normB xs)) := by
  cases h1 : isVec xs with
  | false =>
    go_enter Try.func99, Try.ntmps99
    go_wp2_with fail
    refine (l07Vector_any hx).mono ?_
    rintro e w1 ⟨rfl, hb1⟩
    go_wp2
    go_ret2
    exact ⟨0, by simp [normB, h1], by simp [normR, h1, cn_zero], hb1⟩
  | true =>
    go_enter Try.func99, Try.ntmps99
    go_wp2_with fail
    refine (l07Vector_any hx).mono ?_
    rintro e w1 ⟨rfl, hb1⟩
    go_wp2_with fail
    refine (specDot_any (hx.below hb1 (Nat.le_refl _)) (hx.below hb1 (Nat.le_refl _)) rfl).mono ?_
    rintro e w2 ⟨r, rfl, hr, hb2⟩
    have B2 : Below w.heap.size w w2 := hb1.trans (hb2.mono hb1.size)
    have HR := Lib.hid hr
    clear hr hb1 hb2
    go_wp2_with fail
    refine l01Sqrt_any.mono ?_
    rintro e w3 ⟨q, rfl, hq, hb3⟩
    have B3 : Below w.heap.size w w3 := B2.trans (hb3.mono B2.size)
    have HQ := Lib.hid hq
    clear hq hb3 B2
    go_wp2_with fail
    refine l02Number_any.mono ?_
    rintro e w4 ⟨p, rfl, hp, hb4⟩
    have HP := Lib.hid hp
    clear hp
    go_wp2
    go_ret2
    refine ⟨p, ?_, ?_, B3.trans (hb4.mono B3.size)⟩
    · rw [HQ.out, HR.out]; simp [normB, h1]
    · rw [HP.out, HQ.out, HR.out]; simp [normR, h1]

end Go.Proofs.Ytdpolaedfjljmaa

namespace Go.Proofs.Ytdpolaedfjljmaa
open Go.RowKit

theorem bool_ne {a b : Bool} (h : (a != b) = true) : ¬ a = b := by simpa using h

end Go.Proofs.Ytdpolaedfjljmaa

namespace Go.Proofs.Ytdpolaedfjljmaa
open Go.RowKit

set_option maxHeartbeats 400000 in
theorem seqSlB_any {a1 a2 : Option Addr} {c1 c2 : Nat} {xs ys : List Bool} {w : World} (hx : Rd (Value.bool) w a1 c1 xs) (hy : Rd (Value.bool) w a2 c2 ys) :
    Calls Try.prog 89 #[.slice a1 xs.length c1, .slice a2 ys.length c2] w fun e w' => e = .returned (.bool (decide (xs = ys))) ∧ ∃ n, w' = w.drewN n := by
  have hlx := hx.len
  have hly := hy.len
  by_cases hl : xs.length = ys.length
  · have hd : ((xs.length : Int) != (ys.length : Int)) = false := by simp [hl]
    have HL := Lib.hid hl
    clear hl
    go_enter Try.func89, Try.ntmps89
    go_wp2
    go_loopw [5, 13] (fun _ i wr => ∃ k : Nat, k ≤ xs.length ∧ i = .int .i64 k ∧ Hid (xs.take k = ys.take k) ∧ Hid (∃ n, wr = w.drewN n)) (fun _ i _ => xs.length - (intOf i).toNat)
    case atStart => exact ⟨0, Nat.zero_le _, rfl, by show _ = _; rfl, by show ∃ n, _; exact ⟨0, rfl⟩⟩
    case round =>
      obtain ⟨k, hk, rfl, HT, HN⟩ := hrel
      clear hd
      have hbr : Below w.heap.size w wr := by obtain ⟨n, hn⟩ := HN.out; rw [hn]; exact below_of_drewN _ _ _
      have hxr := hx.below hbr (Nat.le_refl _)
      have hyr := hy.below hbr (Nat.le_refl _)
      clear hbr
      by_cases hlt : k < xs.length
      · have hlt2 : k < ys.length := by rw [← HL.out]; exact hlt
        have hcx := hxr.cell k hlt
        have hcy := hyr.cell k hlt2
        have hix := hxr.idx und_bs siz_bs
        have hiy := hyr.idx und_bs siz_bs
        simp only [List.getElem?_eq_getElem hlt, List.getElem?_eq_getElem hlt2, Option.getD_some] at hcx hcy
        obtain ⟨x, hx'⟩ : ∃ x, xs[k] = x := ⟨_, rfl⟩
        obtain ⟨y, hy'⟩ : ∃ x, ys[k] = x := ⟨_, rfl⟩
        rw [hx'] at hcx
        rw [hy'] at hcy
        have HX := Lib.hid hx'
        have HY := Lib.hid hy'
        clear hx' hy'
        go_wp2_with fail
        go_quiet (fail)
        go_wp2
        · have h := bool_ne (by assumption)
          go_ret
          exact ⟨ret_bool (by simp [take_ne_of hlt hlt2 (by rw [HX.out, HY.out]; exact h)]), by obtain ⟨n, hn⟩ := HN.out; rw [hn]; exact ⟨_, World.drewN_drewN _ _ _⟩⟩
        · have h : ¬ (x != y) = true := by simp_all
          go_roundw
          case rel => exact ⟨k + 1, by omega, by go_num, take_eq_snoc hlt hlt2 HT.out (by rw [HX.out, HY.out]; simpa using h), by show ∃ n, _; obtain ⟨n, hn⟩ := HN.out; rw [hn]; exact ⟨_, World.drewN_drewN _ _ _⟩⟩
          case measure => simp [intOf]; omega
      · go_wp2
        go_ret
        obtain rfl : k = xs.length := by omega
        have h := HT.out
        rw [List.take_length, HL.out, List.take_length] at h
        exact ⟨ret_bool (by simp [h]), HN.out⟩
  · have hd : ((xs.length : Int) != (ys.length : Int)) = true := by simp; omega
    have HL := Lib.hid hl
    clear hl
    go_enter Try.func89, Try.ntmps89
    go_wp2
    go_ret
    refine ⟨ret_bool ?_, 0, rfl⟩
    have h := HL.out
    symm
    rw [decide_eq_false]
    rintro rfl
    exact h rfl

end Go.Proofs.Ytdpolaedfjljmaa

namespace Go.Proofs.Ytdpolaedfjljmaa
open Go.RowKit

theorem und_ss : Try.prog.underlying 99 = some (.slice (Try.prog.elem 99)) := by kernel_rfl
theorem siz_ss (w : World) : (sizeOf (Try.prog.elem 99)).run Try.prog w = .ok 1 w := by kernel_rfl
theorem und_sse : Try.prog.underlying 99 = some (.slice 9) := by kernel_rfl
theorem info_s : (Try.prog.info? 9).map (fun i => (i.zero, i.size, i.bytes)) = some (some (.string ByteArray.empty), 1, 16) := by kernel_rfl

end Go.Proofs.Ytdpolaedfjljmaa
