/- Narrowing a float64 to a float32 where it fits; the square root. -/
import Derived.Test.YtofbnddmahjanaaFlt
namespace Go.Proofs.Ytofbnddmahjanaa
open Go.RowKit

/-- The number is less than 2 ^ (B + 1). -/
def mag (d : Ieee.Datum) (B : Int) : Prop := match d with
  | .number _ m e => m = 0 ∨ (m.log2 : Int) + e ≤ B
  | _ => True

theorem mag_mono {d : Ieee.Datum} {B C : Int} (h : mag d B) (hc : B ≤ C) : mag d C := by
  cases d with
  | number s m e => rcases h with h | h; exact .inl h; exact .inr (by omega)
  | infinity s => trivial
  | nan s t => trivial

theorem log2_div_pow {m d : Nat} : m / 2 ^ d < 2 ^ (m.log2 + 1 - d) := by
  by_cases h : d ≤ m.log2 + 1
  · rw [Nat.div_lt_iff_lt_mul (Nat.two_pow_pos _), ← Nat.pow_add]
    have : m.log2 + 1 - d + d = m.log2 + 1 := by omega
    rw [this]; exact Nat.lt_log2_self
  · have h1 : m < 2 ^ d := Nat.lt_of_lt_of_le Nat.lt_log2_self (Nat.pow_le_pow_right (by omega) (by omega))
    rw [Nat.div_eq_of_lt h1]
    exact Nat.two_pow_pos _

/-- What is kept of the digits is at most 2 ^ (F + 1). -/
theorem cut_le (neg : Bool) (m drop F : Nat) (h : m.log2 ≤ F + drop) : Ieee.Toward.even.cut neg m drop ≤ 2 ^ (F + 1) := by
  unfold Ieee.Toward.cut
  simp only
  have hb : ∀ b : Bool, b.toNat ≤ 1 := by intro b; cases b <;> simp
  rw [Nat.one_shiftLeft]
  generalize hmd : min drop (m.log2 + 2) = md
  have h1 : m / 2 ^ md < 2 ^ (F + 1) := by
    rcases Nat.le_total drop (m.log2 + 2) with hd | hd
    · have : md = drop := by omega
      rw [this]
      refine Nat.lt_of_lt_of_le log2_div_pow (Nat.pow_le_pow_right (by omega) (by omega))
    · have : md = m.log2 + 2 := by omega
      rw [this]
      refine Nat.lt_of_lt_of_le log2_div_pow (Nat.pow_le_pow_right (by omega) (by omega))
  have h2 := hb (decide (2 ^ md < 2 * (m % 2 ^ md)) || (2 ^ md == 2 * (m % 2 ^ md) && m / 2 ^ md % 2 == 1))
  omega

/-- The rung of the nearest word. -/
theorem rung_le (f : Ieee.Format) (neg : Bool) (m : Nat) (e : Int) (h0 : m ≠ 0) :
    Ieee.Toward.even.cut neg (m <<< (e - max (e + (m.log2 : Int) - (f.fractionBits : Int)) f.leastPlace).toNat) ((max (e + (m.log2 : Int) - (f.fractionBits : Int)) f.leastPlace) - e).toNat ≤ 2 ^ (f.fractionBits + 1) := by
  generalize hl : max (e + (m.log2 : Int) - (f.fractionBits : Int)) f.leastPlace = last
  have hge : e + (m.log2 : Int) - (f.fractionBits : Int) ≤ last := by omega
  by_cases hc : last ≤ e
  · have h1 : (last - e).toNat = 0 := by omega
    rw [h1]
    unfold Ieee.Toward.cut
    simp only [Nat.zero_min, Nat.shiftLeft_zero, Nat.div_one, Nat.mod_one]
    have h2 : m <<< (e - last).toNat < 2 ^ (f.fractionBits + 1) := by
      rw [Nat.shiftLeft_eq]
      calc m * 2 ^ (e - last).toNat < 2 ^ (m.log2 + 1) * 2 ^ (e - last).toNat := Nat.mul_lt_mul_of_pos_right Nat.lt_log2_self (Nat.two_pow_pos _)
        _ = 2 ^ (m.log2 + 1 + (e - last).toNat) := by rw [← Nat.pow_add]
        _ ≤ 2 ^ (f.fractionBits + 1) := Nat.pow_le_pow_right (by omega) (by omega)
    simp
    omega
  · have h1 : (e - last).toNat = 0 := by omega
    rw [h1, Nat.shiftLeft_zero]
    exact cut_le neg m _ f.fractionBits (by omega)

theorem word32_notInf (neg : Bool) (r : Nat) (h : r < 2139095040) : (Ieee.single.read (Ieee.single.word neg r)).isInfinity = false := by
  have e1 : Ieee.single.signWeight = 2147483648 := by decide
  have e2 : Ieee.single.binade = 8388608 := by decide
  have e3 : Ieee.single.infRung = 2139095040 := by decide
  unfold Ieee.Format.read Ieee.Format.word
  simp only [e1, e2, e3]
  have hm : (if neg = true then 2147483648 + r else r) % 2147483648 = r := by split <;> omega
  rw [hm]
  by_cases h1 : r < 8388608
  · rw [if_pos h1]; rfl
  · rw [if_neg h1, if_pos h]; rfl

/-- A number less than 2 ^ 127 fits a float32. -/
theorem narrow_fits {s : Bool} {m : Nat} {e : Int} (h : mag (.number s m e) 126) : (FloatKind.f32.decode (FloatKind.f32.encode (.number s m e))).isInfinity = false := by
  show (Ieee.single.read (Ieee.single.nearest s m e)).isInfinity = false
  unfold Ieee.Format.nearest
  split
  · exact word32_notInf s 0 (by omega)
  · rename_i h0
    have hb : (m.log2 : Int) + e ≤ 126 := by rcases h with h | h; exact absurd h h0; exact h
    have hr := rung_le Ieee.single s m e h0
    have e4 : Ieee.single.leastPlace = -149 := by decide
    have e5 : Ieee.single.fractionBits = 23 := rfl
    have e2 : Ieee.single.binade = 8388608 := by decide
    simp only [e4, e5, e2] at hr ⊢
    generalize Ieee.Toward.even.cut s (m <<< (e - max (e + (m.log2 : Int) - ((23 : Nat) : Int)) (-149)).toNat) (max (e + (m.log2 : Int) - ((23 : Nat) : Int)) (-149) - e).toNat = kept at hr ⊢
    have h4 : (max (e + (m.log2 : Int) - ((23 : Nat) : Int)) (-149) - -149).toNat ≤ 252 := by omega
    generalize (max (e + (m.log2 : Int) - ((23 : Nat) : Int)) (-149) - -149).toNat = qq at h4 ⊢
    have hr' : kept ≤ 16777216 := hr
    refine word32_notInf s _ ?_
    exact Nat.lt_of_le_of_lt (Nat.min_le_left _ _) (by omega)

theorem log2_le_of_lt {m k : Nat} (h : m < 2 ^ (k + 1)) : m.log2 ≤ k := by
  by_cases h0 : m = 0
  · rw [h0]; simp
  · have := (Nat.log2_lt h0).2 h
    omega

/-- What a float64 word of a rung stands for. -/
theorem read64_mag (neg : Bool) (r : Nat) (q : Nat) (h : r < (q + 1) * 4503599627370496) (hr : r ≤ 9218868437227405312) : mag (Ieee.double.read (Ieee.double.word neg r)) ((q : Int) - 1023) := by
  have e1 : Ieee.double.signWeight = 9223372036854775808 := by decide
  have e2 : Ieee.double.binade = 4503599627370496 := by decide
  have e3 : Ieee.double.infRung = 9218868437227405312 := by decide
  have e4 : Ieee.double.leastPlace = -1074 := by decide
  unfold Ieee.Format.read Ieee.Format.word
  simp only [e1, e2, e3, e4]
  have hm : (if neg = true then 9223372036854775808 + r else r) % 9223372036854775808 = r := by split <;> omega
  rw [hm]
  by_cases h1 : r < 4503599627370496
  · rw [if_pos h1]
    right
    have : r.log2 ≤ 51 := log2_le_of_lt (by simpa using h1)
    omega
  · rw [if_neg h1]
    by_cases h2 : r < 9218868437227405312
    · rw [if_pos h2]
      right
      have : (4503599627370496 + r % 4503599627370496).log2 ≤ 52 := log2_le_of_lt (by
        have : r % 4503599627370496 < 4503599627370496 := Nat.mod_lt _ (by omega)
        simp; omega)
      have h3 : r / 4503599627370496 ≤ q := by
        have := (Nat.div_lt_iff_lt_mul (by omega : 0 < 4503599627370496)).2 h
        omega
      omega
    · rw [if_neg h2]
      split <;> trivial

/-- A number written as a float64 and read again is hardly greater. -/
theorem enc64_mag {s : Bool} {m : Nat} {e : Int} {B : Int} (h : mag (.number s m e) B) (hB : -1022 ≤ B) : mag (FloatKind.f64.decode (FloatKind.f64.encode (.number s m e))) (B + 1) := by
  show mag (Ieee.double.read (Ieee.double.nearest s m e)) (B + 1)
  unfold Ieee.Format.nearest
  split
  · have := read64_mag s 0 0 (by omega) (by omega)
    exact mag_mono this (by omega)
  · rename_i h0
    have hb : (m.log2 : Int) + e ≤ B := by rcases h with h | h; exact absurd h h0; exact h
    have hr := rung_le Ieee.double s m e h0
    have e4 : Ieee.double.leastPlace = -1074 := by decide
    have e5 : Ieee.double.fractionBits = 52 := rfl
    have e2 : Ieee.double.binade = 4503599627370496 := by decide
    have e3 : Ieee.double.infRung = 9218868437227405312 := by decide
    simp only [e4, e5, e2, e3] at hr ⊢
    generalize Ieee.Toward.even.cut s (m <<< (e - max (e + (m.log2 : Int) - ((52 : Nat) : Int)) (-1074)).toNat) (max (e + (m.log2 : Int) - ((52 : Nat) : Int)) (-1074) - e).toNat = kept at hr ⊢
    have h4 : ((max (e + (m.log2 : Int) - ((52 : Nat) : Int)) (-1074) - -1074).toNat : Int) ≤ B + 1022 := by omega
    generalize (max (e + (m.log2 : Int) - ((52 : Nat) : Int)) (-1074) - -1074).toNat = qq at h4 ⊢
    have hr' : kept ≤ 9007199254740992 := hr
    have h5 : qq * 4503599627370496 + kept < (qq + 2 + 1) * 4503599627370496 := by omega
    have := read64_mag s (min (qq * 4503599627370496 + kept) 9218868437227405312) (qq + 2) (Nat.lt_of_le_of_lt (Nat.min_le_left _ _) h5) (Nat.min_le_right _ _)
    exact mag_mono this (by omega)

theorem rootFrom_lt (n : Nat) : ∀ todo root, Ieee.Datum.rootFrom n todo root < root + 2 ^ todo := by
  intro todo
  induction todo with
  | zero => intro root; simp [Ieee.Datum.rootFrom]
  | succ t ih =>
    intro root
    unfold Ieee.Datum.rootFrom
    simp only [Nat.one_shiftLeft]
    have hp : 2 ^ (t + 1) = 2 ^ t + 2 ^ t := by rw [Nat.pow_succ]; omega
    have hpos := Nat.two_pow_pos t
    generalize 2 ^ t = p2 at *
    have ha := ih (root + p2)
    have hb := ih root
    split <;> omega

/-- The root of a number less than 2 ^ (B + 1). -/
theorem root_mag {d r : Ieee.Datum} {B : Int} (q : Nat) (h : mag d B) (hr : d.root q = some r) : mag r (B / 2) ∨ ∃ s e, r = .number s 0 e := by
  cases d with
  | nan s t => simp [Ieee.Datum.root] at hr
  | infinity s =>
    left
    simp only [Ieee.Datum.root] at hr
    split at hr
    · simp at hr
    · simp at hr
      subst hr; trivial
  | number s m i =>
    simp only [Ieee.Datum.root] at hr
    split at hr
    · rename_i hm
      simp at hr
      subst hr; subst hm
      exact .inr ⟨s, i, rfl⟩
    · rename_i hm
      split at hr
      · simp at hr
      · simp only [Option.some.injEq] at hr
        subst hr
        left
        have hb : (m.log2 : Int) + i ≤ B := by rcases h with h | h; exact absurd h hm; exact h
        right
        generalize (2 * q - m.log2 + ((i - ((2 * q - m.log2 : Nat) : Int)) % 2).toNat) = more
        have hl : (m <<< more).log2 ≤ m.log2 + more := by
          refine log2_le_of_lt ?_
          rw [Nat.shiftLeft_eq]
          calc m * 2 ^ more < 2 ^ (m.log2 + 1) * 2 ^ more := Nat.mul_lt_mul_of_pos_right Nat.lt_log2_self (Nat.two_pow_pos _)
            _ = 2 ^ (m.log2 + more + 1) := by rw [← Nat.pow_add]; congr 1; omega
        generalize hn : m <<< more = n at hl ⊢
        have hw := rootFrom_lt n (n.log2 / 2 + 1) 0
        rw [Nat.zero_add] at hw
        generalize Ieee.Datum.rootFrom n (n.log2 / 2 + 1) 0 = whole at hw ⊢
        have hbit : (whole * whole != n).toNat ≤ 1 := by cases (whole * whole != n) <;> simp
        have h2 : (2 * whole + (whole * whole != n).toNat).log2 ≤ n.log2 / 2 + 1 := by
          refine log2_le_of_lt ?_
          have : 2 ^ (n.log2 / 2 + 1 + 1) = 2 * 2 ^ (n.log2 / 2 + 1) := by rw [Nat.pow_succ]; omega
          omega
        omega

/-- The square root of a float64. -/
def fsqrt (o : Option Nat) : Option Nat := o.bind FloatKind.f64.format.sqrt
/-- A float64 as a float32. -/
def narrow (o : Option Nat) : Option Nat := o.map fun b => FloatKind.f32.encode (FloatKind.f64.decode b)
/-- It fits. -/
def fits (o : Option Nat) : Prop := ∀ b, o = some b → mag (FloatKind.f64.decode b) 126

theorem nanConv32_cn (b t : Nat) : cn .f32 ((Question.nanConv .f32 b).cut t) = none := by
  have h : (FloatKind.f32.decode ((Question.nanConv .f32 b).cut t)).isNaN = true := nanCut32 t
  simp [cn, h]

theorem run_narrow {P : Program} (w : World) (src dst : TypeId) (hs : (P.underlying src).isSome = true) (hd : P.underlying dst = some (.float .f32)) (b : Nat) (hf : fits (cn .f64 b)) :
    ∃ r w', (convert src dst (.float .f64 b)).run P w = .ok (.float .f32 r) w' ∧ (∃ n, w' = w.drewN n) ∧ cn .f32 r = narrow (cn .f64 b) := by
  obtain ⟨u, hs'⟩ := Option.isSome_iff_exists.1 hs
  cases hc : cn .f64 b with
  | none =>
    obtain ⟨s, t, hdec⟩ := cn_none hc
    refine ⟨(Question.nanConv .f32 b).cut (w.tape w.drawn (.nanConv .f32 b)), w.drew, ?_, ⟨1, rfl⟩, nanConv32_cn b _⟩
    cases u <;> simp [convert, run_underlying hs', run_underlying hd, Conv.floatToFloat, hdec, Question.forced] <;> rfl
  | some b' =>
    obtain ⟨rfl, hn⟩ := cn_some hc
    have hm := hf b hc
    cases hdec : FloatKind.f64.decode b with
    | nan s t => rw [hdec] at hn; simp [Ieee.Datum.isNaN] at hn
    | infinity s =>
      refine ⟨FloatKind.f32.encode (.infinity s), w, ?_, ⟨0, rfl⟩, ?_⟩
      · cases u <;> simp [convert, run_underlying hs', run_underlying hd, Conv.floatToFloat, hdec]
      · simp [narrow, hdec]; exact cn_write .f32 (.infinity s) rfl
    | number s m e =>
      rw [hdec] at hm
      have hf := narrow_fits hm
      refine ⟨FloatKind.f32.encode (.number s m e), w, ?_, ⟨0, rfl⟩, ?_⟩
      · cases u <;> simp [convert, run_underlying hs', run_underlying hd, Conv.floatToFloat, hdec, hf]
      · simp [narrow, hdec]; exact cn_write .f32 (.number s m e) rfl

theorem wpl_narrow {P : Program} {w : World} {ops : Array Oper} {rest : List Oper} {o : Oper} {ac : Act} {Q : Exit → Act → World → Prop}
    (hw : Region.wanted o (yielded ops ac.tmps) = true) (src dst : TypeId) (x : Operand) (hop : o.op = .convert src dst x) (hs : (P.underlying src).isSome = true) (hd : P.underlying dst = some (.float .f32)) (b : Nat)
    (hx : ac.eval x = .float .f64 b) (hf : fits (cn .f64 b))
    (hK : ∀ r w', (∃ n, w' = w.drewN n) → cn .f32 r = narrow (cn .f64 b) → wpList P ops Q rest (ac.put o.dst (.float .f32 r)) w') : wpList P ops Q (o :: rest) ac w := by
  obtain ⟨r, w', hru, hn, hc⟩ := run_narrow (P := P) w src dst hs hd b hf
  unfold wpList
  rw [if_pos hw]
  left
  unfold Oper.wp execOp
  simp only [hop, Sem.run_bind, Sem.run_pure, Result.andThen_ok, hx, hru]
  exact hK r w' hn hc

theorem root_nan {q : Nat} {d r : Ieee.Datum} (h : d.root q = some r) : d.isNaN = false ∧ r.isNaN = false := by
  cases d with
  | nan s t => simp [Ieee.Datum.root] at h
  | infinity s =>
    simp only [Ieee.Datum.root] at h
    split at h
    · simp at h
    · simp at h; subst h; exact ⟨rfl, rfl⟩
  | number s m i =>
    refine ⟨rfl, ?_⟩
    simp only [Ieee.Datum.root] at h
    split at h
    · simp at h; subst h; rfl
    · split at h
      · simp at h
      · simp only [Option.some.injEq] at h; subst h; rfl

/-- The root of a float32 fits a float32. -/
theorem sqrt_fits (b : Nat) : fits (fsqrt (widen (cn .f32 b))) := by
  intro r hr
  unfold fsqrt widen at hr
  cases hc : cn .f32 b with
  | none => rw [hc] at hr; simp at hr
  | some b' =>
    obtain ⟨rfl, hn⟩ := cn_some hc
    rw [hc] at hr
    simp only [Option.map_some, Option.bind_some] at hr
    unfold Ieee.Format.sqrt at hr
    simp only [Option.map_eq_some_iff] at hr
    obtain ⟨d, hd, rfl⟩ := hr
    have hw : mag (FloatKind.f64.decode (FloatKind.f64.encode (FloatKind.f32.decode b))) 128 := by
      cases hdec : FloatKind.f32.decode b with
      | nan s t => rw [hdec] at hn; simp [Ieee.Datum.isNaN] at hn
      | infinity s => cases s <;> trivial
      | number s m e =>
        obtain ⟨hm, he1, he2⟩ := read32_bd b hdec
        have : mag (.number s m e) 127 := by
          by_cases h0 : m = 0
          · exact .inl h0
          · have := log2_lt24 h0 hm
            exact .inr (by omega)
        exact enc64_mag this (by omega)
    rcases root_mag _ hw hd with h | ⟨s, e, rfl⟩
    · cases d with
      | nan s t => have := (root_nan hd).2; simp [Ieee.Datum.isNaN] at this
      | infinity s => cases s <;> trivial
      | number s m e => exact mag_mono (enc64_mag (B := 64) h (by omega)) (by omega)
    · exact mag_mono (enc64_mag (s := s) (m := 0) (e := e) (B := 64) (.inl rfl) (by omega)) (by omega)

end Go.Proofs.Ytofbnddmahjanaa
