/- FnWindows: three decays side by side: that of all, and two that have each second number (plain). impl.SameNumber and SameDecay of equal ones, PutDecay where all are numbers: walked. -/
import Derived.Test.YtncbkbfkdgggkaaQWn27
import Derived.Test.YtncbkbfkdgggkaaQWn41
import Derived.Test.YtncbkbfkdgggkaaQWn35
import Derived.Test.YtncbkbfkdgggkaaQWn2
import Derived.Laws.Externs
import Derived.Deep.Cut
namespace Go.Proofs.Ytncbkbfkdgggkaa
open Go.RowKit

theorem sum_comm {s t : Bool} {m n : Nat} {i j : Int} : (Ieee.Datum.number s m i).sum (.number t n j) = (Ieee.Datum.number t n j).sum (.number s m i) := by
  show some (Ieee.Datum.number (if Ieee.signed s m (i - min i j).toNat + Ieee.signed t n (j - min i j).toNat = 0 then s && t else decide (Ieee.signed s m (i - min i j).toNat + Ieee.signed t n (j - min i j).toNat < 0)) (Ieee.signed s m (i - min i j).toNat + Ieee.signed t n (j - min i j).toNat).natAbs (min i j)) = some (Ieee.Datum.number (if Ieee.signed t n (j - min j i).toNat + Ieee.signed s m (i - min j i).toNat = 0 then t && s else decide (Ieee.signed t n (j - min j i).toNat + Ieee.signed s m (i - min j i).toNat < 0)) (Ieee.signed t n (j - min j i).toNat + Ieee.signed s m (i - min j i).toNat).natAbs (min j i))
  rw [Int.min_comm j i, Int.add_comm (Ieee.signed t n _), Bool.and_comm t s]
theorem add_comm32 {a b : Nat} (ha : isN .f32 a) (hb : isN .f32 b) : fbin .add .f32 (some a) (some b) = fbin .add .f32 (some b) (some a) := by
  obtain ⟨s, m, i, h1⟩ := ha
  obtain ⟨t, n, j, h2⟩ := hb
  show floatBits .add .f32 a b = floatBits .add .f32 b a
  unfold floatBits Ieee.Format.add
  simp only [dec_fmt, h1, h2]
  rw [sum_comm]
theorem fo3_comm {a b : Nat} (ha : isN .f32 a) (hb : isN .f32 b) : fo3 .add a b = fo3 .add b a := by
  unfold fo3; rw [add_comm32 ha hb]

/-- The half is a number above 0. -/
theorem halfN_all : (List.range 16).all (fun v => isNB .f32 (halfF v)) = true := by decide +kernel
theorem half0_all : (List.range 16).all (fun v => FloatKind.f32.format.order (halfF v) 0 == some .gt) = true := by decide +kernel
theorem halfS_all : (List.range 16).all (fun v => FloatKind.f32.format.order (halfF v) (halfF v) == some .eq) = true := by decide +kernel
theorem half_a {v : Nat} (hm : v ∈ List.range 16) : isNB .f32 (halfF v) = true := List.all_eq_true.1 halfN_all v hm
theorem half_b {v : Nat} (hm : v ∈ List.range 16) : (FloatKind.f32.format.order (halfF v) 0 == some .gt) = true := List.all_eq_true.1 half0_all v hm
theorem half_c {x : Nat} (a : isNB .f32 x = true) : isN .f32 x := isN_of a
theorem half_d {x : Nat} (a : (FloatKind.f32.format.order x 0 == some .gt) = true) : FloatKind.f32.format.order x 0 = some .gt := by simpa using a
theorem half_e {v : Nat} (hm : v ∈ List.range 16) : (FloatKind.f32.format.order (halfF v) (halfF v) == some .eq) = true := List.all_eq_true.1 halfS_all v hm
theorem half_f {x : Nat} (a : (FloatKind.f32.format.order x x == some .eq) = true) : FloatKind.f32.format.order x x = some .eq := by simpa using a
theorem half_ok {v : Nat} (hv : v < 16) : isN .f32 (halfF v) ∧ FloatKind.f32.format.order (halfF v) 0 = some .gt ∧ FloatKind.f32.format.order (halfF v) (halfF v) = some .eq := 
  ⟨half_c (half_a (List.mem_range.2 hv)), half_d (half_b (List.mem_range.2 hv)), half_f (half_e (List.mem_range.2 hv))⟩
theorem half_dec {v S : Nat} {M : Int} (hv : v < 16) (hS : isN .f32 S) (h0 : 0 ≤ M ∧ M ≤ 1000000) : decB (halfF v) S M = true := by
  obtain ⟨h1, h2, _⟩ := half_ok hv
  unfold decB
  rw [cnN h1, cnN hS, finN h1, finN hS, h2, (inR_eq _ _ _).2 h0]
  rfl
theorem at_val {v S d : Nat} {M t : Int} {T E : Rat} (hv : v < 16) (h : Apx S T E) (hE : E ≤ 1) (hE0 : 0 ≤ E) (h0 : 0 ≤ M ∧ M ≤ t) (ht : t ≤ 1000000) (hd : t - M = (d : Int)) (hd2 : d < 168) :
    atB (halfF v) S M t = true ∧ atP (halfF v) S M t = some (fo3 .mul S (exF v d)) ∧ atO (halfF v) S M t = some (fo3 .mul S (exF v d)) ∧ fin .f32 (atP (halfF v) S M t) = true ∧ Apx (fo3 .mul S (exF v d)) (T * exP v d) (E + 1 / 40000) := by
  obtain ⟨e, A⟩ := at_apx hv hd2 h hE hE0
  have X := ex_ok hv hd2
  have hb : atB (halfF v) S M t = true := by
    unfold atB
    rw [half_dec hv h.N ⟨h0.1, by omega⟩, (inR_eq _ _ _).2 ⟨by omega, ht⟩, decide_eq_true h0.2]
    rfl
  have hp : atP (halfF v) S M t = some (fo3 .mul S (exF v d)) := by
    unfold atP
    rw [hd]
    have e2 := X.e
    cases hq : expQ (d : Int) (halfF v) with
    | none => rw [hq] at e2; cases e2
    | some q =>
      rw [hq] at e2
      show fbin .mul .f32 (cn .f32 S) (expO q) = _
      rw [cnN h.N, show expO q = some (exF v d) from e2, e]
  have hf : fin .f32 (atP (halfF v) S M t) = true := by rw [hp]; exact finN A.N
  refine ⟨hb, hp, ?_, hf, A⟩
  unfold atO
  rw [if_pos hb]
  unfold ifFin
  rw [hf, if_pos rfl, hp]

/-- One put. -/
def putS (v S d x : Nat) : Nat := fo3 .add (fo3 .mul S (exF v d)) x
theorem put_apx {v S d x : Nat} {T E : Rat} (hv : v < 16) (h : Apx S T E) (hE : E + 1 / 20000 ≤ 1) (hE0 : 0 ≤ E) (hd2 : d < 168) (hx : isN .f32 x) (hx0 : 0 ≤ val .f32 x) (ht : T + val .f32 x ≤ 120) :
    fbin .add .f32 (some (fo3 .mul S (exF v d))) (some x) = some (putS v S d x) ∧ Apx (putS v S d x) (T * exP v d + val .f32 x) (E + 1 / 20000) := by
  obtain ⟨_, A⟩ := at_apx hv hd2 h (by grind) hE0
  obtain ⟨p0, p1⟩ := exP_bd hv d
  have q := Rat.mul_le_mul_of_nonneg_left p1 h.t0
  obtain ⟨e, B⟩ := add_apx A hx hx0 (by grind) (by grind) (by grind)
  refine ⟨e, ?_⟩
  have : E + 1 / 20000 = E + 1 / 40000 + 1 / 40000 := by grind
  rw [this]; exact B

/-- All, and two parts, up to i of them and a time t. -/
structure Dc3 (v i : Nat) (t : Int) (Sc Sa : Nat) (Ma : Int) (Sb : Nat) (Mb : Int) (T A B : Rat) : Prop where
  c : Apx Sc T ((i : Rat) * (1 / 20000))
  a : Apx Sa A ((i : Rat) * (1 / 20000))
  b : Apx Sb B ((i : Rat) * (1 / 20000))
  ma : 0 ≤ Ma ∧ Ma ≤ t
  mb : 0 ≤ Mb ∧ Mb ≤ t
  one : Ma = t ∨ Mb = t
  sum : T = A * exP v (t - Ma).toNat + B * exP v (t - Mb).toNat
  le : A + B ≤ (i : Rat) * 4
  leT : T ≤ (i : Rat) * 4
theorem Dc3.swap {v i : Nat} {t : Int} {Sc Sa : Nat} {Ma : Int} {Sb : Nat} {Mb : Int} {T A B : Rat} (h : Dc3 v i t Sc Sa Ma Sb Mb T A B) : Dc3 v i t Sc Sb Mb Sa Ma T B A :=
  ⟨h.c, h.b, h.a, h.mb, h.ma, h.one.symm, by rw [h.sum, Rat.add_comm], by have := h.le; grind, h.leT⟩
theorem Apx.mono {S : Nat} {T E F : Rat} (h : Apx S T E) (hl : E ≤ F) : Apx S T F := ⟨h.N, h.n0, h.t0, h.t1, by have := h.lo; grind, by have := h.hi; grind⟩
theorem n_zero32 : isN .f32 0 := isN_of (by decide +kernel)
theorem apx_0 : Apx 0 0 ((0 : Nat) * (1 / 20000)) := ⟨n_zero32, by decide +kernel, by decide +kernel, by decide +kernel, by decide +kernel, by decide +kernel⟩
theorem dc3_start {v : Nat} {t : Int} (h0 : 0 ≤ t) : Dc3 v 0 t 0 0 t 0 t 0 0 0 :=
  ⟨apx_0, apx_0, apx_0, ⟨h0, Int.le_refl _⟩, ⟨h0, Int.le_refl _⟩, .inl rfl, by rw [Rat.zero_mul, Rat.zero_add], by decide +kernel, by decide +kernel⟩
theorem natR_succ (i : Nat) : ((i + 1 : Nat) : Rat) = (i : Rat) + 1 := by rw [Rat.natCast_add]; rfl
theorem natR_le {i n : Nat} (h : i ≤ n) : (i : Rat) ≤ (n : Rat) := Rat.natCast_le_natCast.2 h
theorem natR_0 (i : Nat) : (0 : Rat) ≤ (i : Rat) := Rat.natCast_nonneg
/-- What a put needs and gives. -/
structure PutOk (v S : Nat) (M t : Int) (x r : Nat) : Prop where
  late : (atB (halfF v) S M t && fin .f32 (atP (halfF v) S M t)) = true
  at_ : ∃ y, atO (halfF v) S M t = some y ∧ isN .f32 y ∧ fbin .add .f32 (some y) (some x) = some r
  N : isN .f32 r
  dec : decB (halfF v) r t = true
theorem put_ok {v S x : Nat} {M t : Int} {T E : Rat} (hv : v < 16) (h : Apx S T E) (hE : E + 1 / 20000 ≤ 1) (hE0 : 0 ≤ E) (h0 : 0 ≤ M ∧ M ≤ t) (ht : t < 168) (hx : isN .f32 x) (hx0 : 0 ≤ val .f32 x) (hT : T + val .f32 x ≤ 120) :
    PutOk v S M t x (putS v S (t - M).toNat x) ∧ Apx (putS v S (t - M).toNat x) (T * exP v (t - M).toNat + val .f32 x) (E + 1 / 20000) := by
  obtain ⟨a1, a2, a3, a4, a5⟩ := at_val (d := (t - M).toNat) hv h (by grind) hE0 h0 (by omega) (by omega) (by omega)
  obtain ⟨e, A⟩ := put_apx (d := (t - M).toNat) hv h hE hE0 (by omega) hx hx0 hT
  exact ⟨⟨by rw [a1, a4]; rfl, ⟨_, a3, a5.N, e⟩, A.N, half_dec hv A.N ⟨by omega, by omega⟩⟩, A⟩
/-- The first part has one more. -/
theorem dc3_put {v i : Nat} {t t2 : Int} {Sc Sa : Nat} {Ma : Int} {Sb : Nat} {Mb : Int} {T A B : Rat} {x : Nat} (hv : v < 16) (h : Dc3 v i t Sc Sa Ma Sb Mb T A B) (hi : i < 30) (htt : t ≤ t2) (ht : t2 < 168) (hx : isN .f32 x) (hx0 : 0 ≤ val .f32 x) (hx4 : val .f32 x ≤ 4) :
    PutOk v Sc t t2 x (putS v Sc (t2 - t).toNat x) ∧ PutOk v Sa Ma t2 x (putS v Sa (t2 - Ma).toNat x) ∧
    ∃ T2 A2, Dc3 v (i + 1) t2 (putS v Sc (t2 - t).toNat x) (putS v Sa (t2 - Ma).toNat x) t2 Sb Mb T2 A2 B := by
  have hi1 := natR_le (show i ≤ 29 by omega)
  have e29 : ((29 : Nat) : Rat) = 29 := rfl
  rw [e29] at hi1
  have hi0 := natR_0 i
  have hle := h.le
  have hleT := h.leT
  have a0 := h.a.t0
  have b0 := h.b.t0
  have c0 := h.c.t0
  have hs := natR_succ i
  have hh := h.sum
  obtain ⟨p1, A1⟩ := put_ok (M := t) (t := t2) hv h.c (by grind) (by grind) ⟨by have := h.ma; omega, htt⟩ ht hx hx0 (by grind)
  obtain ⟨p2, A2⟩ := put_ok (M := Ma) (t := t2) hv h.a (by grind) (by grind) ⟨h.ma.1, by have := h.ma; omega⟩ ht hx hx0 (by grind)
  refine ⟨p1, p2, T * exP v (t2 - t).toNat + val .f32 x, A * exP v (t2 - Ma).toNat + val .f32 x, ?_⟩
  have eE : ((i + 1 : Nat) : Rat) * (1 / 20000) = (i : Rat) * (1 / 20000) + 1 / 20000 := by rw [hs]; grind
  have pa := exP_bd hv (t2 - Ma).toNat
  have pc := exP_bd hv (t2 - t).toNat
  have ma := Rat.mul_le_mul_of_nonneg_left pa.2 a0
  have mc := Rat.mul_le_mul_of_nonneg_left pc.2 c0
  have ga : (t2 - Ma).toNat = (t - Ma).toNat + (t2 - t).toNat := by have := h.ma; omega
  have gb : (t2 - Mb).toNat = (t - Mb).toNat + (t2 - t).toNat := by have := h.mb; omega
  have g0 : (t2 - t2).toNat = 0 := by omega
  refine ⟨by rw [eE]; exact A1, by rw [eE]; exact A2, h.b.mono (by rw [eE]; grind), ⟨by have := h.ma; omega, Int.le_refl _⟩, ⟨h.mb.1, by have := h.mb; omega⟩, .inl rfl, ?_, by rw [hs]; grind, by rw [hs]; grind⟩
  rw [hh, ga, gb, g0, exP_add, exP_add, exP_0]
  grind

/-- The end: the parts joined, and told later on. -/
structure DcE (v : Nat) (t : Int) (Sc Sa : Nat) (Ma : Int) (Sb : Nat) (Mb : Int) (X s r : Nat) : Prop where
  okab : jOk (halfF v) Sa Ma (halfF v) Sb Mb t = true
  okba : jOk (halfF v) Sb Mb (halfF v) Sa Ma t = true
  sab : jS (halfF v) Sa Ma (halfF v) Sb Mb t = some X
  sba : jS (halfF v) Sb Mb (halfF v) Sa Ma t = some X
  XN : isN .f32 X
  XX : fbin .add .f32 (some X) (some X) = some (fo3 .add X X) ∧ isN .f32 (fo3 .add X X)
  dec : decB (halfF v) X t = true
  lc : (atB (halfF v) Sc t (t + 7) && fin .f32 (atP (halfF v) Sc t (t + 7))) = true
  oc : atO (halfF v) Sc t (t + 7) = some s
  lx : (atB (halfF v) X t (t + 7) && fin .f32 (atP (halfF v) X t (t + 7))) = true
  ox : atO (halfF v) X t (t + 7) = some r
  sN : isN .f32 s
  rN : isN .f32 r
  s0 : 0 ≤ val .f32 s
  s1 : val .f32 s ≤ 128
  near1 : val .f32 s - val .f32 r ≤ 5 / 1000
  near2 : -(5 / 1000) ≤ val .f32 s - val .f32 r
theorem dc3_end {v i : Nat} {t : Int} {Sc Sa : Nat} {Ma : Int} {Sb : Nat} {Mb : Int} {T A B : Rat} (hv : v < 16) (h : Dc3 v i t Sc Sa Ma Sb Mb T A B) (hi : i ≤ 30) (ht : t + 7 < 168) : ∃ X s r, DcE v t Sc Sa Ma Sb Mb X s r := by
  have hi1 := natR_le hi
  have e30 : ((30 : Nat) : Rat) = 30 := rfl
  rw [e30] at hi1
  have hi0 := natR_0 i
  have hleT := h.leT
  have hsum := h.sum
  obtain ⟨a1, a2, a3, a4, a5⟩ := at_val (t := t) (d := (t - Ma).toNat) hv h.a (by grind) (by grind) h.ma (by omega) (by have := h.ma; omega) (by have := h.ma; omega)
  obtain ⟨b1, b2, b3, b4, b5⟩ := at_val (t := t) (d := (t - Mb).toNat) hv h.b (by grind) (by grind) h.mb (by omega) (by have := h.mb; omega) (by have := h.mb; omega)
  have h0t : 0 ≤ t := by have := h.ma; omega
  obtain ⟨e, X1⟩ := join_apx a5 b5 (by grind) (by grind) (by grind)
  have hcm := add_comm32 a5.N b5.N
  obtain ⟨x1, x2, x3, x4, x5⟩ := at_val (v := v) (M := t) (t := t + 7) (d := 7) hv X1 (by grind) (by grind) ⟨h0t, by omega⟩ (by omega) (by omega) (by omega)
  obtain ⟨c1, c2, c3, c4, c5⟩ := at_val (M := t) (t := t + 7) (d := 7) hv h.c (by grind) (by grind) ⟨h0t, by omega⟩ (by omega) (by omega) (by omega)
  rw [← hsum] at x5
  have xx := fo3_add X1.N X1.N (by have := X1.n0; grind) (by have := X1.hi; have := X1.t1; grind)
  have hdec := half_dec hv X1.N ⟨h0t, show t ≤ 1000000 by omega⟩
  obtain ⟨h1, h2, h3⟩ := half_ok hv
  have hjs : jS (halfF v) Sa Ma (halfF v) Sb Mb t = some (fo3 .add (fo3 .mul Sa (exF v (t - Ma).toNat)) (fo3 .mul Sb (exF v (t - Mb).toNat))) := by unfold jS; rw [a3, b3, e]
  have hjs2 : jS (halfF v) Sb Mb (halfF v) Sa Ma t = some (fo3 .add (fo3 .mul Sa (exF v (t - Ma).toNat)) (fo3 .mul Sb (exF v (t - Mb).toNat))) := by unfold jS; rw [a3, b3, ← hcm, e]
  have hda := half_dec hv h.a.N ⟨h.ma.1, show Ma ≤ 1000000 by have := h.ma; omega⟩
  have hdb := half_dec hv h.b.N ⟨h.mb.1, show Mb ≤ 1000000 by have := h.mb; omega⟩
  have hdo : decO (halfF v) (some (fo3 .add (fo3 .mul Sa (exF v (t - Ma).toNat)) (fo3 .mul Sb (exF v (t - Mb).toNat)))) t = true := by
    have := hdec
    rw [decB_O, cnN X1.N] at this
    exact this
  refine ⟨_, _, _, ⟨?_, ?_, hjs, hjs2, X1.N, ⟨xx.1, xx.2.1⟩, hdec, by rw [c1, c4]; rfl, c3, by rw [x1, x4]; rfl, x3, c5.N, x5.N, c5.n0, ?_, ?_, ?_⟩⟩
  · unfold jOk jA jOn
    rw [hjs, hda, hdb, h3, a1, a4, b1, b4, hdo]; rfl
  · unfold jOk jA jOn
    rw [hjs2, hda, hdb, h3, a1, a4, b1, b4, hdo]; rfl
  · have := c5.hi; have := c5.t1; grind
  · have := c5.hi; have := x5.lo; grind
  · have := c5.lo; have := x5.hi; grind

/-- The test at the end, in double precision. -/
def cHun : Nat := 4576918229304087675
def cOne64 : Nat := 4607182418800017408
theorem n_hun : isN .f64 cHun := isN_of (by decide +kernel)
theorem v_hun : 99 / 10000 < val .f64 cHun ∧ val .f64 cHun < 101 / 10000 := by decide +kernel
theorem n_one64 : isN .f64 cOne64 := isN_of (by decide +kernel)
theorem v_one64 : val .f64 cOne64 = 1 := by decide +kernel
structure DcT (s r : Nat) : Prop where
  ws : floatToFloatBits .f32 s .f64 = some (wid s)
  wr : floatToFloatBits .f32 r .f64 = some (wid r)
  gap : GapOk (wid s) (wid r)
  one : fbin .add .f64 (some cOne64) (some (wid s)) = some (fo .add cOne64 (wid s))
  mul : fbin .mul .f64 (some cHun) (some (fo .add cOne64 (wid s))) = some (fo .mul cHun (fo .add cOne64 (wid s)))
  lt : FloatKind.f64.format.order (gapF (wid s) (wid r)) (fo .mul cHun (fo .add cOne64 (wid s))) = some .lt
theorem dct_of {s r : Nat} (sN : isN .f32 s) (rN : isN .f32 r) (s0 : 0 ≤ val .f32 s) (s1 : val .f32 s ≤ 128) (n1 : val .f32 s - val .f32 r ≤ 5 / 1000) (n2 : -(5 / 1000) ≤ val .f32 s - val .f32 r) : DcT s r := by
  obtain ⟨N1, v1, w1⟩ := wid_val sN
  obtain ⟨N2, v2, w2⟩ := wid_val rN
  have g := gap_ok N1 N2 (by rw [v1, v2]; grind) (by rw [v1, v2]; grind)
  have a := fo_add n_one64 N1 (by rw [v1, v_one64]; grind) (by rw [v1, v_one64]; grind)
  have ha1 : 1 ≤ val .f64 (fo .add cOne64 (wid s)) := by
    refine a.2.2.dn 1 ?_ (by rw [v1, v_one64]; grind)
    exact ⟨1, 0, by decide, by decide, by decide +kernel⟩
  have ha2 : val .f64 (fo .add cOne64 (wid s)) ≤ 512 := by
    refine a.2.2.up 512 ?_ (by rw [v1, v_one64]; grind)
    exact ⟨512, 0, by decide, by decide, by decide +kernel⟩
  obtain ⟨c1, c2⟩ := v_hun
  have q1 := Rat.mul_le_mul_of_nonneg_left ha1 (show 0 ≤ val .f64 cHun by grind)
  have q2 := Rat.mul_le_mul_of_nonneg_left ha2 (show 0 ≤ val .f64 cHun by grind)
  have m := fo_mul n_hun a.2.1 (by grind) (by grind)
  have hm := m.2.2.near64 (by grind) (by grind)
  have d := fo_sub N1 N2 (by rw [v1, v2]; grind) (by rw [v1, v2]; grind)
  have e := fo_sub N2 N1 (by rw [v1, v2]; grind) (by rw [v1, v2]; grind)
  have nd := d.2.2.near64 (by rw [v1, v2]; grind) (by rw [v1, v2]; grind)
  have ne := e.2.2.near64 (by rw [v1, v2]; grind) (by rw [v1, v2]; grind)
  rw [v1, v2] at nd ne
  refine ⟨w1, w2, g, a.1, m.1, ?_⟩
  generalize hs6 : wid s = s6 at *
  generalize hr6 : wid r = r6 at *
  rcases gapF_cases s6 r6 with h | h
  · rw [h]; exact (ord_is e.2.1 m.2.1).1 (by grind)
  · rw [h]; exact (ord_is d.2.1 m.2.1).1 (by grind)

/-- Eight is eight after no time. -/
def cEight : Nat := 1090519040
def eightB (v : Nat) : Bool := (atO (halfF v) cEight 3 3 == some cEight) && (atB (halfF v) cEight 3 3 && fin .f32 (atP (halfF v) cEight 3 3))
theorem eight_all : (List.range 16).all eightB = true := by decide +kernel
theorem eight_ok {v : Nat} (hv : v < 16) : atO (halfF v) cEight 3 3 = some cEight ∧ (atB (halfF v) cEight 3 3 && fin .f32 (atP (halfF v) cEight 3 3)) = true := by
  have h := List.all_eq_true.1 eight_all v (List.mem_range.2 hv)
  unfold eightB at h
  rw [Bool.and_eq_true, beq_iff_eq] at h
  exact h

/-- The numbers that are put. -/
def halfX (z : Nat) : Nat := fo3 .quo (floatOfInt .f32 (z : Int)) 1073741824
def halfXB (z : Nat) : Bool := isNB .f32 (halfX z) && decide (0 ≤ val .f32 (halfX z)) && decide (val .f32 (halfX z) ≤ 4) && (fbin .quo .f32 (some (floatOfInt .f32 (z : Int))) (some 1073741824) == some (halfX z))
theorem halfX_all : (List.range 9).all halfXB = true := by decide +kernel
theorem halfX_ok {z : Nat} (hz : z < 9) : isN .f32 (halfX z) ∧ 0 ≤ val .f32 (halfX z) ∧ val .f32 (halfX z) ≤ 4 ∧ fbin .quo .f32 (some (floatOfInt .f32 (z : Int))) (some 1073741824) = some (halfX z) := by
  have h := List.all_eq_true.1 halfX_all z (List.mem_range.2 hz)
  unfold halfXB at h
  simp only [Bool.and_eq_true, decide_eq_true_eq, beq_iff_eq] at h
  exact ⟨isN_of h.1.1.1, h.1.1.2, h.1.2, h.2⟩
def halfFB (v : Nat) : Bool := fbin .quo .f32 (some (floatOfInt .f32 ((v : Int) + 1))) (some 1073741824) == some (halfF v)
theorem halfF_all : (List.range 16).all halfFB = true := by decide +kernel
theorem halfF_ok {v : Nat} (hv : v < 16) : fbin .quo .f32 (some (floatOfInt .f32 ((v : Int) + 1))) (some 1073741824) = some (halfF v) := by
  have h := List.all_eq_true.1 halfF_all v (List.mem_range.2 hv)
  unfold halfFB at h
  rw [beq_iff_eq] at h
  exact h

end Go.Proofs.Ytncbkbfkdgggkaa

namespace Go.Proofs.Ytncbkbfkdgggkaa
open Go.RowKit
attribute [local go_sem ↓] Go.wp_at_zero Go.wp_at_succ

theorem ar3w {op : BinOp} {a b r : Nat} (h : fbin op .f32 (some a) (some b) = some r) (t : TypeId) (w : World) : (binOp op t (.float .f32 a) (.float .f32 b)).run Try.prog w = .ok (.float .f32 r) w := run_float_arith w op t .f32 a b r h
theorem ord_self {k : FloatKind} {x : Nat} (h : isN k x) : k.format.order x x = some .eq := by
  have h1 := order_val h h
  rw [if_neg (by grind), if_pos rfl] at h1
  exact h1
theorem signbit_any {x : Nat} {w : World} : Calls Try.prog 41 #[.float .f64 x] w fun e w' => e = .returned (.bool (decide (wrap64 (x : Int) < 0))) ∧ w = w' := by
  have h1 : ∀ w' : World, (callFunc 46 #[.float .f64 x]).run Try.prog w' = .ok (.value (.int .u64 (x : Int))) w' := fun w' => by
    rw [run_callFunc_extern Try.func46 (by kernel_rfl) (by kernel_rfl) (by kernel_rfl) (e := Extern.MathFloatBits.float64bits) (by kernel_rfl)]; rfl
  go_enter Try.func41, Try.ntmps41
  go_wp2
  go_ret
  exact ⟨rfl, rfl⟩
set_option maxHeartbeats 1000000 in
theorem sameNumI_any {x : Nat} {w : World} (hN : isN .f32 x) : Calls Try.prog 33 #[.float .f32 x, .float .f32 x] w fun e w' => e = .returned (.bool true) ∧ w = w' := by
  have h := ord_self hN
  have cv := fun w' : World => run_convert_float_float (P := Try.prog) w' 39 49 .f32 .f64 x _ und_f32 und_f64 (wid_val hN).2.2
  generalize wid x = y at cv
  have HB := Lib.hid (fun w : World => signbit_any (x := y) (w := w))
  generalize decide (wrap64 (y : Int) < 0) = b at HB
  have hbb : (b == b) = true := by simp
  have hxx : (b ^^ b) = false := by simp
  clear hN
  go_enter Try.func33, Try.ntmps33
  go_wp2_with fail
  refine (HB.out _).mono ?_
  rintro e w1 ⟨rfl, rfl⟩
  go_wp2_with fail
  refine (HB.out _).mono ?_
  rintro e w1 ⟨rfl, rfl⟩
  go_wp2
  go_ret
  exact ⟨rfl, rfl⟩

set_option maxHeartbeats 1000000 in
theorem sameDecay_any {H S : Nat} {M : Int} {w : World} (hH : isN .f32 H) (hS : isN .f32 S) :
    Calls Try.prog 17 #[.agg #[.float .f32 H, .float .f32 S, .int .i64 M], .agg #[.float .f32 H, .float .f32 S, .int .i64 M]] w fun e w' => e = .returned (.bool true) ∧ Below w.heap.size w w' := by
  have hB1 : Below w.heap.size w (w.alloc (.cells (dcV H S M) 41)) := (Below.refl _ _).alloc (Nat.le_refl _) _
  have B0 := Lib.hid (hB1.alloc (by simp) (.cells (dcV H S M) 41))
  have I0 : Hid (Blk ((w.alloc (.cells (dcV H S M) 41)).alloc (.cells (dcV H S M) 41)) w.heap.size (dcV H S M) 41) := Lib.hid ((Blk.new _ _ _).alloc _)
  have J0 : Hid (Blk ((w.alloc (.cells (dcV H S M) 41)).alloc (.cells (dcV H S M) 41)) (w.heap.size + 1) (dcV H S M) 41) := Lib.hid (Blk.new' (by simp))
  clear hB1
  have h1 := Lib.hid (fun w : World => sameNumI_any (w := w) hH)
  have h2 := Lib.hid (fun w : World => sameNumI_any (w := w) hS)
  clear hH hS
  go_enter Try.func17, Try.ntmps17
  go_upto_region 1 with (fail)
  change Code.wp _ _ _ _ ((w.alloc (.cells (dcV H S M) 41)).alloc (.cells (dcV H S M) 41))
  generalize ((w.alloc (.cells (dcV H S M) 41)).alloc (.cells (dcV H S M) 41)) = w0 at B0 I0 J0 ⊢
  have i0 := I0.out.cell (i := 0) (v := .float .f32 H) rfl
  have i1 := I0.out.cell (i := 1) (v := .float .f32 S) rfl
  have i2 := I0.out.cell (i := 2) (v := .int .i64 M) rfl
  have j0 := J0.out.cell (i := 0) (v := .float .f32 H) rfl
  have j1 := J0.out.cell (i := 1) (v := .float .f32 S) rfl
  have j2 := J0.out.cell (i := 2) (v := .int .i64 M) rfl
  go_wp2_with fail
  refine (h1.out _).mono ?_
  rintro e w1 ⟨rfl, rfl⟩
  go_wp2_with fail
  refine (h2.out _).mono ?_
  rintro e w1 ⟨rfl, rfl⟩
  go_wp2
  go_ret
  exact ⟨rfl, B0.out⟩

set_option maxRecDepth 20000 in
set_option maxHeartbeats 2000000 in
theorem putDecay_any {v S x r : Nat} {M t : Int} {w : World} (h : PutOk v S M t x r) (hx : isN .f32 x) (ht : -9223372036854775808 ≤ t ∧ t ≤ 9223372036854775807) :
    Calls Try.prog 13 #[.agg #[.float .f32 (halfF v), .float .f32 S, .int .i64 M], .int .i64 t, .float .f32 x] w fun e w' => e = .returned (.tuple #[.agg #[.float .f32 (halfF v), .float .f32 r, .int .i64 t], .bool true]) ∧ Below w.heap.size w w' := by
  obtain ⟨y, hy, yN, hxy⟩ := h.at_
  have hfx : fin .f32 (cn .f32 x) = true := by rw [cnN hx]; exact finN hx
  have ha := ar3w hxy 39
  have HAT : Hid (∀ w : World, Calls Try.prog 15 #[.agg #[.float .f32 (halfF v), .float .f32 S, .int .i64 M], .int .i64 t] w fun e w' => e = .returned (.tuple #[.float .f32 y, .bool true]) ∧ Below w.heap.size w w') := Lib.hid (fun w => (implAt_any ht).mono (fun e w' h2 => by
    obtain ⟨r2, he, hr2, hb⟩ := h2
    rw [h.late] at he
    rw [hy] at hr2
    rw [(cn_some hr2).1] at he
    exact ⟨he, hb⟩))
  have hd := h.dec
  clear h hy hxy yN hx
  generalize halfF v = H at *
  have hB1 : Below w.heap.size w (w.alloc (.cells (dcV H S M) 41)) := (Below.refl _ _).alloc (Nat.le_refl _) _
  have B0 := Lib.hid (hB1.alloc (by simp) (.cells (dcV 0 0 0) 41))
  have I0 : Hid (Blk ((w.alloc (.cells (dcV H S M) 41)).alloc (.cells (dcV 0 0 0) 41)) w.heap.size (dcV H S M) 41) := Lib.hid ((Blk.new _ _ _).alloc _)
  have J0 : Hid (Blk ((w.alloc (.cells (dcV H S M) 41)).alloc (.cells (dcV 0 0 0) 41)) (w.heap.size + 1) (dcV 0 0 0) 41) := Lib.hid (Blk.new' (by simp))
  clear hB1
  have hle : w.heap.size ≤ w.heap.size + 1 := by omega
  have hsf := @run_store_fl Try.prog
  have HF := Lib.hid (fun w : World => isFinite_any (x := x) (w := w))
  rw [hfx] at HF
  have HI := Lib.hid (fun w : World => ifDecay_any (H := H) (S := r) (M := t) (w := w))
  rw [hd] at HI
  clear hfx hd
  go_enter Try.func13, Try.ntmps13
  go_upto_region 1 with (fail)
  change Code.wp _ _ _ _ ((w.alloc (.cells (dcV H S M) 41)).alloc (.cells (dcV 0 0 0) 41))
  generalize (w.alloc (.cells (dcV H S M) 41)).alloc (.cells (dcV 0 0 0) 41) = w0 at B0 I0 J0 ⊢
  have i0 := I0.out.cell (i := 0) (v := .float .f32 H) rfl
  have i1 := I0.out.cell (i := 1) (v := .float .f32 S) rfl
  have i2 := I0.out.cell (i := 2) (v := .int .i64 M) rfl
  go_wp2_with fail
  refine (HAT.out _).mono ?_
  rintro e w1 ⟨rfl, hb1⟩
  have B1 := Lib.hid (B0.out.trans (hb1.mono B0.out.size))
  have I1 := Lib.hid (I0.out.below hb1 (Nat.le_refl _))
  have J1 := Lib.hid (J0.out.below hb1 (Nat.le_refl _))
  clear hb1 B0 I0 J0 i0 i1 i2 HAT
  go_wp2_with fail
  refine (HF.out _).mono ?_
  rintro e w2 ⟨rfl, hb2⟩
  have B2 := Lib.hid (B1.out.trans (hb2.mono B1.out.size))
  have I2 := Lib.hid (I1.out.below hb2 (Nat.le_refl _))
  have J2 := Lib.hid (J1.out.below hb2 (Nat.le_refl _))
  clear hb2 B1 I1 J1 HF
  have i0 := I2.out.cell (i := 0) (v := .float .f32 H) rfl
  go_wp2_with fail
  refine (HI.out _).mono ?_
  rintro e w3 ⟨rfl, hb3⟩
  have B3 := Lib.hid (B2.out.trans (hb3.mono B2.out.size))
  have J3 := Lib.hid (J2.out.below hb3 (Nat.le_refl _))
  clear hb3 B2 I2 J2 HI i0
  have r0 := J3.out.cell (i := 0) (v := .float .f32 0) rfl
  have r1 := J3.out.cell (i := 1) (v := .float .f32 0) rfl
  have r2 := J3.out.cell (i := 2) (v := .int .i64 0) rfl
  have q0 := J3.out.free 0
  have q1 := J3.out.free 1
  have q2 := J3.out.free 2
  unfold dcT
  rw [if_pos rfl]
  go_wp2
  refine bodyPost_ret (v := .tuple #[.agg #[.float .f32 H, .float .f32 r, .int .i64 t], .bool true]) (by simp [results, Try.results13, go_sem, r0, r1, r2]) rfl ⟨rfl, ?_⟩
  exact ((B3.out.setCell hle _).setCell hle _).setCell hle _

theorem atD_any {H S r : Nat} {M t : Int} {w : World} (h1 : (atB H S M t && fin .f32 (atP H S M t)) = true) (h2 : atO H S M t = some r) (ht : -9223372036854775808 ≤ t ∧ t ≤ 9223372036854775807) :
    Calls Try.prog 15 #[.agg #[.float .f32 H, .float .f32 S, .int .i64 M], .int .i64 t] w fun e w' => e = .returned (.tuple #[.float .f32 r, .bool true]) ∧ Below w.heap.size w w' :=
  (implAt_any ht).mono (fun e w' h3 => by
    obtain ⟨r2, he, hr2, hb⟩ := h3
    rw [h1] at he
    rw [h2] at hr2
    rw [(cn_some hr2).1] at he
    exact ⟨he, hb⟩)
theorem joinD_any {Ha Sa Hb Sb X : Nat} {Ma Mb t : Int} {w : World} (h1 : jOk Ha Sa Ma Hb Sb Mb t = true) (h2 : jS Ha Sa Ma Hb Sb Mb t = some X) (hm : max Ma Mb = t) :
    Calls Try.prog 14 #[.agg #[.float .f32 Ha, .float .f32 Sa, .int .i64 Ma], .agg #[.float .f32 Hb, .float .f32 Sb, .int .i64 Mb]] w fun e w' => e = .returned (.tuple #[.agg #[.float .f32 Ha, .float .f32 X, .int .i64 t], .bool true]) ∧ Below w.heap.size w w' :=
  implJoinDecays_any.mono (fun e w' h3 => by
    rw [hm] at h3
    obtain ⟨r2, he, hr2, hb⟩ := h3
    rw [h1] at he
    have h4 := hr2 h1
    rw [h2] at h4
    rw [(cn_some h4).1] at he
    exact ⟨he, hb⟩)

end Go.Proofs.Ytncbkbfkdgggkaa
