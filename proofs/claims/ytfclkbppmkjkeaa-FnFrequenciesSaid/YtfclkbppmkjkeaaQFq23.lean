/- A line of a vector in both texts: walked. The points of the unit circle at r / n turns, n at most 12, in parts of 2^-40: a table. (printed by mkFrq.py). LineOf in both texts: walked. The walk of the law FnExactLineOf. Lists of complex64s: walked. LinesOf in both texts: walked. -/
import Derived.Test.YtfclkbppmkjkeaaQFq20
import Derived.Test.YtfclkbppmkjkeaaQFq5
import Derived.Test.YtfclkbppmkjkeaaQFq2
import Derived.StillTailTactics
import Derived.Deep.Cut
import Derived.Deep.CutBlock
namespace Go.Proofs.Ytfclkbppmkjkeaa
open Go.RowKit
attribute [local go_sem ↓] Go.wp_at_zero Go.wp_at_succ

theorem fin_isN {x : Nat} (h : fin .f32 (cn .f32 x) = true) : isN .f32 x ∧ cn .f32 x = some x := by
  unfold isN
  cases hd : FloatKind.f32.decode x with
  | number s m e => exact ⟨⟨s, m, e, rfl⟩, by unfold cn; rw [hd]; rfl⟩
  | infinity s =>
    have : cn .f32 x = some x := by unfold cn; rw [hd]; rfl
    rw [this] at h
    unfold fin at h
    simp only [hd] at h
    cases h
  | nan s t =>
    have : cn .f32 x = none := by unfold cn; rw [hd]; rfl
    rw [this] at h
    cases h
theorem isN_cn {k : FloatKind} {x : Nat} (h : isN k x) : cn k x = some x := by
  obtain ⟨s, m, e, hd⟩ := h
  unfold cn; rw [hd]; rfl

/-- Turns: -t / n. -/
def quoT (t n : Nat) : Nat := fo .quo (floatOfInt .f64 (t : Int)) (floatOfInt .f64 (n : Int))
def negT (t n : Nat) : Nat := Op.negFloat .f64 (quoT t n)
structure TurnsOk (t n : Nat) : Prop where
  q : fbin .quo .f64 (some (floatOfInt .f64 (t : Int))) (some (floatOfInt .f64 (n : Int))) = some (quoT t n)
  qN : isN .f64 (quoT t n)
  q0 : 0 ≤ val .f64 (quoT t n)
  q1 : val .f64 (quoT t n) ≤ 32
  qw : quoT t n < 18446744073709551616
  N : isN .f64 (negT t n)
  lo : -1024 ≤ val .f64 (negT t n)
  hi : val .f64 (negT t n) ≤ 1024
  w : negT t n < 18446744073709551616
theorem turns_ok {t n : Nat} (hn : 1 ≤ n) (hn2 : n ≤ 32) (ht : t ≤ 32 * n) : TurnsOk t n := by
  have hb : (2 : Nat) ^ (fB .f64 + 1) = 9007199254740992 := by decide
  obtain ⟨i1, i2⟩ := ofInt_val (k := .f64) (n := (t : Int)) (by rw [hb]; omega)
  obtain ⟨j1, j2⟩ := ofInt_val (k := .f64) (n := (n : Int)) (by rw [hb]; omega)
  rw [Rat.intCast_natCast] at i2 j2
  have hn1 : (1 : Rat) ≤ (n : Rat) := Rat.natCast_le_natCast.2 hn
  obtain ⟨x, hx, _⟩ := div_ex (a := (t : Rat)) (d := (n : Rat)) (by grind)
  have hx0 : 0 ≤ x := by
    refine Rat.le_of_mul_le_mul_right (c := (n : Rat)) ?_ (by grind)
    rw [hx, Rat.zero_mul]; exact Rat.natCast_nonneg
  have hx1 : x ≤ 32 := by
    refine Rat.le_of_mul_le_mul_right (c := (n : Rat)) ?_ (by grind)
    rw [hx]
    have h := Rat.natCast_le_natCast.2 ht
    rw [Rat.natCast_mul] at h
    exact h
  have a := fo_quo i1 j1 (by rw [j2]; grind) (by rw [i2, j2]; exact hx) (by grind) (by grind)
  have b0 := a.2.2.dn 0 (rep_zero _) hx0
  have b1 := a.2.2.up 32 (rep64i 32 (by decide)) hx1
  have hw : quoT t n < 18446744073709551616 := by
    have h := floatBits_wf (show floatBits .quo .f64 _ _ = some (quoT t n) from a.1)
    simpa [Lit.wf] using h
  have a1 : fbin .quo .f64 (some (floatOfInt .f64 (t : Int))) (some (floatOfInt .f64 (n : Int))) = some (quoT t n) := a.1
  have a2 : isN .f64 (quoT t n) := a.2.1
  obtain ⟨g1, g2, g3⟩ := neg_val a2 hw
  have b0 : 0 ≤ val .f64 (quoT t n) := b0
  have b1 : val .f64 (quoT t n) ≤ 32 := b1
  exact ⟨a1, a2, b0, b1, hw, g1, by show _ ≤ val .f64 (Op.negFloat .f64 (quoT t n)); rw [g2]; grind, by show val .f64 (Op.negFloat .f64 (quoT t n)) ≤ _; rw [g2]; grind, g3⟩

/-- The product of round j. -/
def lpRe (x t n : Nat) : Nat := narP (mRe (wid x) (wid 0) (wid (narP (phaRe (negT t n)))) (wid (narP (phaIm (negT t n)))))
def lpIm (x t n : Nat) : Nat := narP (mIm (wid x) (wid 0) (wid (narP (phaRe (negT t n)))) (wid (narP (phaIm (negT t n)))))
theorem zero32 : isN .f32 0 := isN_of (by decide +kernel)
theorem val32_0 : val .f32 0 = 0 := by decide +kernel
/-- A round of a line. -/
structure LpOk (x t n : Nat) : Prop where
  T : TurnsOk t n
  X : isN .f32 x
  c : isN .f32 (narP (phaRe (negT t n)))
  s : isN .f32 (narP (phaIm (negT t n)))
  m : MulOk (wid x) (wid 0) (wid (narP (phaRe (negT t n)))) (wid (narP (phaIm (negT t n))))
  re : isN .f32 (lpRe x t n)
  im : isN .f32 (lpIm x t n)
theorem lp_ok {x t n : Nat} (hx : isN .f32 x) (hn : 1 ≤ n) (hn2 : n ≤ 32) (ht : t ≤ 32 * n) : LpOk x t n := by
  have T := turns_ok hn hn2 ht
  have P := pha_ok T.N T.lo T.hi
  obtain ⟨⟨⟨c1, c2, c3⟩, _⟩, ⟨⟨s1, s2, s3⟩, _⟩⟩ := pha_parts P
  obtain ⟨a1, a2, _⟩ := wid_val hx
  obtain ⟨z1, z2, _⟩ := wid_val zero32
  obtain ⟨p1, p2, _⟩ := wid_val c1
  obtain ⟨q1, q2, _⟩ := wid_val s1
  obtain ⟨v1, v2⟩ := val32_max hx
  obtain ⟨M, r, i⟩ := mul_ok a1 z1 p1 q1 (by rw [a2]; exact v1) (by rw [a2]; exact v2) (by rw [z2]; exact val32_0) (by rw [p2]; exact c2) (by rw [p2]; exact c3) (by rw [q2]; exact s2) (by rw [q2]; exact s3)
  exact ⟨T, hx, c1, s1, M, r, i⟩

/-- The sums of the first rounds of line k. -/
def linS (xs : List Nat) (k : Nat) : Nat → Option Nat × Option Nat
  | 0 => (some 0, some 0)
  | j + 1 => (fbin .add .f32 (linS xs k j).1 (some (lpRe (xs.getD j 0) (j * k) xs.length)), fbin .add .f32 (linS xs k j).2 (some (lpIm (xs.getD j 0) (j * k) xs.length)))

/-- A complex number, whatever the bits of a NaN are. -/
def RetC (w : World) (o : Option Nat × Option Nat) (e : Ending) (w' : World) : Prop := ∃ r i, e = .returned (.complex .f32 r i) ∧ cn .f32 r = o.1 ∧ cn .f32 i = o.2 ∧ Below w.heap.size w w'
def RetCB (w : World) (o : Option Nat × Option Nat) (b : Bool) (e : Ending) (w' : World) : Prop := ∃ r i, e = .returned (.tuple #[.complex .f32 r i, .bool b]) ∧ cn .f32 r = o.1 ∧ cn .f32 i = o.2 ∧ Below w.heap.size w w'

set_option maxHeartbeats 1000000 in
theorem cadd_any {a b c d : Nat} {w : World} : Calls Try.prog 104 #[.complex .f32 a b, .complex .f32 c d] w (RetC w (fbin .add .f32 (cn .f32 a) (cn .f32 c), fbin .add .f32 (cn .f32 b) (cn .f32 d))) := by
  go_enter Try.func104, Try.ntmps104
  go_wp2_with (first | (refine wpl_fbin rfl _ _ _ _ _ rfl rfl .f32 _ _ rfl rfl ?_; rintro r w' ⟨n, rfl⟩ hr; have HR := Lib.hid hr; clear hr))
  rename_i r1 n1 HR1
  go_ret
  exact ⟨_, _, rfl, HR1.out, HR.out, below_of_drewN _ _ _⟩

set_option maxHeartbeats 1000000 in
theorem turnsOf_any {j k n : Nat} {w : World} (h : TurnsOk (j * k) n) (hj : j ≤ 32) (hk : k ≤ 32) : Calls Try.prog 107 #[.int .i64 (j : Int), .int .i64 (k : Int), .int .i64 (n : Int)] w fun e w' => e = .returned (.float .f64 (quoT (j * k) n)) ∧ w = w' := by
  have a := ar h.q 34
  clear h
  have hjk : j * k ≤ 1024 := Nat.le_trans (Nat.mul_le_mul hj hk) (by omega)
  have e : IntKind.i64.wrap ((j : Int) * (k : Int)) = ((j * k : Nat) : Int) := by
    have : (j : Int) * (k : Int) = ((j * k : Nat) : Int) := by push_cast; rfl
    rw [this]; exact IntWalk.i64_in _ (by omega)
  obtain ⟨t, ht⟩ : ∃ t, j * k = t := ⟨_, rfl⟩
  rw [ht] at a e ⊢
  clear ht hjk
  generalize quoT t n = q at *
  go_enter Try.func107, Try.ntmps107
  go_wp2
  go_ret
  exact ⟨rfl, rfl⟩

set_option maxRecDepth 20000 in
set_option maxHeartbeats 4000000 in
theorem implLine_any {a : Option Addr} {c : Nat} {xs : List Nat} {k : Nat} {w : World} (hr : Rd (Value.float .f32) w a c xs) (hf : ∀ x ∈ xs, isN .f32 x) (hn : xs.length ≤ 32) (hk : k < xs.length) :
    Calls Try.prog 102 #[.slice a xs.length c, .int .i64 (k : Int)] w (RetC w (linS xs k xs.length)) := by
  have HOK : Hid (∀ j (hj : j < xs.length), LpOk xs[j] (j * k) xs.length) := Lib.hid (fun j hj => lp_ok (hf _ (List.getElem_mem hj)) (by omega) hn (Nat.le_trans (Nat.mul_le_mul (show j ≤ 32 by omega) (Nat.le_of_lt hk)) (Nat.le_refl _)))
  have HLS : Hid (∀ j (hj : j < xs.length), linS xs k (j + 1) = (fbin .add .f32 (linS xs k j).1 (some (lpRe xs[j] (j * k) xs.length)), fbin .add .f32 (linS xs k j).2 (some (lpIm xs[j] (j * k) xs.length)))) := Lib.hid (fun j hj => by
    show (_, _) = (_, _)
    rw [List.getD_eq_getElem?_getD, List.getElem?_eq_getElem hj]; rfl)
  have HL0 : Hid (linS xs k 0 = (some 0, some 0)) := Lib.hid rfl
  have HR := Lib.hid hr
  clear hr hf
  generalize hls : linS xs k = ls at *
  clear hls
  go_enter Try.func102, Try.ntmps102
  go_wp2
  go_loopw [5, 10] (fun si ji wr => ∃ j r i : Nat, j ≤ xs.length ∧ si = .complex .f32 r i ∧ ji = .int .i64 (j : Int) ∧ Hid (cn .f32 r = (ls j).1) ∧ Hid (cn .f32 i = (ls j).2) ∧ Hid (Below w.heap.size w wr)) (fun _ ji _ => xs.length - (intOf ji).toNat)
  case atStart => exact ⟨0, 0, 0, by omega, rfl, rfl, Lib.hid (by rw [HL0.out]; decide), Lib.hid (by rw [HL0.out]; decide), Lib.hid (Below.refl _ _)⟩
  case round =>
    obtain ⟨j, r, i, hj, rfl, rfl, H1, H2, HB⟩ := hrel
    by_cases hlt : j < xs.length
    · have hltz : (j : Int) < (xs.length : Int) := by omega
      have ewj : IntKind.i64.wrap ((j : Int) + 1) = (j : Int) + 1 := IntWalk.i64_in _ (by omega)
      have hix := (HR.out.below HB.out (Nat.le_refl _)).idx und_fs siz_fs wr j hlt
      have hcx := (HR.out.below HB.out (Nat.le_refl _)).cell j hlt
      simp only [List.getElem?_eq_getElem hlt, Option.getD_some] at hcx
      have O := HOK.out j hlt
      have HS := HLS.out j hlt
      have hneg : ∀ w' : World, (Op.unary .neg (.float .f64 (quoT (j * k) xs.length))).run Try.prog w' = .ok (.float .f64 (negT (j * k) xs.length)) w' := fun _ => rfl
      generalize xs[j] = x at *
      have HO := Lib.hid O
      have HSS := Lib.hid HS
      clear O HS
      go_wp2_with fail
      refine (turnsOf_any HO.out.T (by omega) (by omega)).mono ?_
      rintro e w' ⟨rfl, rfl⟩
      go_wp2_with fail
      refine (implPhasor_any (x := negT (j * k) xs.length) HO.out.T.N HO.out.T.w HO.out.T.lo HO.out.T.hi).mono ?_
      rintro e w' ⟨rfl, rfl⟩
      go_wp2_with fail
      refine (implMul_any HO.out.X zero32 HO.out.c HO.out.s HO.out.m).mono ?_
      rintro e w' ⟨rfl, rfl⟩
      go_wp2_with fail
      refine cadd_any.mono ?_
      rintro e w1 ⟨r1, i1, rfl, h1, h2, b1⟩
      have H3 : Hid (cn .f32 r1 = (ls (j + 1)).1) := Lib.hid (by rw [HSS.out, h1]; show fbin .add .f32 (cn .f32 r) (cn .f32 (lpRe x (j * k) xs.length)) = _; rw [isN_cn HO.out.re, H1.out])
      have H4 : Hid (cn .f32 i1 = (ls (j + 1)).2) := Lib.hid (by rw [HSS.out, h2]; show fbin .add .f32 (cn .f32 i) (cn .f32 (lpIm x (j * k) xs.length)) = _; rw [isN_cn HO.out.im, H2.out])
      have HB1 := Lib.hid (HB.out.trans (b1.mono HB.out.size))
      clear h1 h2 b1 H1 H2 HO HSS hix hcx
      go_wp2
      go_roundw
      case rel => exact ⟨j + 1, r1, i1, by omega, rfl, by go_num, H3, H4, HB1⟩
      case measure => simp [intOf]; omega
    · obtain rfl : j = xs.length := by omega
      have hltz : ¬ (xs.length : Int) < (xs.length : Int) := by omega
      go_wp2
      go_ret
      exact ⟨r, i, rfl, H1.out, H2.out, HB.out⟩

/-- + on complex64s: the result, whatever bits a NaN gets. -/
theorem run_cadd (w : World) (t : TypeId) (a b c d : Nat) :
    ∃ r i w', (binOp .add t (.complex .f32 a b) (.complex .f32 c d)).run Try.prog w = .ok (.complex .f32 r i) w' ∧ (∃ n, w' = w.drewN n) ∧ cn .f32 r = fbin .add .f32 (cn .f32 a) (cn .f32 c) ∧ cn .f32 i = fbin .add .f32 (cn .f32 b) (cn .f32 d) := by
  obtain ⟨r, w1, h1, ⟨n1, hn1⟩, hc1⟩ := run_fbin (P := Try.prog) w .add rfl t .f32 a c
  obtain ⟨i, w2, h2, ⟨n2, hn2⟩, hc2⟩ := run_fbin (P := Try.prog) w1 .add rfl t .f32 b d
  refine ⟨r, i, w2, ?_, ⟨n1 + n2, ?_⟩, hc1, hc2⟩
  · have h1' : (Op.floatArith .add .f32 a c).run Try.prog w = .ok (.float .f32 r) w1 := h1
    have h2' : (Op.floatArith .add .f32 b d).run Try.prog w1 = .ok (.float .f32 i) w2 := h2
    simp [binOp, Op.complexOp, Op.Complex.arith, h1', h2', Result.andThen]
  · rw [hn2, hn1]
    simp [World.drewN, Nat.add_assoc]
theorem wpl_cadd {w : World} {ops : Array Oper} {rest : List Oper} {o : Oper} {ac : Act} {Q : Exit → Act → World → Prop}
    (hw : Region.wanted o (yielded ops ac.tmps) = true) (t t2 : TypeId) (x y : Operand) (hop : o.op = .binOp .add t x y t2) (a b c d : Nat)
    (hx : ac.eval x = .complex .f32 a b) (hy : ac.eval y = .complex .f32 c d)
    (hK : ∀ r i w', (∃ n, w' = w.drewN n) → cn .f32 r = fbin .add .f32 (cn .f32 a) (cn .f32 c) → cn .f32 i = fbin .add .f32 (cn .f32 b) (cn .f32 d) → wpList Try.prog ops Q rest (ac.put o.dst (.complex .f32 r i)) w') : wpList Try.prog ops Q (o :: rest) ac w := by
  obtain ⟨r, i, w', hru, hn, hc, hd⟩ := run_cadd w t a b c d
  have hge : (eqGuard .add t x y (.complex .f32 a b) (.complex .f32 c d)).run Try.prog w = .ok () w := rfl
  unfold wpList
  rw [if_pos hw]
  left
  unfold Oper.wp execOp
  simp only [hop, Sem.run_bind, Sem.run_pure, Result.andThen_ok, hx, hy, hge, hru]
  exact hK r i w' hn hc hd

set_option maxRecDepth 20000 in
set_option maxHeartbeats 4000000 in
theorem specLine_any {a : Option Addr} {c : Nat} {xs : List Nat} {k : Nat} {w : World} (hr : Rd (Value.float .f32) w a c xs) (hf : ∀ x ∈ xs, isN .f32 x) (hn : xs.length ≤ 32) (hk : k < xs.length) :
    Calls Try.prog 121 #[.slice a xs.length c, .int .i64 (k : Int)] w (RetC w (linS xs k xs.length)) := by
  have HOK : Hid (∀ j (hj : j < xs.length), LpOk xs[j] (j * k) xs.length) := Lib.hid (fun j hj => lp_ok (hf _ (List.getElem_mem hj)) (by omega) hn (Nat.le_trans (Nat.mul_le_mul (show j ≤ 32 by omega) (Nat.le_of_lt hk)) (Nat.le_refl _)))
  have HLS : Hid (∀ j (hj : j < xs.length), linS xs k (j + 1) = (fbin .add .f32 (linS xs k j).1 (some (lpRe xs[j] (j * k) xs.length)), fbin .add .f32 (linS xs k j).2 (some (lpIm xs[j] (j * k) xs.length)))) := Lib.hid (fun j hj => by
    show (_, _) = (_, _)
    rw [List.getD_eq_getElem?_getD, List.getElem?_eq_getElem hj]; rfl)
  have HL0 : Hid (linS xs k 0 = (some 0, some 0)) := Lib.hid rfl
  have HR := Lib.hid hr
  clear hr hf
  generalize hls : linS xs k = ls at *
  clear hls
  go_enter Try.func121, Try.ntmps121
  go_wp2
  go_loopw [5, 10] (fun si ji wr => ∃ j r i : Nat, j ≤ xs.length ∧ si = .complex .f32 r i ∧ ji = .int .i64 (j : Int) ∧ Hid (cn .f32 r = (ls j).1) ∧ Hid (cn .f32 i = (ls j).2) ∧ Hid (Below w.heap.size w wr)) (fun _ ji _ => xs.length - (intOf ji).toNat)
  case atStart => exact ⟨0, 0, 0, by omega, rfl, rfl, Lib.hid (by rw [HL0.out]; decide), Lib.hid (by rw [HL0.out]; decide), Lib.hid (Below.refl _ _)⟩
  case round =>
    obtain ⟨j, r, i, hj, rfl, rfl, H1, H2, HB⟩ := hrel
    by_cases hlt : j < xs.length
    · have hltz : (j : Int) < (xs.length : Int) := by omega
      have ewj : IntKind.i64.wrap ((j : Int) + 1) = (j : Int) + 1 := IntWalk.i64_in _ (by omega)
      have hix := (HR.out.below HB.out (Nat.le_refl _)).idx und_fs siz_fs wr j hlt
      have hcx := (HR.out.below HB.out (Nat.le_refl _)).cell j hlt
      simp only [List.getElem?_eq_getElem hlt, Option.getD_some] at hcx
      have O := HOK.out j hlt
      have HS := HLS.out j hlt
      have hneg : ∀ w' : World, (Op.unary .neg (.float .f64 (quoT (j * k) xs.length))).run Try.prog w' = .ok (.float .f64 (negT (j * k) xs.length)) w' := fun _ => rfl
      have hq := ar O.T.q 34
      have hjk : j * k ≤ 1024 := Nat.le_trans (Nat.mul_le_mul (show j ≤ 32 by omega) (show k ≤ 32 by omega)) (by omega)
      have ejk : IntKind.i64.wrap ((j : Int) * (k : Int)) = ((j * k : Nat) : Int) := by
        have : (j : Int) * (k : Int) = ((j * k : Nat) : Int) := by push_cast; rfl
        rw [this]; exact IntWalk.i64_in _ (by omega)
      generalize xs[j] = x at *
      obtain ⟨t, ht⟩ : ∃ t, j * k = t := ⟨_, rfl⟩
      rw [ht] at O HS hneg hq ejk
      clear ht hjk
      have HO := Lib.hid O
      have HSS := Lib.hid HS
      clear O HS
      go_upto_region 6 with (fail)
      obtain ⟨wd, hwd⟩ : ∃ wd, wd = wr.drew := ⟨_, rfl⟩
      have HWD := Lib.hid hwd
      have hB1 : Below wr.heap.size wr wd := by rw [hwd]; exact below_of_drewN wr 1 _
      have HBD := Lib.hid (HB.out.trans (hB1.mono HB.out.size))
      have hix := (HR.out.below HBD.out (Nat.le_refl _)).idx und_fs siz_fs wd j hlt
      have hcx := k_at hB1 hcx
      clear hwd hB1 HB
      refine wp_tail wd HWD.out 9 (by kernel_rfl) (by kernel_rfl) ?_
      simp only [List.take_succ_cons, List.take_zero, List.drop_succ_cons, List.drop_zero]
      repeat still_step
      still_call ((specPhasor_any (x := negT t xs.length) HO.out.T.N HO.out.T.lo HO.out.T.hi).mono fun _ _ h => ⟨h.1, h.2.symm⟩)
      still_call ((specMul_any HO.out.X zero32 HO.out.c HO.out.s HO.out.m).mono fun _ _ h => ⟨h.1, h.2.symm⟩)
      refine wpStill_nil ?_
      go_wp2_with (first | (refine wpl_cadd rfl _ _ _ _ rfl _ _ _ _ rfl rfl ?_; rintro r1 i1 w' ⟨n, rfl⟩ h1 h2; have G1 := Lib.hid h1; have G2 := Lib.hid h2; clear h1 h2))
      have H3 : Hid (cn .f32 r1 = (ls (j + 1)).1) := Lib.hid (by rw [HSS.out, G1.out]; show fbin .add .f32 (cn .f32 r) (cn .f32 (lpRe x t xs.length)) = _; rw [isN_cn HO.out.re, H1.out])
      have H4 : Hid (cn .f32 i1 = (ls (j + 1)).2) := Lib.hid (by rw [HSS.out, G2.out]; show fbin .add .f32 (cn .f32 i) (cn .f32 (lpIm x t xs.length)) = _; rw [isN_cn HO.out.im, H2.out])
      go_roundw
      case rel => exact ⟨j + 1, r1, i1, by omega, rfl, by go_num, H3, H4, Lib.hid (HBD.out.trans (below_of_drewN _ _ _))⟩
      case measure => simp [intOf]; omega
    · obtain rfl : j = xs.length := by omega
      have hltz : ¬ (xs.length : Int) < (xs.length : Int) := by omega
      go_wp2
      go_ret
      exact ⟨r, i, rfl, H1.out, H2.out, HB.out⟩

/-- Both parts are finite. -/
def cfin (o : Option Nat × Option Nat) : Bool := fin .f32 o.1 && fin .f32 o.2
theorem isFinC_any {r i : Nat} {w : World} : Calls Try.prog 109 #[.complex .f32 r i] w fun e w' => e = .returned (.bool (cfin (cn .f32 r, cn .f32 i))) ∧ Below w.heap.size w w' := by
  unfold cfin
  simp only
  cases hr : fin .f32 (cn .f32 r) with
  | false =>
    have HR := Lib.hid (isFinite_any (x := r) (w := w))
    rw [hr] at HR
    go_enter Try.func109, Try.ntmps109
    go_wp2_with fail
    refine HR.out.mono ?_
    rintro e w1 ⟨rfl, b1⟩
    go_wp2
    go_ret
    exact ⟨rfl, b1⟩
  | true =>
    have HR := Lib.hid (isFinite_any (x := r) (w := w))
    have HI := Lib.hid (fun w : World => isFinite_any (x := i) (w := w))
    rw [hr] at HR
    generalize fin .f32 (cn .f32 i) = b at *
    go_enter Try.func109, Try.ntmps109
    go_wp2_with fail
    refine HR.out.mono ?_
    rintro e w1 ⟨rfl, b1⟩
    go_wp2_with fail
    refine (HI.out _).mono ?_
    rintro e w2 ⟨rfl, b2⟩
    cases b <;> (go_wp2; go_ret; exact ⟨rfl, b1.trans (b2.mono b1.size)⟩)
theorem cFinite_any {r i : Nat} {w : World} : Calls Try.prog 157 #[.complex .f32 r i] w fun e w' => e = .returned (.bool (cfin (cn .f32 r, cn .f32 i))) ∧ Below w.heap.size w w' := by
  unfold cfin
  simp only
  cases hr : fin .f32 (cn .f32 r) with
  | false =>
    have HR := Lib.hid (l01Finite_any (x := r) (w := w))
    rw [hr] at HR
    go_enter Try.func157, Try.ntmps157
    go_wp2_with fail
    refine HR.out.mono ?_
    rintro e w1 ⟨rfl, b1⟩
    go_wp2
    go_ret
    exact ⟨rfl, b1⟩
  | true =>
    have HR := Lib.hid (l01Finite_any (x := r) (w := w))
    have HI := Lib.hid (fun w : World => l01Finite_any (x := i) (w := w))
    rw [hr] at HR
    generalize fin .f32 (cn .f32 i) = b at *
    go_enter Try.func157, Try.ntmps157
    go_wp2_with fail
    refine HR.out.mono ?_
    rintro e w1 ⟨rfl, b1⟩
    go_wp2_with fail
    refine (HI.out _).mono ?_
    rintro e w2 ⟨rfl, b2⟩
    cases b <;> (go_wp2; go_ret; exact ⟨rfl, b1.trans (b2.mono b1.size)⟩)

/-- The number, if it is finite; else 0. -/
def cif (o : Option Nat × Option Nat) : Option Nat × Option Nat := if cfin o then o else (some 0, some 0)
theorem ifFinC_any {r i : Nat} {w : World} : Calls Try.prog 108 #[.complex .f32 r i] w (RetCB w (cif (cn .f32 r, cn .f32 i)) (cfin (cn .f32 r, cn .f32 i))) := by
  have HC := Lib.hid (isFinC_any (r := r) (i := i) (w := w))
  unfold cif
  cases hb : cfin (cn .f32 r, cn .f32 i) with
  | false =>
    rw [hb] at HC
    go_enter Try.func108, Try.ntmps108
    go_wp2_with fail
    refine HC.out.mono ?_
    rintro e w1 ⟨rfl, b1⟩
    go_wp2
    go_ret2
    exact ⟨0, 0, rfl, cn_zero, cn_zero, b1⟩
  | true =>
    rw [hb] at HC
    go_enter Try.func108, Try.ntmps108
    go_wp2_with fail
    refine HC.out.mono ?_
    rintro e w1 ⟨rfl, b1⟩
    go_wp2
    go_ret2
    exact ⟨r, i, rfl, rfl, rfl, b1⟩
theorem numC_any {r i : Nat} {w : World} : Calls Try.prog 120 #[.complex .f32 r i] w (RetCB w (cif (cn .f32 r, cn .f32 i)) (cfin (cn .f32 r, cn .f32 i))) := by
  have HC := Lib.hid (cFinite_any (r := r) (i := i) (w := w))
  unfold cif
  cases hb : cfin (cn .f32 r, cn .f32 i) with
  | false =>
    rw [hb] at HC
    go_enter Try.func120, Try.ntmps120
    go_wp2_with fail
    refine HC.out.mono ?_
    rintro e w1 ⟨rfl, b1⟩
    go_wp2
    go_ret2
    exact ⟨0, 0, rfl, cn_zero, cn_zero, b1⟩
  | true =>
    rw [hb] at HC
    go_enter Try.func120, Try.ntmps120
    go_wp2_with fail
    refine HC.out.mono ?_
    rintro e w1 ⟨rfl, b1⟩
    go_wp2
    go_ret2
    exact ⟨r, i, rfl, rfl, rfl, b1⟩

end Go.Proofs.Ytfclkbppmkjkeaa

namespace Go.Proofs.Ytfclkbppmkjkeaa
open Go.RowKit

def tabC : List (List Int) := [[1099511627776], [1099511627776], [1099511627776, -1099511627776], [1099511627776, -549755813888, -549755813888], [1099511627776, 0, -1099511627776, 0], [1099511627776, 339767778496, -889523592384, -889523592384, 339767778496], [1099511627776, 549755813888, -549755813888, -1099511627776, -549755813888, 549755813888], [1099511627776, 685534286943, -244664354309, -990625746523, -990625746523, -244664354309, 685534286943], [1099511627776, 777472127994, 0, -777472127994, -1099511627776, -777472127994, 0, 777472127994], [1099511627776, 842274772603, 190928190487, -549755813888, -1033202963089, -1033202963089, -549755813888, 190928190487, 842274772603], [1099511627776, 889523592384, 339767778496, -339767778496, -889523592384, -1099511627776, -889523592384, -339767778496, 339767778496, 889523592384], [1099511627776, 924968041256, 456753637148, -156476819487, -720026991547, -1054973681259, -1054973681259, -720026991547, -156476819487, 456753637148, 924968041256], [1099511627776, 952205001410, 549755813888, 0, -549755813888, -952205001410, -1099511627776, -952205001410, -549755813888, 0, 549755813888, 952205001410]]
def tabS : List (List Int) := [[0], [0], [0, 0], [0, 952205001410, -952205001410], [0, 1099511627776, 0, -1099511627776], [0, 1045697698339, 646276719531, -646276719531, -1045697698339], [0, 952205001410, 952205001410, 0, -952205001410, -952205001410], [0, 859632805935, 1071944575687, 477060216263, -477060216263, -1071944575687, -859632805935], [0, 777472127994, 1099511627776, 777472127994, 0, -777472127994, -1099511627776, -777472127994], [0, 706752451041, 1082807575561, 952205001410, 376055124520, -376055124520, -952205001410, -1082807575561, -706752451041], [0, 646276719531, 1045697698339, 1045697698339, 646276719531, 0, -646276719531, -1045697698339, -1045697698339, -646276719531], [0, 594440865243, 1000150955889, 1088320184770, 830955444689, 309768222170, -309768222170, -830955444689, -1088320184770, -1000150955889, -594440865243], [0, 549755813888, 952205001410, 1099511627776, 952205001410, 549755813888, 0, -549755813888, -952205001410, -1099511627776, -952205001410, -549755813888]]
def tC (n r : Nat) : Int := (tabC.getD n []).getD r 0
def tS (n r : Nat) : Int := (tabS.getD n []).getD r 0
/-- The value of a float is near a number of the table. -/
def nearTab (b : Nat) (c : Int) : Bool := decide (-(1 / 8388608) ≤ val .f32 b - (c : Rat) * tp (-40)) && decide (val .f32 b - (c : Rat) * tp (-40) ≤ 1 / 8388608)
def posB (t n : Nat) : Bool := nearTab (narP (phaRe (quoT t n))) (tC n (t % n)) && nearTab (narP (phaIm (quoT t n))) (tS n (t % n))
def negB (t n : Nat) : Bool := nearTab (narP (phaRe (negT t n))) (tC n ((n - t % n) % n)) && nearTab (narP (phaIm (negT t n))) (tS n ((n - t % n) % n))
def bothB (t n : Nat) : Bool := posB t n && negB t n
def prods (n : Nat) : List Nat := ([[], [0], [0, 1], [0, 1, 2, 4], [0, 1, 2, 3, 4, 6, 9], [0, 1, 2, 3, 4, 6, 8, 9, 12, 16], [0, 1, 2, 3, 4, 5, 6, 8, 9, 10, 12, 15, 16, 20, 25], [0, 1, 2, 3, 4, 5, 6, 8, 9, 10, 12, 15, 16, 18, 20, 24, 25, 30, 36], [0, 1, 2, 3, 4, 5, 6, 7, 8, 9, 10, 12, 14, 15, 16, 18, 20, 21, 24, 25, 28, 30, 35, 36, 42, 49], [0, 1, 2, 3, 4, 5, 6, 7, 8, 9, 10, 12, 14, 15, 16, 18, 20, 21, 24, 25, 28, 30, 32, 35, 36, 40, 42, 48, 49, 56, 64], [0, 1, 2, 3, 4, 5, 6, 7, 8, 9, 10, 12, 14, 15, 16, 18, 20, 21, 24, 25, 27, 28, 30, 32, 35, 36, 40, 42, 45, 48, 49, 54, 56, 63, 64, 72, 81], [0, 1, 2, 3, 4, 5, 6, 7, 8, 9, 10, 12, 14, 15, 16, 18, 20, 21, 24, 25, 27, 28, 30, 32, 35, 36, 40, 42, 45, 48, 49, 50, 54, 56, 60, 63, 64, 70, 72, 80, 81, 90, 100], [0, 1, 2, 3, 4, 5, 6, 7, 8, 9, 10, 11, 12, 14, 15, 16, 18, 20, 21, 22, 24, 25, 27, 28, 30, 32, 33, 35, 36, 40, 42, 44, 45, 48, 49, 50, 54, 55, 56, 60, 63, 64, 66, 70, 72, 77, 80, 81, 88, 90, 99, 100, 110, 121]] : List (List Nat)).getD n []
theorem prods_all : ∀ n : Fin 13, ∀ j : Fin 12, ∀ k : Fin 12, j.val < n.val → k.val < n.val → j.val * k.val ∈ prods n.val := by decide +kernel

end Go.Proofs.Ytfclkbppmkjkeaa

namespace Go.Proofs.Ytfclkbppmkjkeaa
open Go.RowKit
attribute [local go_sem ↓] Go.wp_at_zero Go.wp_at_succ

def lineOk (xs : List Nat) (k : Int) : Bool := isVec xs && inR k 0 ((xs.length : Int) - 1)
def lineV (xs : List Nat) (k : Int) : Option Nat × Option Nat := if lineOk xs k then cif (linS xs k.toNat xs.length) else (some 0, some 0)
def lineB (xs : List Nat) (k : Int) : Bool := lineOk xs k && cfin (linS xs k.toNat xs.length)
theorem isVec_num {xs : List Nat} (h : isVec xs = true) : xs.length ≤ 32 ∧ 1 ≤ xs.length ∧ ∀ x ∈ xs, isN .f32 x := by
  unfold isVec at h
  rw [Bool.and_eq_true, Bool.and_eq_true] at h
  refine ⟨of_decide_eq_true h.1.2, of_decide_eq_true h.1.1, fun x hx => (fin_isN ?_).1⟩
  exact List.all_eq_true.1 h.2 x hx

set_option maxRecDepth 20000 in
set_option maxHeartbeats 2000000 in
theorem implLineOf_any {a : Option Addr} {c : Nat} {xs : List Nat} {k : Int} {w : World} (hr : Rd (Value.float .f32) w a c xs) :
    Calls Try.prog 48 #[.slice a xs.length c, .int .i64 k] w (RetCB w (lineV xs k) (lineB xs k)) := by
  have hln := hr.len
  have HV := Lib.hid (isVector_any hr)
  have ew : IntKind.i64.wrap ((xs.length : Int) - 1) = (xs.length : Int) - 1 := IntWalk.i64_in _ (by omega)
  unfold lineV lineB lineOk
  cases hv : isVec xs with
  | false =>
    rw [hv] at HV
    clear hr
    go_enter Try.func48, Try.ntmps48
    go_wp2_with fail
    refine HV.out.mono ?_
    rintro e w1 ⟨rfl, b1⟩
    go_wp2
    go_ret2
    exact ⟨0, 0, rfl, cn_zero, cn_zero, b1⟩
  | true =>
    rw [hv] at HV
    obtain ⟨h32, h1, hN⟩ := isVec_num hv
    have HW := Lib.hid (fun w : World => within_any k 0 ((xs.length : Int) - 1) w)
    cases hk : inR k 0 ((xs.length : Int) - 1) with
    | false =>
      rw [hk] at HW
      clear hr hN
      go_enter Try.func48, Try.ntmps48
      go_wp2_with fail
      refine HV.out.mono ?_
      rintro e w1 ⟨rfl, b1⟩
      go_wp2_with fail
      refine (HW.out _).mono ?_
      rintro e w2 ⟨rfl, rfl⟩
      go_wp2
      go_ret2
      exact ⟨0, 0, rfl, cn_zero, cn_zero, b1⟩
    | true =>
      rw [hk] at HW
      have hk' : 0 ≤ k ∧ k ≤ (xs.length : Int) - 1 := by unfold inR at hk; simpa using hk
      obtain ⟨n, rfl⟩ := Int.eq_ofNat_of_zero_le hk'.1
      have hn : n < xs.length := by omega
      have HR := Lib.hid hr
      have HN := Lib.hid hN
      simp only [Bool.and_self, if_true, Int.toNat_natCast, Bool.true_and]
      have HRC : Hid (∀ {r i : Nat} {w : World}, (cn .f32 r, cn .f32 i) = linS xs n xs.length → Calls Try.prog 108 #[.complex .f32 r i] w (RetCB w (cif (linS xs n xs.length)) (cfin (linS xs n xs.length)))) := Lib.hid (fun h => by rw [← h]; exact ifFinC_any)
      have HLN : Hid (∀ {w' : World}, Rd (Value.float .f32) w' a c xs → Calls Try.prog 102 #[.slice a xs.length c, .int .i64 (n : Int)] w' (RetC w' (linS xs n xs.length))) := Lib.hid (fun g => implLine_any g hN h32 hn)
      clear hr hN HN hk hk'
      generalize cif (linS xs n xs.length) = O at *
      generalize cfin (linS xs n xs.length) = B at *
      generalize linS xs n xs.length = L at *
      go_enter Try.func48, Try.ntmps48
      go_wp2_with fail
      refine HV.out.mono ?_
      rintro e w1 ⟨rfl, b1⟩
      go_wp2_with fail
      refine (HW.out _).mono ?_
      rintro e w2 ⟨rfl, rfl⟩
      go_wp2_with fail
      refine (HLN.out (HR.out.below b1 (Nat.le_refl _))).mono ?_
      rintro e w3 ⟨r, i, rfl, h1, h2, b3⟩
      go_wp2_with fail
      refine (HRC.out (by rw [h1, h2])).mono ?_
      rintro e w4 ⟨r', i', rfl, h3, h4, b4⟩
      go_wp2
      go_ret2
      exact ⟨r', i', rfl, h3, h4, (b1.trans (b3.mono b1.size)).trans (b4.mono (b1.trans (b3.mono b1.size)).size)⟩

set_option maxRecDepth 20000 in
set_option maxHeartbeats 2000000 in
theorem specLineOf_any {a : Option Addr} {c : Nat} {xs : List Nat} {k : Int} {w : World} (hr : Rd (Value.float .f32) w a c xs) :
    Calls Try.prog 53 #[.slice a xs.length c, .int .i64 k] w (RetCB w (lineV xs k) (lineB xs k)) := by
  have hln := hr.len
  have HV := Lib.hid (l07Vector_any hr)
  have ew : IntKind.i64.wrap ((xs.length : Int) - 1) = (xs.length : Int) - 1 := IntWalk.i64_in _ (by omega)
  unfold lineV lineB lineOk
  cases hv : isVec xs with
  | false =>
    rw [hv] at HV
    clear hr
    go_enter Try.func53, Try.ntmps53
    go_wp2_with fail
    refine HV.out.mono ?_
    rintro e w1 ⟨rfl, b1⟩
    go_wp2
    go_ret2
    exact ⟨0, 0, rfl, cn_zero, cn_zero, b1⟩
  | true =>
    rw [hv] at HV
    obtain ⟨h32, h1, hN⟩ := isVec_num hv
    have HW := Lib.hid (fun w : World => l00In_any k 0 ((xs.length : Int) - 1) w)
    cases hk : inR k 0 ((xs.length : Int) - 1) with
    | false =>
      rw [hk] at HW
      clear hr hN
      go_enter Try.func53, Try.ntmps53
      go_wp2_with fail
      refine HV.out.mono ?_
      rintro e w1 ⟨rfl, b1⟩
      go_wp2_with fail
      refine (HW.out _).mono ?_
      rintro e w2 ⟨rfl, rfl⟩
      go_wp2
      go_ret2
      exact ⟨0, 0, rfl, cn_zero, cn_zero, b1⟩
    | true =>
      rw [hk] at HW
      have hk' : 0 ≤ k ∧ k ≤ (xs.length : Int) - 1 := by unfold inR at hk; simpa using hk
      obtain ⟨n, rfl⟩ := Int.eq_ofNat_of_zero_le hk'.1
      have hn : n < xs.length := by omega
      have HR := Lib.hid hr
      have HN := Lib.hid hN
      simp only [Bool.and_self, if_true, Int.toNat_natCast, Bool.true_and]
      have HRC : Hid (∀ {r i : Nat} {w : World}, (cn .f32 r, cn .f32 i) = linS xs n xs.length → Calls Try.prog 120 #[.complex .f32 r i] w (RetCB w (cif (linS xs n xs.length)) (cfin (linS xs n xs.length)))) := Lib.hid (fun h => by rw [← h]; exact numC_any)
      have HLN : Hid (∀ {w' : World}, Rd (Value.float .f32) w' a c xs → Calls Try.prog 121 #[.slice a xs.length c, .int .i64 (n : Int)] w' (RetC w' (linS xs n xs.length))) := Lib.hid (fun g => specLine_any g hN h32 hn)
      clear hr hN HN hk hk'
      generalize cif (linS xs n xs.length) = O at *
      generalize cfin (linS xs n xs.length) = B at *
      generalize linS xs n xs.length = L at *
      go_enter Try.func53, Try.ntmps53
      go_wp2_with fail
      refine HV.out.mono ?_
      rintro e w1 ⟨rfl, b1⟩
      go_wp2_with fail
      refine (HW.out _).mono ?_
      rintro e w2 ⟨rfl, rfl⟩
      go_wp2_with fail
      refine (HLN.out (HR.out.below b1 (Nat.le_refl _))).mono ?_
      rintro e w3 ⟨r, i, rfl, h1, h2, b3⟩
      go_wp2_with fail
      refine (HRC.out (by rw [h1, h2])).mono ?_
      rintro e w4 ⟨r', i', rfl, h3, h4, b4⟩
      go_wp2
      go_ret2
      exact ⟨r', i', rfl, h3, h4, (b1.trans (b3.mono b1.size)).trans (b4.mono (b1.trans (b3.mono b1.size)).size)⟩


end Go.Proofs.Ytfclkbppmkjkeaa

namespace Go.Proofs.Ytfclkbppmkjkeaa
open Go.RowKit

theorem und_c64 : (Try.prog.underlying 72).isSome = true := by kernel_rfl
theorem und_c128 : Try.prog.underlying 81 = some (.complex .f64) := by kernel_rfl
theorem fin_zero : fin .f32 (some 0) = true := by decide +kernel
theorem cif_fin (o : Option Nat × Option Nat) : fin .f32 (cif o).1 = true ∧ fin .f32 (cif o).2 = true := by
  unfold cif
  cases h : cfin o with
  | false => exact ⟨fin_zero, fin_zero⟩
  | true =>
    unfold cfin at h
    rw [Bool.and_eq_true] at h
    exact h
theorem lineV_fin (xs : List Nat) (k : Int) : (fin .f32 (lineV xs k).1 = true ∧ fin .f32 (lineV xs k).2 = true) ∧ True ∧ True := by
  refine ⟨?_, trivial, trivial⟩
  unfold lineV
  cases lineOk xs k with
  | false => exact ⟨fin_zero, fin_zero⟩
  | true => exact cif_fin _
theorem same_fin {r r' : Nat} (h : cn .f32 r = cn .f32 r') (hf : fin .f32 (cn .f32 r) = true) : r = r' ∧ isN .f32 r := by
  obtain ⟨h1, h2⟩ := fin_isN hf
  have hf' := hf
  rw [h] at hf'
  obtain ⟨_, h4⟩ := fin_isN hf'
  rw [h2, h4] at h
  exact ⟨Option.some.inj h, h1⟩
theorem sameComplex_any {a b : Nat} {w : World} : Calls Try.prog 55 #[.complex .f64 a b, .complex .f64 a b] w fun e w' => e = .returned (.bool true) ∧ Below w.heap.size w w' := by
  have H1 := Lib.hid (fun w : World => sameFloat_any (a := a) (b := a) (w := w) rfl)
  have H2 := Lib.hid (fun w : World => sameFloat_any (a := b) (b := b) (w := w) rfl)
  go_enter Try.func55, Try.ntmps55
  go_wp2_with fail
  refine (H1.out _).mono ?_
  rintro e w1 ⟨rfl, b1⟩
  go_wp2_with fail
  refine (H2.out _).mono ?_
  rintro e w2 ⟨rfl, b2⟩
  go_wp2
  go_ret
  exact ⟨rfl, b1.trans (b2.mono b1.size)⟩

set_option maxRecDepth 100000 in
set_option maxHeartbeats 2000000 in
theorem lawLineOf_walk (a0 : Option Addr) (c0 : Nat) (x0 : List Nat) (w : World) (r0 : Rd (Value.float .f32) w a0 c0 x0) (n0 : x0.length ≤ 1048576) (k : Int) :
    Calls Try.prog 7 #[.slice a0 x0.length c0, .int .i64 k] w fun e w' => e = .returned (.bool true) ∧ Below w.heap.size w w' := by
  go_enter Try.func7, Try.ntmps7
  go_wp2_with fail
  refine (toF_any r0 n0).mono ?_
  rintro e w1 ⟨adt1, cat1, rfl, t1, hb1⟩
  have s1 : w.heap.size ≤ w1.heap.size := hb1.size
  have B1 : Below w.heap.size w w1 := hb1
  clear hb1
  have lt1 := t1.blk
  go_wp2_with fail
  refine (specLineOf_any t1.rd).mono ?_
  rintro e w2 ⟨vwr, vwi, rfl, hwr, hwi, hb2⟩
  replace t1 := t1.below hb2 (Nat.le_refl _)
  have s2 : w1.heap.size ≤ w2.heap.size := hb2.size
  have B2 : Below w.heap.size w w2 := B1.trans (hb2.mono B1.size)
  clear B1 hb2
  clear t1 lt1
  go_wp2_with fail
  refine (toF_any (r0.below B2 (Nat.le_refl _)) n0).mono ?_
  rintro e w3 ⟨adx0, cax0, rfl, ox0, hb3⟩
  have s3 : w2.heap.size ≤ w3.heap.size := hb3.size
  have B3 : Below w.heap.size w w3 := B2.trans (hb3.mono B2.size)
  clear B2 hb3
  have lox0 := ox0.blk
  go_wp2_with fail
  refine (implLineOf_any ox0.rd).mono ?_
  rintro e w4 ⟨vgr, vgi, rfl, hgr, hgi, hb4⟩
  obtain ⟨⟨f1, f2⟩, f3, f4⟩ := lineV_fin x0 k
  obtain ⟨rfl, gN⟩ := same_fin (hgr.trans hwr.symm) (by rw [hgr]; exact f1)
  obtain ⟨rfl, gI⟩ := same_fin (hgi.trans hwi.symm) (by rw [hgi]; exact f2)
  clear hgr hgi hwr hwi f1 f2 f3 f4
  have hcv : ∀ w' : World, (convert 72 81 (.complex .f32 vgr vgi)).run Try.prog w' = .ok (.complex .f64 (wid vgr) (wid vgi)) w' := fun w' => run_convert_complex w' _ _ _ _ _ _ _ _ und_c64 und_c128 (by unfold cConvBits; rw [(wid_val gN).2.2, (wid_val gI).2.2]; rfl)
  have hbb : ∀ b : Bool, (b != b) = false := fun b => by cases b <;> rfl
  have hbx : ∀ b : Bool, (b ^^ b) = false := fun b => by cases b <;> rfl
  generalize lineB x0 k = B at *
  replace ox0 := ox0.below hb4 (Nat.le_refl _)
  have s4 : w3.heap.size ≤ w4.heap.size := hb4.size
  have B4 : Below w.heap.size w w4 := B3.trans (hb4.mono B3.size)
  clear B3 hb4
  go_wp2_with fail
  refine sameComplex_any.mono ?_
  rintro e w5 ⟨rfl, hb5⟩
  replace ox0 := ox0.below hb5 (Nat.le_refl _)
  have s5 : w4.heap.size ≤ w5.heap.size := hb5.size
  have B5 : Below w.heap.size w w5 := B4.trans (hb5.mono B4.size)
  clear B4 hb5
  go_wp2_with fail
  refine (toF_any (r0.below B5 (Nat.le_refl _)) n0).mono ?_
  rintro e w6 ⟨adt3, cat3, rfl, t3, hb6⟩
  replace ox0 := ox0.below hb6 (Nat.le_refl _)
  have s6 : w5.heap.size ≤ w6.heap.size := hb6.size
  have B6 : Below w.heap.size w w6 := B5.trans (hb6.mono B5.size)
  clear B5 hb6
  have lt3 := t3.blk
  go_wp2_with fail
  refine (eqF_any ox0.rd t3.rd rfl).mono ?_
  rintro e w7 ⟨rfl, hb7⟩
  replace ox0 := ox0.below hb7 (Nat.le_refl _)
  replace t3 := t3.below hb7 (Nat.le_refl _)
  have s7 : w6.heap.size ≤ w7.heap.size := hb7.size
  have B7 : Below w.heap.size w w7 := B6.trans (hb7.mono B6.size)
  clear B6 hb7
  clear t3 lt3
  go_wp2
  go_ret
  exact ⟨rfl, B7⟩

theorem lawLineOf_any {a0 : Option Addr} {c0 : Nat} {x0 : List Nat} {w : World} (r0 : Rd (Value.float .f32) w a0 c0 x0) (g0 : ∀ y ∈ x0, (Lit.float .f32 y).wf = true) (k : Int) (_ : (Lit.int .i64 k).wf = true) :
    Calls Try.prog 7 #[.slice a0 x0.length c0, .int .i64 k] w fun e w' => e = .returned (.bool true) ∧ Below w.heap.size w w' := by
  by_cases n0 : x0.length ≤ 1048576
  case neg =>
    have big : 1048576 < x0.length := by omega
    have lm := r0.len
    clear n0
    go_enter Try.func7, Try.ntmps7
    go_wp2
    go_ret
    exact ⟨rfl, Below.refl _ _⟩
  exact lawLineOf_walk a0 c0 x0 w r0 n0 k

end Go.Proofs.Ytfclkbppmkjkeaa

namespace Go.Proofs.Ytfclkbppmkjkeaa
open Go.RowKit
attribute [local go_sem ↓] Go.wp_at_zero Go.wp_at_succ

/-- A complex64. -/
abbrev cplx (p : Nat × Nat) : Value := .complex .f32 p.1 p.2
theorem und_cs : Try.prog.underlying 68 = some (.slice (Try.prog.elem 68)) := by kernel_rfl
theorem siz_cs (w : World) : (sizeOf (Try.prog.elem 68)).run Try.prog w = .ok 1 w := by kernel_rfl
theorem und_cse : Try.prog.underlying 68 = some (.slice 72) := by kernel_rfl
theorem und_c128s : (Try.prog.underlying 81).isSome = true := by kernel_rfl
theorem und_c64k : Try.prog.underlying 72 = some (.complex .f32) := by kernel_rfl
theorem info_c : (Try.prog.info? 72).map (fun i => (i.zero, i.size, i.bytes)) = some (some (.complex .f32 0 0), 1, 8) := by kernel_rfl

set_option maxHeartbeats 400000 in
theorem indexFuncc_any (a : Option Addr) (c : Nat) (xs : List (Nat × Nat)) (w : World) (F : Nat) (caps : Array Value) (p : Nat × Nat → Bool) (hF : ∀ (vs : Array Value) (w : World), (callFunc F vs).run Try.prog w = .ok (.enter F vs) w) (hr : Rd cplx w a c xs)
    (hclo : ∀ k (h : k < xs.length) wr, Below w.heap.size w wr → Calls Try.prog F (#[cplx xs[k]] ++ caps) wr fun e w' => e = .returned (.bool (p xs[k])) ∧ Below wr.heap.size wr w') :
    Calls Try.prog 153 #[.slice a xs.length c, .func (.func F) #[] caps] w fun e w' => e = .returned (.int .i64 (idxOf p xs)) ∧ Below w.heap.size w w' := by
  have hln := hr.len
  go_enter Try.func153, Try.ntmps153
  go_wp2
  go_loopw [5, 8] (fun _ i wr => ∃ k : Nat, k ≤ xs.length ∧ i = .int .i64 k ∧ (∀ x ∈ xs.take k, p x = false) ∧ Below w.heap.size w wr) (fun _ i _ => xs.length - (intOf i).toNat)
  case atStart => exact ⟨0, Nat.zero_le _, rfl, by simp, Below.refl _ _⟩
  case round =>
    obtain ⟨k, hk, rfl, hp, hb⟩ := hrel
    have HP : Hid (∀ x ∈ xs.take k, p x = false) := hp
    clear hp
    by_cases hlt : k < xs.length
    · have hr' := hr.below hb (Nat.le_refl _)
      have hix := hr'.idx und_cs siz_cs
      have hcx := hr'.cell k hlt
      have HC : Hid (∀ k (h : k < xs.length) wr, Below w.heap.size w wr → Calls Try.prog F (#[cplx xs[k]] ++ caps) wr fun e w' => e = .returned (.bool (p xs[k])) ∧ Below wr.heap.size wr w') := hclo
      clear hclo
      simp only [List.getElem?_eq_getElem hlt, Option.getD_some] at hcx
      go_wp2_with fail
      refine (HC.out k hlt wr hb).mono ?_
      rintro e w1 ⟨rfl, hb1⟩
      by_cases hpx : p xs[k] = true
      · have HX : Hid (p xs[k] = true) := hpx
        rw [hpx]
        clear hpx
        go_wp2
        go_ret
        refine ⟨ret_int ?_, hb.trans (hb1.mono hb.size)⟩
        rw [idxOf_here HX.out HP.out]
      · have hpx' : p xs[k] = false := by simpa using hpx
        have HX : Hid (p xs[k] = false) := hpx'
        rw [hpx']
        clear hpx hpx'
        go_wp2
        go_roundw
        case rel => exact ⟨k + 1, by omega, by go_num, snoc_none hlt HP.out HX.out, hb.trans (hb1.mono hb.size)⟩
        case measure => simp [intOf]; omega
    · obtain rfl : k = xs.length := by omega
      have HC : Hid (∀ k (h : k < xs.length) wr, Below w.heap.size w wr → Calls Try.prog F (#[cplx xs[k]] ++ caps) wr fun e w' => e = .returned (.bool (p xs[k])) ∧ Below wr.heap.size wr w') := hclo
      clear hclo
      go_wp2
      go_ret
      refine ⟨ret_int ?_, hb⟩
      rw [idxOf_none (by simpa using HP.out)]

set_option maxHeartbeats 400000 in
theorem containsFuncc_any (a : Option Addr) (c : Nat) (xs : List (Nat × Nat)) (w : World) (F : Nat) (caps : Array Value) (p : Nat × Nat → Bool) (hF : ∀ (vs : Array Value) (w : World), (callFunc F vs).run Try.prog w = .ok (.enter F vs) w) (hr : Rd cplx w a c xs)
    (hclo : ∀ k (h : k < xs.length) wr, Below w.heap.size w wr → Calls Try.prog F (#[cplx xs[k]] ++ caps) wr fun e w' => e = .returned (.bool (p xs[k])) ∧ Below wr.heap.size wr w') :
    Calls Try.prog 112 #[.slice a xs.length c, .func (.func F) #[] caps] w fun e w' => e = .returned (.bool (xs.any p)) ∧ Below w.heap.size w w' := by
  have HC := Lib.hid (indexFuncc_any a c xs w F caps p hF hr hclo)
  clear hclo
  go_enter Try.func112, Try.ntmps112
  go_wp2_with fail
  refine HC.out.mono ?_
  rintro e w1 ⟨rfl, hb1⟩
  have HB := Lib.hid (idxOf_any p xs)
  go_wp2
  go_ret
  exact ⟨ret_bool (by simpa using HB.out), hb1⟩

def finL (xs : List (Nat × Nat)) : Prop := ∀ z ∈ xs, isN .f32 z.1 ∧ isN .f32 z.2
theorem conv_cc {a b : Nat} (h1 : isN .f32 a) (h2 : isN .f32 b) (w' : World) : (convert 72 81 (.complex .f32 a b)).run Try.prog w' = .ok (.complex .f64 (wid a) (wid b)) w' :=
  run_convert_complex w' _ _ _ _ _ _ _ _ und_c64 und_c128 (by unfold cConvBits; rw [(wid_val h1).2.2, (wid_val h2).2.2]; rfl)
set_option maxRecDepth 4000 in
set_option maxHeartbeats 800000 in
theorem eqC_any {a1 a2 : Option Addr} {c1 c2 : Nat} {xs : List (Nat × Nat)} {w : World} (hx : Rd cplx w a1 c1 xs) (hy : Rd cplx w a2 c2 xs) (h : finL xs) :
    Calls Try.prog 58 #[.slice a1 xs.length c1, .slice a2 xs.length c2] w fun e w' => e = .returned (.bool true) ∧ Below w.heap.size w w' := by
  have hlx := hx.len
  have hd : ((xs.length : Int) != (xs.length : Int)) = false := by simp
  have HS := Lib.hid h
  clear h
  go_enter Try.func58, Try.ntmps58
  go_wp2
  go_loopw [5] (fun i wr => ∃ k : Nat, k ≤ xs.length ∧ i = .int .i64 k ∧ Below w.heap.size w wr) (fun i _ => xs.length - (intOf i).toNat)
  case atStart => exact ⟨0, Nat.zero_le _, rfl, Below.refl _ _⟩
  case round =>
    obtain ⟨k, hk, rfl, hb⟩ := hrel
    clear hd
    by_cases hlt : k < xs.length
    · have hxr := hx.below hb (Nat.le_refl _)
      have hyr := hy.below hb (Nat.le_refl _)
      have hcx := hxr.cell k hlt
      have hcy := hyr.cell k hlt
      have hix := hxr.idx und_cs siz_cs
      have hiy := hyr.idx und_cs siz_cs
      obtain ⟨g1, g2⟩ := HS.out xs[k] (List.getElem_mem hlt)
      simp only [List.getElem?_eq_getElem hlt, Option.getD_some] at hcx hcy
      have hcv := conv_cc g1 g2
      clear g1 g2
      obtain ⟨z1, z2⟩ := xs[k]
      unfold cplx at hcx hcy
      go_wp2_with fail
      go_region_with (first
          | (go_at_call 55; refine sameComplex_any.mono ?_; rintro e w1 ⟨rfl, hb1⟩))
      all_goals
        go_wp2
        go_roundw
        case rel => exact ⟨k + 1, by omega, by go_num, hb.trans (Below.trans (below_of_drewN _ _ _) (hb1.mono (by simpa using hb.size)))⟩
        case measure => simp [intOf]; omega
    · go_wp2
      go_ret
      exact ⟨rfl, hb⟩

/-- The mark k. -/
def mkC (k : Nat) : Nat × Nat := (narP (floatOfInt .f64 (k : Int)), 1065353216)
theorem one_conv : floatToFloatBits .f64 4607182418800017408 .f32 = some 1065353216 := by decide +kernel
theorem n_one32 : isN .f32 1065353216 := isN_of (by decide +kernel)
theorem mkC_ok {k : Nat} (h : k ≤ 4611686018427387904) : isN .f32 (narP (floatOfInt .f64 (k : Int))) ∧ floatToFloatBits .f64 (floatOfInt .f64 (k : Int)) .f32 = some (narP (floatOfInt .f64 (k : Int))) := by
  have h62 : (k : Int).natAbs ≤ 2 ^ 62 := by rw [Int.natAbs_natCast]; omega
  obtain ⟨h1, h2⟩ := ofInt_RN (k := .f64) (n := (k : Int)) (inT_int h62)
  have hk0 : (0 : Rat) ≤ ((k : Int) : Rat) := by rw [Rat.intCast_natCast]; exact Rat.natCast_nonneg
  have hk1 : ((k : Int) : Rat) ≤ 16777215 * tp 104 := by
    have e1 : ((k : Int) : Rat) ≤ ((4611686018427387904 : Nat) : Rat) := by rw [Rat.intCast_natCast]; exact Rat.natCast_le_natCast.2 h
    have e2 : ((4611686018427387904 : Nat) : Rat) ≤ 16777215 * tp 104 := by decide +kernel
    exact Rat.le_trans e1 e2
  have b0 := h2.dn 0 (rep_zero _) hk0
  have b1 := h2.up _ rep_max hk1
  have hM0 : (0 : Rat) ≤ 16777215 * tp 104 := by decide +kernel
  exact narP_max h1 (by grind) b1
theorem mkC_conv {k : Nat} (h : k ≤ 4611686018427387904) (w' : World) : (convert 81 72 (.complex .f64 (floatOfInt .f64 (k : Int)) 4607182418800017408)).run Try.prog w' = .ok (cplx (mkC k)) w' :=
  run_convert_complex w' _ _ _ _ _ _ _ _ und_c128s und_c64k (by unfold cConvBits; rw [(mkC_ok h).2, one_conv]; rfl)

theorem run_cneq {a b : Nat} (h1 : isN .f32 a) (h2 : isN .f32 b) (w : World) : (binOp .neq 72 (.complex .f32 a b) (.complex .f32 a b)).run Try.prog w = .ok (.bool false) w := by
  have e1 : FloatKind.f32.format.order a a = some .eq := order_self (by obtain ⟨s, m, e, hd⟩ := h1; rw [hd]; rfl)
  have e2 : FloatKind.f32.format.order b b = some .eq := order_self (by obtain ⟨s, m, e, hd⟩ := h2; rw [hd]; rfl)
  simp [binOp, Op.complexOp, Op.Complex.cmp, Op.floatCmp, e1, e2, asBool]
set_option maxRecDepth 20000 in
set_option maxHeartbeats 400000 in
theorem markC_any {a : Option Addr} {c base k0 : Nat} {xs : List (Nat × Nat)} {w : World} (ho : Own cplx 72 w base a c xs) (hk : k0 + xs.length ≤ 4611686018427387904) :
    Calls Try.prog 60 #[.slice a xs.length c, .int .i64 k0] w (RetM cplx 72 w base a c mkC k0 xs.length) := by
  have hsf := @run_store_cx Try.prog
  go_enter Try.func60, Try.ntmps60
  go_wp2
  go_loopw [1, 5] (fun kk i wr => ∃ k : Nat, k ≤ xs.length ∧ i = .int .i64 k ∧ kk = .int .i64 ((k0 + k : Nat) : Int) ∧ Own cplx 72 wr base a c (marks mkC k0 k ++ xs.drop k) ∧ w.grownBy wr (a.map (·.block))) (fun _ i _ => xs.length - (intOf i).toNat)
  case atStart => exact ⟨0, Nat.zero_le _, rfl, rfl, by simpa [marks] using ho, World.grownBy.refl _ _⟩
  case round =>
    obtain ⟨k, hk, rfl, rfl, hw, hg⟩ := hrel
    clear ho
    have hln : (marks mkC k0 k ++ xs.drop k).length = xs.length := by simp [marks_length]; omega
    by_cases hlt : k < xs.length
    · have hio := hw.idx und_cs siz_cs
      rw [hln] at hio
      obtain ⟨v0, hcs⟩ : ∃ v, wr.cell? (elt a k) = some v := ⟨_, hw.cell k (by omega)⟩
      have hfz := hw.free k (by omega)
      have hst := hw.set k (by omega) (mkC (k0 + k))
      rw [marks_set mkC k0 k xs hlt] at hst
      have HG : Hid (wr.grownBy _ _) := hst.2
      have HS : Hid (Own _ _ _ _ _ _ _) := hst.1
      have HC : Hid (w.grownBy _ _) := hg
      have hcv := mkC_conv (k := k0 + k) (by omega)
      generalize hZ : mkC (k0 + k) = Z at *
      obtain ⟨Z1, Z2⟩ := Z
      have hc1 : c1 = 4607182418800017408 := rfl
      simp only [Int.natCast_add, cplx] at hcv
      clear hst hg hln hZ
      go_wp2
      go_roundw
      case rel => exact ⟨k + 1, by omega, by go_num, by go_num, by simpa using HS.out, grown_trans HC.out (by simpa using HG.out)⟩
      case measure => simp [intOf]; omega
    · obtain rfl : k = xs.length := by omega
      have HO : Hid (Own _ _ _ _ _ _ _) := hw
      have HC : Hid (w.grownBy _ _) := hg
      clear hw hln hg
      go_wp2
      go_ret
      exact ⟨rfl, HO.out.cast (by simp), HC.out⟩


set_option maxRecDepth 20000 in
set_option maxHeartbeats 400000 in
theorem heldC_any {a : Option Addr} {c k0 : Nat} {n : Nat} {w : World} (hr : Rd cplx w a c (marks mkC k0 n)) (hk : k0 + n ≤ 4611686018427387904) :
    Calls Try.prog 61 #[.slice a n c, .int .i64 k0] w fun e w' => e = .returned (.int .i64 ((k0 + n : Nat) : Int)) ∧ Below w.heap.size w w' := by
  go_enter Try.func61, Try.ntmps61
  go_wp2
  go_loop [1, 5] (fun kk i => ∃ k : Nat, k ≤ n ∧ i = .int .i64 k ∧ kk = .int .i64 ((k0 + k : Nat) : Int)) (fun _ i => n - (intOf i).toNat)
  case atStart => exact ⟨0, Nat.zero_le _, rfl, rfl⟩
  case round =>
    obtain ⟨k, hk, rfl, rfl⟩ := hrel
    by_cases hlt : k < n
    · have hio := hr.idx und_cs siz_cs
      rw [marks_length] at hio
      have hcs := hr.cell k (by rw [marks_length]; exact hlt)
      rw [marks_get _ _ _ _ hlt, Option.getD_some] at hcs
      have hcv := mkC_conv (k := k0 + k) (by omega)
      have hne := fun w' : World => run_cneq (mkC_ok (k := k0 + k) (by omega)).1 n_one32 w'
      have hZ1 : (mkC (k0 + k)).1 = narP (floatOfInt .f64 ((k0 + k : Nat) : Int)) := rfl
      have hZ2 : (mkC (k0 + k)).2 = 1065353216 := rfl
      rw [← hZ1, ← hZ2] at hne
      clear hZ1 hZ2
      generalize mkC (k0 + k) = Z at *
      obtain ⟨Z1, Z2⟩ := Z
      simp only [Int.natCast_add, cplx] at hcv
      unfold cplx at hcs
      go_wp2
      go_round
      case rel => exact ⟨k + 1, by omega, by go_num, by go_num⟩
      case measure => simp [intOf]; omega
    · obtain rfl : k = n := by omega
      go_wp2
      go_ret
      exact ⟨rfl, Below.refl _ _⟩


end Go.Proofs.Ytfclkbppmkjkeaa

namespace Go.Proofs.Ytfclkbppmkjkeaa
open Go.RowKit
attribute [local go_sem ↓] Go.wp_at_zero Go.wp_at_succ

def cn2 (z : Nat × Nat) : Option Nat × Option Nat := (cn .f32 z.1, cn .f32 z.2)
def linsO (xs : List Nat) (k : Nat) : List (Option Nat × Option Nat) := (List.range k).map fun k => linS xs k xs.length
def linsB (xs : List Nat) : Bool := isVec xs && (linsO xs xs.length).all cfin
def linsR (xs : List Nat) : List (Nat × Nat) := if linsB xs then (linsO xs xs.length).map (fun o => (o.1.getD 0, o.2.getD 0)) else []
theorem linsO_snoc {xs : List Nat} {k : Nat} {O : List (Nat × Nat)} {r i : Nat} (h : O.map cn2 = linsO xs k) (hr : cn .f32 r = (linS xs k xs.length).1) (hi : cn .f32 i = (linS xs k xs.length).2) : (O ++ [(r, i)]).map cn2 = linsO xs (k + 1) := by
  unfold linsO at h ⊢
  rw [List.map_append, h, List.range_succ, List.map_append]
  congr 1
  show [(cn .f32 r, cn .f32 i)] = [_]
  rw [hr, hi]
theorem linsR_no {xs : List Nat} (h : linsB xs = false) : linsR xs = [] := by unfold linsR; rw [h]; rfl
theorem cfin_get {z : Nat × Nat} (h : cfin (cn2 z) = true) : ((cn2 z).1.getD 0, (cn2 z).2.getD 0) = z ∧ isN .f32 z.1 ∧ isN .f32 z.2 := by
  unfold cfin cn2 at h
  rw [Bool.and_eq_true] at h
  obtain ⟨h1, h2⟩ := fin_isN h.1
  obtain ⟨h3, h4⟩ := fin_isN h.2
  unfold cn2
  simp only
  rw [h2, h4]
  exact ⟨rfl, h1, h3⟩
theorem lins_yes {xs : List Nat} {O : List (Nat × Nat)} (hO : O.map cn2 = linsO xs xs.length) (hv : isVec xs = true) (hf : O.all (fun z => cfin (cn2 z)) = true) : linsB xs = true ∧ linsR xs = O := by
  have hb : linsB xs = true := by
    unfold linsB
    rw [hv, ← hO, List.all_map]
    exact hf
  refine ⟨hb, ?_⟩
  unfold linsR
  rw [if_pos hb, ← hO, List.map_map]
  conv => rhs; rw [← List.map_id O]
  exact List.map_congr_left (fun z hz => (cfin_get (List.all_eq_true.1 hf z hz)).1)
theorem lins_no {xs : List Nat} {O : List (Nat × Nat)} (hO : O.map cn2 = linsO xs xs.length) (hf : O.all (fun z => cfin (cn2 z)) = false) : linsB xs = false := by
  unfold linsB
  rw [← hO, List.all_map]
  have : O.all (cfin ∘ cn2) = false := hf
  rw [this, Bool.and_false]
theorem fbin_cn {op : BinOp} {k : FloatKind} {x y : Option Nat} {r : Nat} (h : fbin op k x y = some r) : cn k r = some r := by
  cases x with
  | none => simp [fbin] at h
  | some a =>
    cases y with
    | none => simp [fbin] at h
    | some b =>
      have h' : floatBits op k a b = some r := h
      have := (floatBits_nan h').2.2
      unfold cn; rw [this]; rfl
theorem lin_cn1 {xs : List Nat} {k n : Nat} {r : Nat} {o : Option Nat} (h : linS xs k n = (some r, o)) : cn .f32 r = some r := by
  cases n with
  | zero =>
    have : (some 0, some 0) = (some r, o) := h
    have e : r = 0 := by simpa using (congrArg Prod.fst this).symm
    rw [e]; exact cn_zero
  | succ j => exact fbin_cn (congrArg Prod.fst h)
theorem lin_cn2 {xs : List Nat} {k n : Nat} {r : Nat} {o : Option Nat} (h : linS xs k n = (o, some r)) : cn .f32 r = some r := by
  cases n with
  | zero =>
    have : (some 0, some 0) = (o, some r) := h
    have e : r = 0 := by simpa using (congrArg Prod.snd this).symm
    rw [e]; exact cn_zero
  | succ j => exact fbin_cn (congrArg Prod.snd h)
theorem linsR_fin (xs : List Nat) : finL (linsR xs) := by
  intro z hz
  unfold linsR at hz
  cases hb : linsB xs with
  | false => rw [hb] at hz; simp at hz
  | true =>
    rw [hb, if_pos rfl] at hz
    unfold linsB at hb
    rw [Bool.and_eq_true] at hb
    obtain ⟨o, ho, rfl⟩ := List.mem_map.1 hz
    have h := List.all_eq_true.1 hb.2 o ho
    unfold cfin at h
    rw [Bool.and_eq_true] at h
    obtain ⟨o1, o2⟩ := o
    cases o1 with
    | none => simp [fin] at h
    | some r =>
      cases o2 with
      | none => simp [fin] at h
      | some i =>
        simp only [Option.getD_some]
        unfold linsO at ho
        obtain ⟨k, _, hk⟩ := List.mem_map.1 ho
        have hc1 : cn .f32 r = some r := lin_cn1 hk
        have hc2 : cn .f32 i = some i := lin_cn2 hk
        exact ⟨(fin_isN (by rw [hc1]; exact h.1)).1, (fin_isN (by rw [hc2]; exact h.2)).1⟩
theorem linsR_len (xs : List Nat) : (linsR xs).length ≤ 32 := by
  unfold linsR
  cases hb : linsB xs with
  | false => simp
  | true =>
    rw [if_pos rfl]
    unfold linsB at hb
    rw [Bool.and_eq_true] at hb
    have := (isVec_num hb.1).1
    simp [linsO]; exact this

theorem areLines1_any {z : Nat × Nat} {w : World} : Calls Try.prog 143 #[cplx z] w fun e w' => e = .returned (.bool (!cfin (cn2 z))) ∧ Below w.heap.size w w' := by
  obtain ⟨r, i⟩ := z
  have HC := Lib.hid (isFinC_any (r := r) (i := i) (w := w))
  unfold cn2 cplx
  simp only
  generalize cfin (cn .f32 r, cn .f32 i) = b at *
  go_enter Try.func143, Try.ntmps143
  go_wp2_with fail
  refine HC.out.mono ?_
  rintro e w1 ⟨rfl, b1⟩
  go_wp2
  go_ret
  exact ⟨rfl, b1⟩
theorem call_areLines1 (vs : Array Value) (w : World) : (callFunc 143 vs).run Try.prog w = .ok (.enter 143 vs) w := by kernel_rfl
theorem any_not (O : List (Nat × Nat)) : (O.any fun z => !cfin (cn2 z)) = !(O.all fun z => cfin (cn2 z)) := by
  induction O with
  | nil => rfl
  | cons z O ih => simp only [List.any_cons, List.all_cons, ih, Bool.not_and]
set_option maxHeartbeats 1000000 in
theorem areLines_any {a : Option Addr} {c : Nat} {O : List (Nat × Nat)} {w : World} (hr : Rd cplx w a c O) (h1 : 1 ≤ O.length) (h2 : O.length ≤ 32) :
    Calls Try.prog 103 #[.slice a O.length c] w fun e w' => e = .returned (.bool (O.all fun z => cfin (cn2 z))) ∧ Below w.heap.size w w' := by
  have HC := Lib.hid (containsFuncc_any a c O w 143 #[] (fun z => !cfin (cn2 z)) call_areLines1 hr (fun k h wr hb => areLines1_any))
  rw [any_not] at HC
  have z1 : (1 : Int) ≤ (O.length : Int) := by omega
  have z2 : (O.length : Int) ≤ 32 := by omega
  clear hr
  generalize (O.all fun z => cfin (cn2 z)) = b at *
  go_enter Try.func103, Try.ntmps103
  go_wp2_with fail
  refine HC.out.mono ?_
  rintro e w1 ⟨rfl, b1⟩
  cases b <;> (go_wp2; go_ret; exact ⟨rfl, b1⟩)

set_option maxHeartbeats 1000000 in
theorem l02CFinite_any {a : Option Addr} {c : Nat} {O : List (Nat × Nat)} {w : World} (hr : Rd cplx w a c O) :
    Calls Try.prog 123 #[.slice a O.length c] w fun e w' => e = .returned (.bool (O.all fun z => cfin (cn2 z))) ∧ Below w.heap.size w w' := by
  have hln := hr.len
  have HR := Lib.hid hr
  clear hr
  generalize hBB : (O.all fun z => cfin (cn2 z)) = BB
  have HBB := Lib.hid hBB
  clear hBB
  go_enter Try.func123, Try.ntmps123
  go_wp2
  go_loopw [3] (fun i wr => ∃ k : Nat, k ≤ O.length ∧ i = .int .i64 k ∧ Hid (∀ z ∈ O.take k, cfin (cn2 z) = true) ∧ Hid (Below w.heap.size w wr)) (fun i _ => O.length - (intOf i).toNat)
  case atStart => exact ⟨0, Nat.zero_le _, rfl, Lib.hid (by simp), Lib.hid (Below.refl _ _)⟩
  case round =>
    obtain ⟨k, hk, rfl, HP, HB⟩ := hrel
    by_cases hlt : k < O.length
    · have hltz : (k : Int) < (O.length : Int) := by omega
      have ewk : IntKind.i64.wrap ((k : Int) + 1) = (k : Int) + 1 := IntWalk.i64_in _ (by omega)
      have hr' := HR.out.below HB.out (Nat.le_refl _)
      have hix := hr'.idx und_cs siz_cs wr k hlt
      have hcx := hr'.cell k hlt
      simp only [List.getElem?_eq_getElem hlt, Option.getD_some] at hcx
      clear hr'
      obtain ⟨z, hz⟩ : ∃ z, O[k] = z := ⟨_, rfl⟩
      rw [hz] at hcx
      have HZ := Lib.hid hz
      clear hz
      unfold cplx at hcx
      go_wp2_with fail
      refine (cFinite_any (r := z.1) (i := z.2)).mono ?_
      rintro e w1 ⟨rfl, b1⟩
      have HB1 := Lib.hid (HB.out.trans (b1.mono HB.out.size))
      have hcc : cfin (cn .f32 z.1, cn .f32 z.2) = cfin (cn2 z) := rfl
      rw [hcc]
      clear b1 hcc HB hix hcx
      cases hb : cfin (cn2 z) with
      | true =>
        have HN : Hid (∀ z ∈ O.take (k + 1), cfin (cn2 z) = true) := Lib.hid (fun y hy => by
          rw [List.take_add_one, List.getElem?_eq_getElem hlt, HZ.out, List.mem_append] at hy
          rcases hy with hy | hy
          · exact HP.out y hy
          · obtain rfl : y = z := by simpa using hy
            exact hb)
        clear hb HP HZ
        go_wp2
        go_roundw
        case rel => exact ⟨k + 1, by omega, by go_num, HN, HB1⟩
        case measure => simp [intOf]; omega
      | false =>
        have hF : BB = false := by
          rw [← HBB.out, Bool.eq_false_iff]
          intro h
          have h2 := List.all_eq_true.1 h z (by rw [← HZ.out]; exact List.getElem_mem hlt)
          rw [hb] at h2; cases h2
        subst hF
        clear hb HP HZ HBB
        go_wp2
        go_ret
        exact ⟨rfl, HB1.out⟩
    · obtain rfl : k = O.length := by omega
      have hltz : ¬ (O.length : Int) < (O.length : Int) := by omega
      have hT : BB = true := by
        rw [← HBB.out]
        exact List.all_eq_true.2 (fun z hz => HP.out z (by rw [List.take_length]; exact hz))
      subst hT
      clear HBB HP
      go_wp2
      go_ret
      exact ⟨rfl, HB.out⟩

set_option maxRecDepth 20000 in
set_option maxHeartbeats 4000000 in
theorem implLinesOf_any {a : Option Addr} {c : Nat} {xs : List Nat} {w : World} (hr : Rd (Value.float .f32) w a c xs) :
    Calls Try.prog 46 #[.slice a xs.length c] w (RetSB cplx 72 w (linsR xs) (linsB xs)) := by
  have hln := hr.len
  have HV := Lib.hid (isVector_any hr)
  cases hv : isVec xs with
  | false =>
    rw [hv] at HV
    have hb : linsB xs = false := by unfold linsB; rw [hv]; rfl
    rw [linsR_no hb, hb]
    clear hr hb
    go_enter Try.func46, Try.ntmps46
    go_wp2_with fail
    refine HV.out.mono ?_
    rintro e w1 ⟨rfl, b1⟩
    go_wp2
    go_ret2
    exact retSB_no b1
  | true =>
    rw [hv] at HV
    obtain ⟨h32, h1, hN⟩ := isVec_num hv
    have HLN : Hid (∀ (k : Nat) (w' : World), k < xs.length → Rd (Value.float .f32) w' a c xs → Calls Try.prog 102 #[.slice a xs.length c, .int .i64 (k : Int)] w' (RetC w' (linS xs k xs.length))) := Lib.hid (fun k w' hk g => implLine_any g hN h32 hk)
    have HR := Lib.hid hr
    have HVV := Lib.hid hv
    clear hr hN hv
    generalize hLR : linsR xs = LR
    generalize hLB : linsB xs = LB
    have HLR := Lib.hid hLR
    have HLB := Lib.hid hLB
    clear hLR hLB
    go_enter Try.func46, Try.ntmps46
    go_wp2_with fail
    refine HV.out.mono ?_
    rintro e w1 ⟨rfl, b1⟩
    go_wp2_with fail
    go_loopw [4, 5, 12] (fun o _ i wr => ∃ (k : Nat) (a : Option Addr) (c : Nat) (O : List (Nat × Nat)), k ≤ xs.length ∧ i = .int .i64 k ∧ o = .slice a O.length c ∧ O.length = k ∧ Hid (Own cplx 72 wr w.heap.size a c O) ∧ Hid (O.map cn2 = linsO xs k) ∧ Hid (Below w.heap.size w wr)) (fun _ _ i _ => xs.length - (intOf i).toNat)
    case atStart => exact ⟨0, _, _, [], Nat.zero_le _, rfl, rfl, rfl, Lib.hid (own_empty w1 _ b1.size rfl), Lib.hid rfl, Lib.hid (b1.alloc b1.size _)⟩
    case round =>
      obtain ⟨k, a1, c1, O, hk, rfl, rfl, hOl, HO, HM, HB⟩ := hrel
      have HOL := Lib.hid hOl
      have hOk : O.length ≤ 32 := by omega
      have hOk2 : O.length = k := hOl
      clear hOl b1
      by_cases hlt : k < xs.length
      · have hltz : (k : Int) < (xs.length : Int) := by omega
        have ewk : IntKind.i64.wrap ((k : Int) + 1) = (k : Int) + 1 := IntWalk.i64_in _ (by omega)
        clear hOk2
        go_wp2_with fail
        refine (HLN.out k _ hlt (HR.out.below HB.out (Nat.le_refl _))).mono ?_
        rintro e w3 ⟨r, i, rfl, hr, hi, b3⟩
        have HM3 := Lib.hid (linsO_snoc HM.out hr hi)
        have HB3 := Lib.hid (HB.out.trans (b3.mono HB.out.size))
        have HO3 := Lib.hid (HO.out.below b3 (Nat.le_refl _))
        clear hr hi b3 HM HB HO
        have hz3 := HB3.out.size
        go_wp2_with (at_builtin; refine wpl_append1 (f := cplx) (d := (0, 0)) (base := w.heap.size) und_cse info_c (fun _ => rfl) (r, i) HO3.out rfl _ _ rfl rfl rfl (by omega) (by omega) hz3 ?_; intro a3 c3 w5 ho3 hg3; have HO5 := Lib.hid ho3; have HB5 := Lib.hid (HB3.out.trans (grown_belowOwn HO3.out hg3 (Nat.le_refl _) hz3)); clear ho3 hg3)
        go_roundw
        case rel => exact ⟨k + 1, a3, c3, _, by omega, by go_num, by rw [List.length_append]; rfl, by simp [HOL.out], HO5, HM3, HB5⟩
        case measure => simp [intOf]; omega
      · obtain rfl : k = xs.length := by omega
        have hltz : ¬ (xs.length : Int) < (xs.length : Int) := by omega
        have HYES := Lib.hid (fun h => lins_yes HM.out HVV.out h)
        have HNO := Lib.hid (fun h => lins_no HM.out h)
        have HF := Lib.hid (areLines_any HO.out.rd (by omega) hOk)
        clear HM HVV hOk2 HLN HR
        rw [HLR.out, HLB.out] at HYES
        rw [HLB.out] at HNO
        have hrl := fun h : LB = false => linsR_no (HLB.out.trans h)
        rw [HLR.out] at hrl
        have HRL := Lib.hid hrl
        clear hrl
        generalize (O.all fun z => cfin (cn2 z)) = F at *
        go_wp2_with fail
        refine HF.out.mono ?_
        rintro e w3 ⟨rfl, b3⟩
        have HB3 := Lib.hid (HB.out.trans (b3.mono HB.out.size))
        have HO3 := Lib.hid (HO.out.below b3 (Nat.le_refl _))
        clear b3 HB HO
        cases F with
        | false =>
          have e2 := HNO.out rfl
          have e1 := HRL.out e2
          subst e2
          subst e1
          clear HYES HNO HRL HLR HLB
          go_wp2
          go_ret2
          exact retSB_no HB3.out
        | true =>
          obtain ⟨e2, e1⟩ := HYES.out rfl
          subst e2
          subst e1
          clear HYES HNO HRL HLR HLB
          go_wp2
          go_ret2
          exact ⟨a1, c1, rfl, HO3.out, HB3.out⟩

set_option maxRecDepth 20000 in
set_option maxHeartbeats 4000000 in
theorem specLinesOf_any {a : Option Addr} {c : Nat} {xs : List Nat} {w : World} (hr : Rd (Value.float .f32) w a c xs) :
    Calls Try.prog 57 #[.slice a xs.length c] w (RetSB cplx 72 w (linsR xs) (linsB xs)) := by
  have hln := hr.len
  have HV := Lib.hid (l07Vector_any hr)
  cases hv : isVec xs with
  | false =>
    rw [hv] at HV
    have hb : linsB xs = false := by unfold linsB; rw [hv]; rfl
    rw [linsR_no hb, hb]
    clear hr hb
    go_enter Try.func57, Try.ntmps57
    go_wp2_with fail
    refine HV.out.mono ?_
    rintro e w1 ⟨rfl, b1⟩
    go_wp2
    go_ret2
    exact retSB_no b1
  | true =>
    rw [hv] at HV
    obtain ⟨h32, h1, hN⟩ := isVec_num hv
    have HLN : Hid (∀ (k : Nat) (w' : World), k < xs.length → Rd (Value.float .f32) w' a c xs → Calls Try.prog 121 #[.slice a xs.length c, .int .i64 (k : Int)] w' (RetC w' (linS xs k xs.length))) := Lib.hid (fun k w' hk g => specLine_any g hN h32 hk)
    have HR := Lib.hid hr
    have HVV := Lib.hid hv
    clear hr hN hv
    generalize hLR : linsR xs = LR
    generalize hLB : linsB xs = LB
    have HLR := Lib.hid hLR
    have HLB := Lib.hid hLB
    clear hLR hLB
    go_enter Try.func57, Try.ntmps57
    go_wp2_with fail
    refine HV.out.mono ?_
    rintro e w1 ⟨rfl, b1⟩
    go_wp2_with fail
    go_loopw [4, 5, 12] (fun o _ i wr => ∃ (k : Nat) (a : Option Addr) (c : Nat) (O : List (Nat × Nat)), k ≤ xs.length ∧ i = .int .i64 k ∧ o = .slice a O.length c ∧ O.length = k ∧ Hid (Own cplx 72 wr w.heap.size a c O) ∧ Hid (O.map cn2 = linsO xs k) ∧ Hid (Below w.heap.size w wr)) (fun _ _ i _ => xs.length - (intOf i).toNat)
    case atStart => exact ⟨0, _, _, [], Nat.zero_le _, rfl, rfl, rfl, Lib.hid (own_empty w1 _ b1.size rfl), Lib.hid rfl, Lib.hid (b1.alloc b1.size _)⟩
    case round =>
      obtain ⟨k, a1, c1, O, hk, rfl, rfl, hOl, HO, HM, HB⟩ := hrel
      have HOL := Lib.hid hOl
      have hOk : O.length ≤ 32 := by omega
      have hOk2 : O.length = k := hOl
      clear hOl b1
      by_cases hlt : k < xs.length
      · have hltz : (k : Int) < (xs.length : Int) := by omega
        have ewk : IntKind.i64.wrap ((k : Int) + 1) = (k : Int) + 1 := IntWalk.i64_in _ (by omega)
        clear hOk2
        go_wp2_with fail
        refine (HLN.out k _ hlt (HR.out.below HB.out (Nat.le_refl _))).mono ?_
        rintro e w3 ⟨r, i, rfl, hr, hi, b3⟩
        have HM3 := Lib.hid (linsO_snoc HM.out hr hi)
        have HB3 := Lib.hid (HB.out.trans (b3.mono HB.out.size))
        have HO3 := Lib.hid (HO.out.below b3 (Nat.le_refl _))
        clear hr hi b3 HM HB HO
        have hz3 := HB3.out.size
        go_wp2_with (at_builtin; refine wpl_append1 (f := cplx) (d := (0, 0)) (base := w.heap.size) und_cse info_c (fun _ => rfl) (r, i) HO3.out rfl _ _ rfl rfl rfl (by omega) (by omega) hz3 ?_; intro a3 c3 w5 ho3 hg3; have HO5 := Lib.hid ho3; have HB5 := Lib.hid (HB3.out.trans (grown_belowOwn HO3.out hg3 (Nat.le_refl _) hz3)); clear ho3 hg3)
        go_roundw
        case rel => exact ⟨k + 1, a3, c3, _, by omega, by go_num, by rw [List.length_append]; rfl, by simp [HOL.out], HO5, HM3, HB5⟩
        case measure => simp [intOf]; omega
      · obtain rfl : k = xs.length := by omega
        have hltz : ¬ (xs.length : Int) < (xs.length : Int) := by omega
        have HYES := Lib.hid (fun h => lins_yes HM.out HVV.out h)
        have HNO := Lib.hid (fun h => lins_no HM.out h)
        have HF := Lib.hid (l02CFinite_any HO.out.rd)
        clear HM HVV hOk2 HLN HR
        rw [HLR.out, HLB.out] at HYES
        rw [HLB.out] at HNO
        have hrl := fun h : LB = false => linsR_no (HLB.out.trans h)
        rw [HLR.out] at hrl
        have HRL := Lib.hid hrl
        clear hrl
        generalize (O.all fun z => cfin (cn2 z)) = F at *
        go_wp2_with fail
        refine HF.out.mono ?_
        rintro e w3 ⟨rfl, b3⟩
        have HB3 := Lib.hid (HB.out.trans (b3.mono HB.out.size))
        have HO3 := Lib.hid (HO.out.below b3 (Nat.le_refl _))
        clear b3 HB HO
        cases F with
        | false =>
          have e2 := HNO.out rfl
          have e1 := HRL.out e2
          subst e2
          subst e1
          clear HYES HNO HRL HLR HLB
          go_wp2
          go_ret2
          exact retSB_no HB3.out
        | true =>
          obtain ⟨e2, e1⟩ := HYES.out rfl
          subst e2
          subst e1
          clear HYES HNO HRL HLR HLB
          go_wp2
          go_ret2
          exact ⟨a1, c1, rfl, HO3.out, HB3.out⟩

end Go.Proofs.Ytfclkbppmkjkeaa
