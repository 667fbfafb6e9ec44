/- A line of a vector in both texts: walked. LineOf in both texts: walked. The walk of the law FnExactLineOf. -/
import Derived.Test.YtdpolaedfjljmaaQLNO5
import Derived.Test.YtdpolaedfjljmaaQLNO2
import Derived.Test.YtdpolaedfjljmaaQLNO0
import Derived.StillTailTactics
import Derived.Deep.Cut
import Derived.Deep.CutBlock
namespace Go.Proofs.Ytdpolaedfjljmaa
open Go.RowKit
attribute [local go_sem ↓] Go.wp_at_zero Go.wp_at_succ

theorem fin_isN {x : Nat} (h : fin .f32 (cn .f32 x) = true) : isN .f32 x ∧ cn .f32 x = some x := by
  unfold isN
  cases hd : FloatKind.f32.decode x with
  | number s m e => exact ⟨⟨s, m, e, rfl⟩, by unfold cn; rw [hd]; rfl⟩
  | infinity s =>
    have : cn .f32 x = some x := by unfold cn; rw [hd]; rfl
    rw [this] at h
    unfold fin at h
    simp only [hd] at h
    cases h
  | nan s t =>
    have : cn .f32 x = none := by unfold cn; rw [hd]; rfl
    rw [this] at h
    cases h
theorem isN_cn {k : FloatKind} {x : Nat} (h : isN k x) : cn k x = some x := by
  obtain ⟨s, m, e, hd⟩ := h
  unfold cn; rw [hd]; rfl

/-- Turns: -t / n. -/
def quoT (t n : Nat) : Nat := fo .quo (floatOfInt .f64 (t : Int)) (floatOfInt .f64 (n : Int))
def negT (t n : Nat) : Nat := Op.negFloat .f64 (quoT t n)
structure TurnsOk (t n : Nat) : Prop where
  q : fbin .quo .f64 (some (floatOfInt .f64 (t : Int))) (some (floatOfInt .f64 (n : Int))) = some (quoT t n)
  qN : isN .f64 (quoT t n)
  q0 : 0 ≤ val .f64 (quoT t n)
  q1 : val .f64 (quoT t n) ≤ 32
  qw : quoT t n < 18446744073709551616
  N : isN .f64 (negT t n)
  lo : -1024 ≤ val .f64 (negT t n)
  hi : val .f64 (negT t n) ≤ 1024
  w : negT t n < 18446744073709551616
theorem turns_ok {t n : Nat} (hn : 1 ≤ n) (hn2 : n ≤ 32) (ht : t ≤ 32 * n) : TurnsOk t n := by
  have hb : (2 : Nat) ^ (fB .f64 + 1) = 9007199254740992 := by decide
  obtain ⟨i1, i2⟩ := ofInt_val (k := .f64) (n := (t : Int)) (by rw [hb]; omega)
  obtain ⟨j1, j2⟩ := ofInt_val (k := .f64) (n := (n : Int)) (by rw [hb]; omega)
  rw [Rat.intCast_natCast] at i2 j2
  have hn1 : (1 : Rat) ≤ (n : Rat) := Rat.natCast_le_natCast.2 hn
  obtain ⟨x, hx, _⟩ := div_ex (a := (t : Rat)) (d := (n : Rat)) (by grind)
  have hx0 : 0 ≤ x := by
    refine Rat.le_of_mul_le_mul_right (c := (n : Rat)) ?_ (by grind)
    rw [hx, Rat.zero_mul]; exact Rat.natCast_nonneg
  have hx1 : x ≤ 32 := by
    refine Rat.le_of_mul_le_mul_right (c := (n : Rat)) ?_ (by grind)
    rw [hx]
    have h := Rat.natCast_le_natCast.2 ht
    rw [Rat.natCast_mul] at h
    exact h
  have a := fo_quo i1 j1 (by rw [j2]; grind) (by rw [i2, j2]; exact hx) (by grind) (by grind)
  have b0 := a.2.2.dn 0 (rep_zero _) hx0
  have b1 := a.2.2.up 32 (rep64i 32 (by decide)) hx1
  have hw : quoT t n < 18446744073709551616 := by
    have h := floatBits_wf (show floatBits .quo .f64 _ _ = some (quoT t n) from a.1)
    simpa [Lit.wf] using h
  have a1 : fbin .quo .f64 (some (floatOfInt .f64 (t : Int))) (some (floatOfInt .f64 (n : Int))) = some (quoT t n) := a.1
  have a2 : isN .f64 (quoT t n) := a.2.1
  obtain ⟨g1, g2, g3⟩ := neg_val a2 hw
  have b0 : 0 ≤ val .f64 (quoT t n) := b0
  have b1 : val .f64 (quoT t n) ≤ 32 := b1
  exact ⟨a1, a2, b0, b1, hw, g1, by show _ ≤ val .f64 (Op.negFloat .f64 (quoT t n)); rw [g2]; grind, by show val .f64 (Op.negFloat .f64 (quoT t n)) ≤ _; rw [g2]; grind, g3⟩

/-- The product of round j. -/
def lpRe (x t n : Nat) : Nat := narP (mRe (wid x) (wid 0) (wid (narP (phaRe (negT t n)))) (wid (narP (phaIm (negT t n)))))
def lpIm (x t n : Nat) : Nat := narP (mIm (wid x) (wid 0) (wid (narP (phaRe (negT t n)))) (wid (narP (phaIm (negT t n)))))
theorem zero32 : isN .f32 0 := isN_of (by decide +kernel)
theorem val32_0 : val .f32 0 = 0 := by decide +kernel
/-- A round of a line. -/
structure LpOk (x t n : Nat) : Prop where
  T : TurnsOk t n
  X : isN .f32 x
  c : isN .f32 (narP (phaRe (negT t n)))
  s : isN .f32 (narP (phaIm (negT t n)))
  m : MulOk (wid x) (wid 0) (wid (narP (phaRe (negT t n)))) (wid (narP (phaIm (negT t n))))
  re : isN .f32 (lpRe x t n)
  im : isN .f32 (lpIm x t n)
theorem lp_ok {x t n : Nat} (hx : isN .f32 x) (hn : 1 ≤ n) (hn2 : n ≤ 32) (ht : t ≤ 32 * n) : LpOk x t n := by
  have T := turns_ok hn hn2 ht
  have P := pha_ok T.N T.lo T.hi
  obtain ⟨⟨⟨c1, c2, c3⟩, _⟩, ⟨⟨s1, s2, s3⟩, _⟩⟩ := pha_parts P
  obtain ⟨a1, a2, _⟩ := wid_val hx
  obtain ⟨z1, z2, _⟩ := wid_val zero32
  obtain ⟨p1, p2, _⟩ := wid_val c1
  obtain ⟨q1, q2, _⟩ := wid_val s1
  obtain ⟨v1, v2⟩ := val32_max hx
  obtain ⟨M, r, i⟩ := mul_ok a1 z1 p1 q1 (by rw [a2]; exact v1) (by rw [a2]; exact v2) (by rw [z2]; exact val32_0) (by rw [p2]; exact c2) (by rw [p2]; exact c3) (by rw [q2]; exact s2) (by rw [q2]; exact s3)
  exact ⟨T, hx, c1, s1, M, r, i⟩

/-- The sums of the first rounds of line k. -/
def linS (xs : List Nat) (k : Nat) : Nat → Option Nat × Option Nat
  | 0 => (some 0, some 0)
  | j + 1 => (fbin .add .f32 (linS xs k j).1 (some (lpRe (xs.getD j 0) (j * k) xs.length)), fbin .add .f32 (linS xs k j).2 (some (lpIm (xs.getD j 0) (j * k) xs.length)))

/-- A complex number, whatever the bits of a NaN are. -/
def RetC (w : World) (o : Option Nat × Option Nat) (e : Ending) (w' : World) : Prop := ∃ r i, e = .returned (.complex .f32 r i) ∧ cn .f32 r = o.1 ∧ cn .f32 i = o.2 ∧ Below w.heap.size w w'
def RetCB (w : World) (o : Option Nat × Option Nat) (b : Bool) (e : Ending) (w' : World) : Prop := ∃ r i, e = .returned (.tuple #[.complex .f32 r i, .bool b]) ∧ cn .f32 r = o.1 ∧ cn .f32 i = o.2 ∧ Below w.heap.size w w'

set_option maxHeartbeats 1000000 in
theorem cadd_any {a b c d : Nat} {w : World} : Calls Try.prog 149 #[.complex .f32 a b, .complex .f32 c d] w (RetC w (fbin .add .f32 (cn .f32 a) (cn .f32 c), fbin .add .f32 (cn .f32 b) (cn .f32 d))) := by
  go_enter Try.func149, Try.ntmps149
  go_wp2_with (first | (refine wpl_fbin rfl _ _ _ _ _ rfl rfl .f32 _ _ rfl rfl ?_; rintro r w' ⟨n, rfl⟩ hr; have HR := Lib.hid hr; clear hr))
  rename_i r1 n1 HR1
  go_ret
  exact ⟨_, _, rfl, HR1.out, HR.out, below_of_drewN _ _ _⟩

set_option maxHeartbeats 1000000 in
theorem turnsOf_any {j k n : Nat} {w : World} (h : TurnsOk (j * k) n) (hj : j ≤ 32) (hk : k ≤ 32) : Calls Try.prog 152 #[.int .i64 (j : Int), .int .i64 (k : Int), .int .i64 (n : Int)] w fun e w' => e = .returned (.float .f64 (quoT (j * k) n)) ∧ w = w' := by
  have a := ar h.q 117
  clear h
  have hjk : j * k ≤ 1024 := Nat.le_trans (Nat.mul_le_mul hj hk) (by omega)
  have e : IntKind.i64.wrap ((j : Int) * (k : Int)) = ((j * k : Nat) : Int) := by
    have : (j : Int) * (k : Int) = ((j * k : Nat) : Int) := by push_cast; rfl
    rw [this]; exact IntWalk.i64_in _ (by omega)
  obtain ⟨t, ht⟩ : ∃ t, j * k = t := ⟨_, rfl⟩
  rw [ht] at a e ⊢
  clear ht hjk
  generalize quoT t n = q at *
  go_enter Try.func152, Try.ntmps152
  go_wp2
  go_ret
  exact ⟨rfl, rfl⟩

set_option maxRecDepth 20000 in
set_option maxHeartbeats 4000000 in
theorem implLine_any {a : Option Addr} {c : Nat} {xs : List Nat} {k : Nat} {w : World} (hr : Rd (Value.float .f32) w a c xs) (hf : ∀ x ∈ xs, isN .f32 x) (hn : xs.length ≤ 32) (hk : k < xs.length) :
    Calls Try.prog 104 #[.slice a xs.length c, .int .i64 (k : Int)] w (RetC w (linS xs k xs.length)) := by
  have HOK : Hid (∀ j (hj : j < xs.length), LpOk xs[j] (j * k) xs.length) := Lib.hid (fun j hj => lp_ok (hf _ (List.getElem_mem hj)) (by omega) hn (Nat.le_trans (Nat.mul_le_mul (show j ≤ 32 by omega) (Nat.le_of_lt hk)) (Nat.le_refl _)))
  have HLS : Hid (∀ j (hj : j < xs.length), linS xs k (j + 1) = (fbin .add .f32 (linS xs k j).1 (some (lpRe xs[j] (j * k) xs.length)), fbin .add .f32 (linS xs k j).2 (some (lpIm xs[j] (j * k) xs.length)))) := Lib.hid (fun j hj => by
    show (_, _) = (_, _)
    rw [List.getD_eq_getElem?_getD, List.getElem?_eq_getElem hj]; rfl)
  have HL0 : Hid (linS xs k 0 = (some 0, some 0)) := Lib.hid rfl
  have HR := Lib.hid hr
  clear hr hf
  generalize hls : linS xs k = ls at *
  clear hls
  go_enter Try.func104, Try.ntmps104
  go_wp2
  go_loopw [5, 10] (fun si ji wr => ∃ j r i : Nat, j ≤ xs.length ∧ si = .complex .f32 r i ∧ ji = .int .i64 (j : Int) ∧ Hid (cn .f32 r = (ls j).1) ∧ Hid (cn .f32 i = (ls j).2) ∧ Hid (Below w.heap.size w wr)) (fun _ ji _ => xs.length - (intOf ji).toNat)
  case atStart => exact ⟨0, 0, 0, by omega, rfl, rfl, Lib.hid (by rw [HL0.out]; decide), Lib.hid (by rw [HL0.out]; decide), Lib.hid (Below.refl _ _)⟩
  case round =>
    obtain ⟨j, r, i, hj, rfl, rfl, H1, H2, HB⟩ := hrel
    by_cases hlt : j < xs.length
    · have hltz : (j : Int) < (xs.length : Int) := by omega
      have ewj : IntKind.i64.wrap ((j : Int) + 1) = (j : Int) + 1 := IntWalk.i64_in _ (by omega)
      have hix := (HR.out.below HB.out (Nat.le_refl _)).idx und_fs siz_fs wr j hlt
      have hcx := (HR.out.below HB.out (Nat.le_refl _)).cell j hlt
      simp only [List.getElem?_eq_getElem hlt, Option.getD_some] at hcx
      have O := HOK.out j hlt
      have HS := HLS.out j hlt
      have hneg : ∀ w' : World, (Op.unary .neg (.float .f64 (quoT (j * k) xs.length))).run Try.prog w' = .ok (.float .f64 (negT (j * k) xs.length)) w' := fun _ => rfl
      generalize xs[j] = x at *
      have HO := Lib.hid O
      have HSS := Lib.hid HS
      clear O HS
      go_wp2_with fail
      refine (turnsOf_any HO.out.T (by omega) (by omega)).mono ?_
      rintro e w' ⟨rfl, rfl⟩
      go_wp2_with fail
      refine (implPhasor_any (x := negT (j * k) xs.length) HO.out.T.N HO.out.T.w HO.out.T.lo HO.out.T.hi).mono ?_
      rintro e w' ⟨rfl, rfl⟩
      go_wp2_with fail
      refine (implMul_any HO.out.X zero32 HO.out.c HO.out.s HO.out.m).mono ?_
      rintro e w' ⟨rfl, rfl⟩
      go_wp2_with fail
      refine cadd_any.mono ?_
      rintro e w1 ⟨r1, i1, rfl, h1, h2, b1⟩
      have H3 : Hid (cn .f32 r1 = (ls (j + 1)).1) := Lib.hid (by rw [HSS.out, h1]; show fbin .add .f32 (cn .f32 r) (cn .f32 (lpRe x (j * k) xs.length)) = _; rw [isN_cn HO.out.re, H1.out])
      have H4 : Hid (cn .f32 i1 = (ls (j + 1)).2) := Lib.hid (by rw [HSS.out, h2]; show fbin .add .f32 (cn .f32 i) (cn .f32 (lpIm x (j * k) xs.length)) = _; rw [isN_cn HO.out.im, H2.out])
      have HB1 := Lib.hid (HB.out.trans (b1.mono HB.out.size))
      clear h1 h2 b1 H1 H2 HO HSS hix hcx
      go_wp2
      go_roundw
      case rel => exact ⟨j + 1, r1, i1, by omega, rfl, by go_num, H3, H4, HB1⟩
      case measure => simp [intOf]; omega
    · obtain rfl : j = xs.length := by omega
      have hltz : ¬ (xs.length : Int) < (xs.length : Int) := by omega
      go_wp2
      go_ret
      exact ⟨r, i, rfl, H1.out, H2.out, HB.out⟩

/-- + on complex64s: the result, whatever bits a NaN gets. -/
theorem run_cadd (w : World) (t : TypeId) (a b c d : Nat) :
    ∃ r i w', (binOp .add t (.complex .f32 a b) (.complex .f32 c d)).run Try.prog w = .ok (.complex .f32 r i) w' ∧ (∃ n, w' = w.drewN n) ∧ cn .f32 r = fbin .add .f32 (cn .f32 a) (cn .f32 c) ∧ cn .f32 i = fbin .add .f32 (cn .f32 b) (cn .f32 d) := by
  obtain ⟨r, w1, h1, ⟨n1, hn1⟩, hc1⟩ := run_fbin (P := Try.prog) w .add rfl t .f32 a c
  obtain ⟨i, w2, h2, ⟨n2, hn2⟩, hc2⟩ := run_fbin (P := Try.prog) w1 .add rfl t .f32 b d
  refine ⟨r, i, w2, ?_, ⟨n1 + n2, ?_⟩, hc1, hc2⟩
  · have h1' : (Op.floatArith .add .f32 a c).run Try.prog w = .ok (.float .f32 r) w1 := h1
    have h2' : (Op.floatArith .add .f32 b d).run Try.prog w1 = .ok (.float .f32 i) w2 := h2
    simp [binOp, Op.complexOp, Op.Complex.arith, h1', h2', Result.andThen]
  · rw [hn2, hn1]
    simp [World.drewN, Nat.add_assoc]
theorem wpl_cadd {w : World} {ops : Array Oper} {rest : List Oper} {o : Oper} {ac : Act} {Q : Exit → Act → World → Prop}
    (hw : Region.wanted o (yielded ops ac.tmps) = true) (t t2 : TypeId) (x y : Operand) (hop : o.op = .binOp .add t x y t2) (a b c d : Nat)
    (hx : ac.eval x = .complex .f32 a b) (hy : ac.eval y = .complex .f32 c d)
    (hK : ∀ r i w', (∃ n, w' = w.drewN n) → cn .f32 r = fbin .add .f32 (cn .f32 a) (cn .f32 c) → cn .f32 i = fbin .add .f32 (cn .f32 b) (cn .f32 d) → wpList Try.prog ops Q rest (ac.put o.dst (.complex .f32 r i)) w') : wpList Try.prog ops Q (o :: rest) ac w := by
  obtain ⟨r, i, w', hru, hn, hc, hd⟩ := run_cadd w t a b c d
  have hge : (eqGuard .add t x y (.complex .f32 a b) (.complex .f32 c d)).run Try.prog w = .ok () w := rfl
  unfold wpList
  rw [if_pos hw]
  left
  unfold Oper.wp execOp
  simp only [hop, Sem.run_bind, Sem.run_pure, Result.andThen_ok, hx, hy, hge, hru]
  exact hK r i w' hn hc hd

set_option maxRecDepth 20000 in
set_option maxHeartbeats 4000000 in
theorem specLine_any {a : Option Addr} {c : Nat} {xs : List Nat} {k : Nat} {w : World} (hr : Rd (Value.float .f32) w a c xs) (hf : ∀ x ∈ xs, isN .f32 x) (hn : xs.length ≤ 32) (hk : k < xs.length) :
    Calls Try.prog 101 #[.slice a xs.length c, .int .i64 (k : Int)] w (RetC w (linS xs k xs.length)) := by
  have HOK : Hid (∀ j (hj : j < xs.length), LpOk xs[j] (j * k) xs.length) := Lib.hid (fun j hj => lp_ok (hf _ (List.getElem_mem hj)) (by omega) hn (Nat.le_trans (Nat.mul_le_mul (show j ≤ 32 by omega) (Nat.le_of_lt hk)) (Nat.le_refl _)))
  have HLS : Hid (∀ j (hj : j < xs.length), linS xs k (j + 1) = (fbin .add .f32 (linS xs k j).1 (some (lpRe xs[j] (j * k) xs.length)), fbin .add .f32 (linS xs k j).2 (some (lpIm xs[j] (j * k) xs.length)))) := Lib.hid (fun j hj => by
    show (_, _) = (_, _)
    rw [List.getD_eq_getElem?_getD, List.getElem?_eq_getElem hj]; rfl)
  have HL0 : Hid (linS xs k 0 = (some 0, some 0)) := Lib.hid rfl
  have HR := Lib.hid hr
  clear hr hf
  generalize hls : linS xs k = ls at *
  clear hls
  go_enter Try.func101, Try.ntmps101
  go_wp2
  go_loopw [5, 10] (fun si ji wr => ∃ j r i : Nat, j ≤ xs.length ∧ si = .complex .f32 r i ∧ ji = .int .i64 (j : Int) ∧ Hid (cn .f32 r = (ls j).1) ∧ Hid (cn .f32 i = (ls j).2) ∧ Hid (Below w.heap.size w wr)) (fun _ ji _ => xs.length - (intOf ji).toNat)
  case atStart => exact ⟨0, 0, 0, by omega, rfl, rfl, Lib.hid (by rw [HL0.out]; decide), Lib.hid (by rw [HL0.out]; decide), Lib.hid (Below.refl _ _)⟩
  case round =>
    obtain ⟨j, r, i, hj, rfl, rfl, H1, H2, HB⟩ := hrel
    by_cases hlt : j < xs.length
    · have hltz : (j : Int) < (xs.length : Int) := by omega
      have ewj : IntKind.i64.wrap ((j : Int) + 1) = (j : Int) + 1 := IntWalk.i64_in _ (by omega)
      have hix := (HR.out.below HB.out (Nat.le_refl _)).idx und_fs siz_fs wr j hlt
      have hcx := (HR.out.below HB.out (Nat.le_refl _)).cell j hlt
      simp only [List.getElem?_eq_getElem hlt, Option.getD_some] at hcx
      have O := HOK.out j hlt
      have HS := HLS.out j hlt
      have hneg : ∀ w' : World, (Op.unary .neg (.float .f64 (quoT (j * k) xs.length))).run Try.prog w' = .ok (.float .f64 (negT (j * k) xs.length)) w' := fun _ => rfl
      have hq := ar O.T.q 117
      have hjk : j * k ≤ 1024 := Nat.le_trans (Nat.mul_le_mul (show j ≤ 32 by omega) (show k ≤ 32 by omega)) (by omega)
      have ejk : IntKind.i64.wrap ((j : Int) * (k : Int)) = ((j * k : Nat) : Int) := by
        have : (j : Int) * (k : Int) = ((j * k : Nat) : Int) := by push_cast; rfl
        rw [this]; exact IntWalk.i64_in _ (by omega)
      generalize xs[j] = x at *
      obtain ⟨t, ht⟩ : ∃ t, j * k = t := ⟨_, rfl⟩
      rw [ht] at O HS hneg hq ejk
      clear ht hjk
      have HO := Lib.hid O
      have HSS := Lib.hid HS
      clear O HS
      go_upto_region 6 with (fail)
      obtain ⟨wd, hwd⟩ : ∃ wd, wd = wr.drew := ⟨_, rfl⟩
      have HWD := Lib.hid hwd
      have hB1 : Below wr.heap.size wr wd := by rw [hwd]; exact below_of_drewN wr 1 _
      have HBD := Lib.hid (HB.out.trans (hB1.mono HB.out.size))
      have hix := (HR.out.below HBD.out (Nat.le_refl _)).idx und_fs siz_fs wd j hlt
      have hcx := k_at hB1 hcx
      clear hwd hB1 HB
      refine wp_tail wd HWD.out 9 (by kernel_rfl) (by kernel_rfl) ?_
      simp only [List.take_succ_cons, List.take_zero, List.drop_succ_cons, List.drop_zero]
      repeat still_step
      still_call ((specPhasor_any (x := negT t xs.length) HO.out.T.N HO.out.T.lo HO.out.T.hi).mono fun _ _ h => ⟨h.1, h.2.symm⟩)
      still_call ((specMul_any HO.out.X zero32 HO.out.c HO.out.s HO.out.m).mono fun _ _ h => ⟨h.1, h.2.symm⟩)
      refine wpStill_nil ?_
      go_wp2_with (first | (refine wpl_cadd rfl _ _ _ _ rfl _ _ _ _ rfl rfl ?_; rintro r1 i1 w' ⟨n, rfl⟩ h1 h2; have G1 := Lib.hid h1; have G2 := Lib.hid h2; clear h1 h2))
      have H3 : Hid (cn .f32 r1 = (ls (j + 1)).1) := Lib.hid (by rw [HSS.out, G1.out]; show fbin .add .f32 (cn .f32 r) (cn .f32 (lpRe x t xs.length)) = _; rw [isN_cn HO.out.re, H1.out])
      have H4 : Hid (cn .f32 i1 = (ls (j + 1)).2) := Lib.hid (by rw [HSS.out, G2.out]; show fbin .add .f32 (cn .f32 i) (cn .f32 (lpIm x t xs.length)) = _; rw [isN_cn HO.out.im, H2.out])
      go_roundw
      case rel => exact ⟨j + 1, r1, i1, by omega, rfl, by go_num, H3, H4, Lib.hid (HBD.out.trans (below_of_drewN _ _ _))⟩
      case measure => simp [intOf]; omega
    · obtain rfl : j = xs.length := by omega
      have hltz : ¬ (xs.length : Int) < (xs.length : Int) := by omega
      go_wp2
      go_ret
      exact ⟨r, i, rfl, H1.out, H2.out, HB.out⟩

/-- Both parts are finite. -/
def cfin (o : Option Nat × Option Nat) : Bool := fin .f32 o.1 && fin .f32 o.2
theorem isFinC_any {r i : Nat} {w : World} : Calls Try.prog 148 #[.complex .f32 r i] w fun e w' => e = .returned (.bool (cfin (cn .f32 r, cn .f32 i))) ∧ Below w.heap.size w w' := by
  unfold cfin
  simp only
  cases hr : fin .f32 (cn .f32 r) with
  | false =>
    have HR := Lib.hid (isFinite_any (x := r) (w := w))
    rw [hr] at HR
    go_enter Try.func148, Try.ntmps148
    go_wp2_with fail
    refine HR.out.mono ?_
    rintro e w1 ⟨rfl, b1⟩
    go_wp2
    go_ret
    exact ⟨rfl, b1⟩
  | true =>
    have HR := Lib.hid (isFinite_any (x := r) (w := w))
    have HI := Lib.hid (fun w : World => isFinite_any (x := i) (w := w))
    rw [hr] at HR
    generalize fin .f32 (cn .f32 i) = b at *
    go_enter Try.func148, Try.ntmps148
    go_wp2_with fail
    refine HR.out.mono ?_
    rintro e w1 ⟨rfl, b1⟩
    go_wp2_with fail
    refine (HI.out _).mono ?_
    rintro e w2 ⟨rfl, b2⟩
    cases b <;> (go_wp2; go_ret; exact ⟨rfl, b1.trans (b2.mono b1.size)⟩)
theorem cFinite_any {r i : Nat} {w : World} : Calls Try.prog 145 #[.complex .f32 r i] w fun e w' => e = .returned (.bool (cfin (cn .f32 r, cn .f32 i))) ∧ Below w.heap.size w w' := by
  unfold cfin
  simp only
  cases hr : fin .f32 (cn .f32 r) with
  | false =>
    have HR := Lib.hid (l01Finite_any (x := r) (w := w))
    rw [hr] at HR
    go_enter Try.func145, Try.ntmps145
    go_wp2_with fail
    refine HR.out.mono ?_
    rintro e w1 ⟨rfl, b1⟩
    go_wp2
    go_ret
    exact ⟨rfl, b1⟩
  | true =>
    have HR := Lib.hid (l01Finite_any (x := r) (w := w))
    have HI := Lib.hid (fun w : World => l01Finite_any (x := i) (w := w))
    rw [hr] at HR
    generalize fin .f32 (cn .f32 i) = b at *
    go_enter Try.func145, Try.ntmps145
    go_wp2_with fail
    refine HR.out.mono ?_
    rintro e w1 ⟨rfl, b1⟩
    go_wp2_with fail
    refine (HI.out _).mono ?_
    rintro e w2 ⟨rfl, b2⟩
    cases b <;> (go_wp2; go_ret; exact ⟨rfl, b1.trans (b2.mono b1.size)⟩)

/-- The number, if it is finite; else 0. -/
def cif (o : Option Nat × Option Nat) : Option Nat × Option Nat := if cfin o then o else (some 0, some 0)
theorem ifFinC_any {r i : Nat} {w : World} : Calls Try.prog 103 #[.complex .f32 r i] w (RetCB w (cif (cn .f32 r, cn .f32 i)) (cfin (cn .f32 r, cn .f32 i))) := by
  have HC := Lib.hid (isFinC_any (r := r) (i := i) (w := w))
  unfold cif
  cases hb : cfin (cn .f32 r, cn .f32 i) with
  | false =>
    rw [hb] at HC
    go_enter Try.func103, Try.ntmps103
    go_wp2_with fail
    refine HC.out.mono ?_
    rintro e w1 ⟨rfl, b1⟩
    go_wp2
    go_ret2
    exact ⟨0, 0, rfl, cn_zero, cn_zero, b1⟩
  | true =>
    rw [hb] at HC
    go_enter Try.func103, Try.ntmps103
    go_wp2_with fail
    refine HC.out.mono ?_
    rintro e w1 ⟨rfl, b1⟩
    go_wp2
    go_ret2
    exact ⟨r, i, rfl, rfl, rfl, b1⟩
theorem numC_any {r i : Nat} {w : World} : Calls Try.prog 100 #[.complex .f32 r i] w (RetCB w (cif (cn .f32 r, cn .f32 i)) (cfin (cn .f32 r, cn .f32 i))) := by
  have HC := Lib.hid (cFinite_any (r := r) (i := i) (w := w))
  unfold cif
  cases hb : cfin (cn .f32 r, cn .f32 i) with
  | false =>
    rw [hb] at HC
    go_enter Try.func100, Try.ntmps100
    go_wp2_with fail
    refine HC.out.mono ?_
    rintro e w1 ⟨rfl, b1⟩
    go_wp2
    go_ret2
    exact ⟨0, 0, rfl, cn_zero, cn_zero, b1⟩
  | true =>
    rw [hb] at HC
    go_enter Try.func100, Try.ntmps100
    go_wp2_with fail
    refine HC.out.mono ?_
    rintro e w1 ⟨rfl, b1⟩
    go_wp2
    go_ret2
    exact ⟨r, i, rfl, rfl, rfl, b1⟩

end Go.Proofs.Ytdpolaedfjljmaa

namespace Go.Proofs.Ytdpolaedfjljmaa
open Go.RowKit
attribute [local go_sem ↓] Go.wp_at_zero Go.wp_at_succ

def lineOk (xs : List Nat) (k : Int) : Bool := isVec xs && inR k 0 ((xs.length : Int) - 1)
def lineV (xs : List Nat) (k : Int) : Option Nat × Option Nat := if lineOk xs k then cif (linS xs k.toNat xs.length) else (some 0, some 0)
def lineB (xs : List Nat) (k : Int) : Bool := lineOk xs k && cfin (linS xs k.toNat xs.length)
theorem isVec_num {xs : List Nat} (h : isVec xs = true) : xs.length ≤ 32 ∧ 1 ≤ xs.length ∧ ∀ x ∈ xs, isN .f32 x := by
  unfold isVec at h
  rw [Bool.and_eq_true, Bool.and_eq_true] at h
  refine ⟨of_decide_eq_true h.1.2, of_decide_eq_true h.1.1, fun x hx => (fin_isN ?_).1⟩
  exact List.all_eq_true.1 h.2 x hx

set_option maxRecDepth 20000 in
set_option maxHeartbeats 2000000 in
theorem implLineOf_any {a : Option Addr} {c : Nat} {xs : List Nat} {k : Int} {w : World} (hr : Rd (Value.float .f32) w a c xs) :
    Calls Try.prog 41 #[.slice a xs.length c, .int .i64 k] w (RetCB w (lineV xs k) (lineB xs k)) := by
  have hln := hr.len
  have HV := Lib.hid (isVector_any hr)
  have ew : IntKind.i64.wrap ((xs.length : Int) - 1) = (xs.length : Int) - 1 := IntWalk.i64_in _ (by omega)
  unfold lineV lineB lineOk
  cases hv : isVec xs with
  | false =>
    rw [hv] at HV
    clear hr
    go_enter Try.func41, Try.ntmps41
    go_wp2_with fail
    refine HV.out.mono ?_
    rintro e w1 ⟨rfl, b1⟩
    go_wp2
    go_ret2
    exact ⟨0, 0, rfl, cn_zero, cn_zero, b1⟩
  | true =>
    rw [hv] at HV
    obtain ⟨h32, h1, hN⟩ := isVec_num hv
    have HW := Lib.hid (fun w : World => within_any k 0 ((xs.length : Int) - 1) w)
    cases hk : inR k 0 ((xs.length : Int) - 1) with
    | false =>
      rw [hk] at HW
      clear hr hN
      go_enter Try.func41, Try.ntmps41
      go_wp2_with fail
      refine HV.out.mono ?_
      rintro e w1 ⟨rfl, b1⟩
      go_wp2_with fail
      refine (HW.out _).mono ?_
      rintro e w2 ⟨rfl, rfl⟩
      go_wp2
      go_ret2
      exact ⟨0, 0, rfl, cn_zero, cn_zero, b1⟩
    | true =>
      rw [hk] at HW
      have hk' : 0 ≤ k ∧ k ≤ (xs.length : Int) - 1 := by unfold inR at hk; simpa using hk
      obtain ⟨n, rfl⟩ := Int.eq_ofNat_of_zero_le hk'.1
      have hn : n < xs.length := by omega
      have HR := Lib.hid hr
      have HN := Lib.hid hN
      simp only [Bool.and_self, if_true, Int.toNat_natCast, Bool.true_and]
      have HRC : Hid (∀ {r i : Nat} {w : World}, (cn .f32 r, cn .f32 i) = linS xs n xs.length → Calls Try.prog 103 #[.complex .f32 r i] w (RetCB w (cif (linS xs n xs.length)) (cfin (linS xs n xs.length)))) := Lib.hid (fun h => by rw [← h]; exact ifFinC_any)
      have HLN : Hid (∀ {w' : World}, Rd (Value.float .f32) w' a c xs → Calls Try.prog 104 #[.slice a xs.length c, .int .i64 (n : Int)] w' (RetC w' (linS xs n xs.length))) := Lib.hid (fun g => implLine_any g hN h32 hn)
      clear hr hN HN hk hk'
      generalize cif (linS xs n xs.length) = O at *
      generalize cfin (linS xs n xs.length) = B at *
      generalize linS xs n xs.length = L at *
      go_enter Try.func41, Try.ntmps41
      go_wp2_with fail
      refine HV.out.mono ?_
      rintro e w1 ⟨rfl, b1⟩
      go_wp2_with fail
      refine (HW.out _).mono ?_
      rintro e w2 ⟨rfl, rfl⟩
      go_wp2_with fail
      refine (HLN.out (HR.out.below b1 (Nat.le_refl _))).mono ?_
      rintro e w3 ⟨r, i, rfl, h1, h2, b3⟩
      go_wp2_with fail
      refine (HRC.out (by rw [h1, h2])).mono ?_
      rintro e w4 ⟨r', i', rfl, h3, h4, b4⟩
      go_wp2
      go_ret2
      exact ⟨r', i', rfl, h3, h4, (b1.trans (b3.mono b1.size)).trans (b4.mono (b1.trans (b3.mono b1.size)).size)⟩

set_option maxRecDepth 20000 in
set_option maxHeartbeats 2000000 in
theorem specLineOf_any {a : Option Addr} {c : Nat} {xs : List Nat} {k : Int} {w : World} (hr : Rd (Value.float .f32) w a c xs) :
    Calls Try.prog 39 #[.slice a xs.length c, .int .i64 k] w (RetCB w (lineV xs k) (lineB xs k)) := by
  have hln := hr.len
  have HV := Lib.hid (l07Vector_any hr)
  have ew : IntKind.i64.wrap ((xs.length : Int) - 1) = (xs.length : Int) - 1 := IntWalk.i64_in _ (by omega)
  unfold lineV lineB lineOk
  cases hv : isVec xs with
  | false =>
    rw [hv] at HV
    clear hr
    go_enter Try.func39, Try.ntmps39
    go_wp2_with fail
    refine HV.out.mono ?_
    rintro e w1 ⟨rfl, b1⟩
    go_wp2
    go_ret2
    exact ⟨0, 0, rfl, cn_zero, cn_zero, b1⟩
  | true =>
    rw [hv] at HV
    obtain ⟨h32, h1, hN⟩ := isVec_num hv
    have HW := Lib.hid (fun w : World => l00In_any k 0 ((xs.length : Int) - 1) w)
    cases hk : inR k 0 ((xs.length : Int) - 1) with
    | false =>
      rw [hk] at HW
      clear hr hN
      go_enter Try.func39, Try.ntmps39
      go_wp2_with fail
      refine HV.out.mono ?_
      rintro e w1 ⟨rfl, b1⟩
      go_wp2_with fail
      refine (HW.out _).mono ?_
      rintro e w2 ⟨rfl, rfl⟩
      go_wp2
      go_ret2
      exact ⟨0, 0, rfl, cn_zero, cn_zero, b1⟩
    | true =>
      rw [hk] at HW
      have hk' : 0 ≤ k ∧ k ≤ (xs.length : Int) - 1 := by unfold inR at hk; simpa using hk
      obtain ⟨n, rfl⟩ := Int.eq_ofNat_of_zero_le hk'.1
      have hn : n < xs.length := by omega
      have HR := Lib.hid hr
      have HN := Lib.hid hN
      simp only [Bool.and_self, if_true, Int.toNat_natCast, Bool.true_and]
      have HRC : Hid (∀ {r i : Nat} {w : World}, (cn .f32 r, cn .f32 i) = linS xs n xs.length → Calls Try.prog 100 #[.complex .f32 r i] w (RetCB w (cif (linS xs n xs.length)) (cfin (linS xs n xs.length)))) := Lib.hid (fun h => by rw [← h]; exact numC_any)
      have HLN : Hid (∀ {w' : World}, Rd (Value.float .f32) w' a c xs → Calls Try.prog 101 #[.slice a xs.length c, .int .i64 (n : Int)] w' (RetC w' (linS xs n xs.length))) := Lib.hid (fun g => specLine_any g hN h32 hn)
      clear hr hN HN hk hk'
      generalize cif (linS xs n xs.length) = O at *
      generalize cfin (linS xs n xs.length) = B at *
      generalize linS xs n xs.length = L at *
      go_enter Try.func39, Try.ntmps39
      go_wp2_with fail
      refine HV.out.mono ?_
      rintro e w1 ⟨rfl, b1⟩
      go_wp2_with fail
      refine (HW.out _).mono ?_
      rintro e w2 ⟨rfl, rfl⟩
      go_wp2_with fail
      refine (HLN.out (HR.out.below b1 (Nat.le_refl _))).mono ?_
      rintro e w3 ⟨r, i, rfl, h1, h2, b3⟩
      go_wp2_with fail
      refine (HRC.out (by rw [h1, h2])).mono ?_
      rintro e w4 ⟨r', i', rfl, h3, h4, b4⟩
      go_wp2
      go_ret2
      exact ⟨r', i', rfl, h3, h4, (b1.trans (b3.mono b1.size)).trans (b4.mono (b1.trans (b3.mono b1.size)).size)⟩


end Go.Proofs.Ytdpolaedfjljmaa

namespace Go.Proofs.Ytdpolaedfjljmaa
open Go.RowKit

theorem und_c64 : (Try.prog.underlying 66).isSome = true := by kernel_rfl
theorem und_c128 : Try.prog.underlying 71 = some (.complex .f64) := by kernel_rfl
theorem fin_zero : fin .f32 (some 0) = true := by decide +kernel
theorem cif_fin (o : Option Nat × Option Nat) : fin .f32 (cif o).1 = true ∧ fin .f32 (cif o).2 = true := by
  unfold cif
  cases h : cfin o with
  | false => exact ⟨fin_zero, fin_zero⟩
  | true =>
    unfold cfin at h
    rw [Bool.and_eq_true] at h
    exact h
theorem lineV_fin (xs : List Nat) (k : Int) : (fin .f32 (lineV xs k).1 = true ∧ fin .f32 (lineV xs k).2 = true) ∧ True ∧ True := by
  refine ⟨?_, trivial, trivial⟩
  unfold lineV
  cases lineOk xs k with
  | false => exact ⟨fin_zero, fin_zero⟩
  | true => exact cif_fin _
theorem same_fin {r r' : Nat} (h : cn .f32 r = cn .f32 r') (hf : fin .f32 (cn .f32 r) = true) : r = r' ∧ isN .f32 r := by
  obtain ⟨h1, h2⟩ := fin_isN hf
  have hf' := hf
  rw [h] at hf'
  obtain ⟨_, h4⟩ := fin_isN hf'
  rw [h2, h4] at h
  exact ⟨Option.some.inj h, h1⟩
theorem sameComplex_any {a b : Nat} {w : World} : Calls Try.prog 42 #[.complex .f64 a b, .complex .f64 a b] w fun e w' => e = .returned (.bool true) ∧ Below w.heap.size w w' := by
  have H1 := Lib.hid (fun w : World => sameFloat_any (a := a) (b := a) (w := w) rfl)
  have H2 := Lib.hid (fun w : World => sameFloat_any (a := b) (b := b) (w := w) rfl)
  go_enter Try.func42, Try.ntmps42
  go_wp2_with fail
  refine (H1.out _).mono ?_
  rintro e w1 ⟨rfl, b1⟩
  go_wp2_with fail
  refine (H2.out _).mono ?_
  rintro e w2 ⟨rfl, b2⟩
  go_wp2
  go_ret
  exact ⟨rfl, b1.trans (b2.mono b1.size)⟩

set_option maxRecDepth 100000 in
set_option maxHeartbeats 2000000 in
theorem lawLineOf_walk (a0 : Option Addr) (c0 : Nat) (x0 : List Nat) (w : World) (r0 : Rd (Value.float .f32) w a0 c0 x0) (n0 : x0.length ≤ 1048576) (k : Int) :
    Calls Try.prog 9 #[.slice a0 x0.length c0, .int .i64 k] w fun e w' => e = .returned (.bool true) ∧ Below w.heap.size w w' := by
  go_enter Try.func9, Try.ntmps9
  go_wp2_with fail
  refine (toF_any r0 n0).mono ?_
  rintro e w1 ⟨adt1, cat1, rfl, t1, hb1⟩
  have s1 : w.heap.size ≤ w1.heap.size := hb1.size
  have B1 : Below w.heap.size w w1 := hb1
  clear hb1
  have lt1 := t1.blk
  go_wp2_with fail
  refine (specLineOf_any t1.rd).mono ?_
  rintro e w2 ⟨vwr, vwi, rfl, hwr, hwi, hb2⟩
  replace t1 := t1.below hb2 (Nat.le_refl _)
  have s2 : w1.heap.size ≤ w2.heap.size := hb2.size
  have B2 : Below w.heap.size w w2 := B1.trans (hb2.mono B1.size)
  clear B1 hb2
  clear t1 lt1
  go_wp2_with fail
  refine (toF_any (r0.below B2 (Nat.le_refl _)) n0).mono ?_
  rintro e w3 ⟨adx0, cax0, rfl, ox0, hb3⟩
  have s3 : w2.heap.size ≤ w3.heap.size := hb3.size
  have B3 : Below w.heap.size w w3 := B2.trans (hb3.mono B2.size)
  clear B2 hb3
  have lox0 := ox0.blk
  go_wp2_with fail
  refine (implLineOf_any ox0.rd).mono ?_
  rintro e w4 ⟨vgr, vgi, rfl, hgr, hgi, hb4⟩
  obtain ⟨⟨f1, f2⟩, f3, f4⟩ := lineV_fin x0 k
  obtain ⟨rfl, gN⟩ := same_fin (hgr.trans hwr.symm) (by rw [hgr]; exact f1)
  obtain ⟨rfl, gI⟩ := same_fin (hgi.trans hwi.symm) (by rw [hgi]; exact f2)
  clear hgr hgi hwr hwi f1 f2 f3 f4
  have hcv : ∀ w' : World, (convert 66 71 (.complex .f32 vgr vgi)).run Try.prog w' = .ok (.complex .f64 (wid vgr) (wid vgi)) w' := fun w' => run_convert_complex w' _ _ _ _ _ _ _ _ und_c64 und_c128 (by unfold cConvBits; rw [(wid_val gN).2.2, (wid_val gI).2.2]; rfl)
  have hbb : ∀ b : Bool, (b != b) = false := fun b => by cases b <;> rfl
  have hbx : ∀ b : Bool, (b ^^ b) = false := fun b => by cases b <;> rfl
  generalize lineB x0 k = B at *
  replace ox0 := ox0.below hb4 (Nat.le_refl _)
  have s4 : w3.heap.size ≤ w4.heap.size := hb4.size
  have B4 : Below w.heap.size w w4 := B3.trans (hb4.mono B3.size)
  clear B3 hb4
  go_wp2_with fail
  refine sameComplex_any.mono ?_
  rintro e w5 ⟨rfl, hb5⟩
  replace ox0 := ox0.below hb5 (Nat.le_refl _)
  have s5 : w4.heap.size ≤ w5.heap.size := hb5.size
  have B5 : Below w.heap.size w w5 := B4.trans (hb5.mono B4.size)
  clear B4 hb5
  go_wp2_with fail
  refine (toF_any (r0.below B5 (Nat.le_refl _)) n0).mono ?_
  rintro e w6 ⟨adt3, cat3, rfl, t3, hb6⟩
  replace ox0 := ox0.below hb6 (Nat.le_refl _)
  have s6 : w5.heap.size ≤ w6.heap.size := hb6.size
  have B6 : Below w.heap.size w w6 := B5.trans (hb6.mono B5.size)
  clear B5 hb6
  have lt3 := t3.blk
  go_wp2_with fail
  refine (eqF_any ox0.rd t3.rd rfl).mono ?_
  rintro e w7 ⟨rfl, hb7⟩
  replace ox0 := ox0.below hb7 (Nat.le_refl _)
  replace t3 := t3.below hb7 (Nat.le_refl _)
  have s7 : w6.heap.size ≤ w7.heap.size := hb7.size
  have B7 : Below w.heap.size w w7 := B6.trans (hb7.mono B6.size)
  clear B6 hb7
  clear t3 lt3
  go_wp2
  go_ret
  exact ⟨rfl, B7⟩

theorem lawLineOf_any {a0 : Option Addr} {c0 : Nat} {x0 : List Nat} {w : World} (r0 : Rd (Value.float .f32) w a0 c0 x0) (g0 : ∀ y ∈ x0, (Lit.float .f32 y).wf = true) (k : Int) (_ : (Lit.int .i64 k).wf = true) :
    Calls Try.prog 9 #[.slice a0 x0.length c0, .int .i64 k] w fun e w' => e = .returned (.bool true) ∧ Below w.heap.size w w' := by
  by_cases n0 : x0.length ≤ 1048576
  case neg =>
    have big : 1048576 < x0.length := by omega
    have lm := r0.len
    clear n0
    go_enter Try.func9, Try.ntmps9
    go_wp2
    go_ret
    exact ⟨rfl, Below.refl _ _⟩
  exact lawLineOf_walk a0 c0 x0 w r0 n0 k

end Go.Proofs.Ytdpolaedfjljmaa
