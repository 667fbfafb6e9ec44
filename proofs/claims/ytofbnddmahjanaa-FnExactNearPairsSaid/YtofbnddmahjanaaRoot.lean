/- RootNumber: the square root of a float32, narrowed. -/
import Derived.Test.YtofbnddmahjanaaNar
import Derived.Test.YtofbnddmahjanaaDot
namespace Go.Proofs.Ytofbnddmahjanaa
open Go.RowKit

def RetF64 (w : World) (o : Option Nat) (en : Ending) (w' : World) : Prop :=
  ∃ r, en = .returned (.float .f64 r) ∧ cn .f64 r = o ∧ Below w.heap.size w w'

theorem call_sqrt (x : Nat) (w : World) : ∃ r w', (callFunc 181 #[.float .f64 x]).run Try.prog w = .ok (.value (.float .f64 r)) w' ∧ (∃ n, w' = w.drewN n) ∧ cn .f64 r = fsqrt (cn .f64 x) := by
  have h := run_callFunc_standIn (P := Try.prog) (f := 181) (e := Extern.MathSqrt.sqrt) Try.func181 (by kernel_rfl) (by kernel_rfl) (by kernel_rfl) (by kernel_rfl) #[.float .f64 x] w
  rw [h]
  have he : Extern.MathSqrt.sqrt #[.float .f64 x] = (match FloatKind.f64.format.sqrt x with
    | some r => pure (.float .f64 r)
    | none => do pure (.float .f64 (← choose (.nanBits .f64 x x)))) := rfl
  rw [he]
  cases hs : FloatKind.f64.format.sqrt x with
  | some r =>
    refine ⟨r, w, by simp, ⟨0, rfl⟩, ?_⟩
    unfold Ieee.Format.sqrt at hs
    simp only [Option.map_eq_some_iff] at hs
    obtain ⟨d, hd, rfl⟩ := hs
    have hn := root_nan hd
    have hx : cn .f64 x = some x := by
      have : (FloatKind.f64.decode x).isNaN = false := hn.1
      simp [cn, this]
    rw [hx, cn_write .f64 d hn.2]
    simp only [fsqrt, Option.bind_some, Ieee.Format.sqrt, hd, Option.map_some]
  | none =>
    have hz : fsqrt (cn .f64 x) = none := by
      cases hx : cn .f64 x with
      | none => rfl
      | some x' => obtain ⟨rfl, _⟩ := cn_some hx; exact hs
    refine ⟨(Question.nanBits .f64 x x).cut (w.tape w.drawn (.nanBits .f64 x x)), w.drew, ?_, ⟨1, rfl⟩, by rw [hz]; exact nanBits_cn .f64 x x _⟩
    simp [Question.forced]

theorem mathSqrt_any {x : Nat} {w : World} : Calls Try.prog 164 #[.float .f64 x] w (RetF64 w (fsqrt (cn .f64 x))) := by
  obtain ⟨r, w', hrun, ⟨n, rfl⟩, hr⟩ := call_sqrt x w
  go_enter Try.func164, Try.ntmps164
  go_wp2
  go_ret
  exact ⟨r, rfl, hr, below_of_drewN _ _ _⟩

def rootC (o : Option Nat) : Option Nat := narrow (fsqrt (widen o))

theorem rootNumber_any {x : Nat} {w : World} : Calls Try.prog 153 #[.float .f32 x] w (RetF w (rootC (cn .f32 x))) := by
  have HF := Lib.hid (sqrt_fits x)
  go_enter Try.func153, Try.ntmps153
  go_wp2_with (refine wpl_widen rfl _ _ _ rfl und_f32 und_f64 _ rfl ?_; rintro q w' ⟨n, rfl⟩ hq; have HQ := Lib.hid hq; clear hq)
  refine mathSqrt_any.mono ?_
  rintro e w1 ⟨r1, rfl, hr1, hb1⟩
  have HR := Lib.hid hr1
  clear hr1
  go_wp2_with (refine wpl_narrow rfl _ _ _ rfl (by kernel_rfl) (by kernel_rfl) _ rfl (by rw [HR.out, HQ.out]; exact HF.out) ?_; rintro q2 w' ⟨n2, rfl⟩ hq2; have HQ2 := Lib.hid hq2; clear hq2)
  go_ret
  exact ⟨q2, rfl, by rw [HQ2.out, HR.out, HQ.out]; rfl, (below_of_drewN _ _ _).trans (hb1.trans (below_of_drewN _ _ _))⟩

theorem l01Narrow_any {x : Nat} {w : World} (hf : fits (cn .f64 x)) : Calls Try.prog 157 #[.float .f64 x] w (RetF w (narrow (cn .f64 x))) := by
  have HF := Lib.hid hf
  clear hf
  go_enter Try.func157, Try.ntmps157
  go_wp2_with (refine wpl_narrow rfl _ _ _ rfl (by kernel_rfl) (by kernel_rfl) _ rfl HF.out ?_; rintro q2 w' ⟨n2, rfl⟩ hq2; have HQ2 := Lib.hid hq2; clear hq2)
  go_ret
  exact ⟨q2, rfl, HQ2.out, below_of_drewN _ _ _⟩

theorem l01Sqrt_any {x : Nat} {w : World} : Calls Try.prog 149 #[.float .f32 x] w (RetF w (rootC (cn .f32 x))) := by
  have HF := Lib.hid (sqrt_fits x)
  go_enter Try.func149, Try.ntmps149
  go_wp2_with (refine wpl_widen rfl _ _ _ rfl und_f32 und_f64 _ rfl ?_; rintro q w' ⟨n, rfl⟩ hq; have HQ := Lib.hid hq; clear hq)
  refine mathSqrt_any.mono ?_
  rintro e w1 ⟨r1, rfl, hr1, hb1⟩
  have HR := Lib.hid hr1
  clear hr1
  go_wp2_with fail
  refine (l01Narrow_any (by rw [HR.out, HQ.out]; exact HF.out)).mono ?_
  rintro e w2 ⟨q2, rfl, hq2, hb2⟩
  have HQ2 := Lib.hid hq2
  clear hq2
  go_wp2
  go_ret
  exact ⟨q2, rfl, by rw [HQ2.out, HR.out, HQ.out]; rfl, (below_of_drewN _ _ _).trans (hb1.trans (hb2.mono hb1.size))⟩

def normR (xs : List Nat) : Option Nat := if isVec xs then ifFin (rootC (dotC xs xs)) else some 0
def normB (xs : List Nat) : Bool := isVec xs && fin .f32 (rootC (dotC xs xs))

set_option maxHeartbeats 400000 in
theorem implNormOf_any {a1 : Option Addr} {c1 : Nat} {xs : List Nat} {w : World} (hx : Rd (Value.float .f32) w a1 c1 xs) :
    Calls Try.prog 110 #[.slice a1 xs.length c1] w (RetFB w (normR xs) (normB xs)) := by
  cases h1 : isVec xs with
  | false =>
    go_enter Try.func110, Try.ntmps110
    go_wp2_with fail
    refine (isVector_any hx).mono ?_
    rintro e w1 ⟨rfl, hb1⟩
    go_wp2
    go_ret2
    exact ⟨0, by simp [normB, h1], by simp [normR, h1, cn_zero], hb1⟩
  | true =>
    go_enter Try.func110, Try.ntmps110
    go_wp2_with fail
    refine (isVector_any hx).mono ?_
    rintro e w1 ⟨rfl, hb1⟩
    go_wp2_with fail
    refine (implDot_any (hx.below hb1 (Nat.le_refl _)) (hx.below hb1 (Nat.le_refl _)) rfl).mono ?_
    rintro e w2 ⟨r, rfl, hr, hb2⟩
    have B2 : Below w.heap.size w w2 := hb1.trans (hb2.mono hb1.size)
    have HR := Lib.hid hr
    clear hr hb1 hb2
    go_wp2_with fail
    refine rootNumber_any.mono ?_
    rintro e w3 ⟨q, rfl, hq, hb3⟩
    have B3 : Below w.heap.size w w3 := B2.trans (hb3.mono B2.size)
    have HQ := Lib.hid hq
    clear hq hb3 B2
    go_wp2_with fail
    refine ifFinite_any.mono ?_
    rintro e w4 ⟨p, rfl, hp, hb4⟩
    have HP := Lib.hid hp
    clear hp
    go_wp2
    go_ret2
    refine ⟨p, ?_, ?_, B3.trans (hb4.mono B3.size)⟩
    · rw [HQ.out, HR.out]; simp [normB, h1]
    · rw [HP.out, HQ.out, HR.out]; simp [normR, h1]

set_option maxHeartbeats 400000 in
theorem specNormOf_any {a1 : Option Addr} {c1 : Nat} {xs : List Nat} {w : World} (hx : Rd (Value.float .f32) w a1 c1 xs) :
    Calls Try.prog 104 #[.slice a1 xs.length c1] w (RetFB w (normR xs) (normB xs)) := by
  cases h1 : isVec xs with
  | false =>
    go_enter Try.func104, Try.ntmps104
    go_wp2_with fail
    refine (l07Vector_any hx).mono ?_
    rintro e w1 ⟨rfl, hb1⟩
    go_wp2
    go_ret2
    exact ⟨0, by simp [normB, h1], by simp [normR, h1, cn_zero], hb1⟩
  | true =>
    go_enter Try.func104, Try.ntmps104
    go_wp2_with fail
    refine (l07Vector_any hx).mono ?_
    rintro e w1 ⟨rfl, hb1⟩
    go_wp2_with fail
    refine (specDot_any (hx.below hb1 (Nat.le_refl _)) (hx.below hb1 (Nat.le_refl _)) rfl).mono ?_
    rintro e w2 ⟨r, rfl, hr, hb2⟩
    have B2 : Below w.heap.size w w2 := hb1.trans (hb2.mono hb1.size)
    have HR := Lib.hid hr
    clear hr hb1 hb2
    go_wp2_with fail
    refine l01Sqrt_any.mono ?_
    rintro e w3 ⟨q, rfl, hq, hb3⟩
    have B3 : Below w.heap.size w w3 := B2.trans (hb3.mono B2.size)
    have HQ := Lib.hid hq
    clear hq hb3 B2
    go_wp2_with fail
    refine l02Number_any.mono ?_
    rintro e w4 ⟨p, rfl, hp, hb4⟩
    have HP := Lib.hid hp
    clear hp
    go_wp2
    go_ret2
    refine ⟨p, ?_, ?_, B3.trans (hb4.mono B3.size)⟩
    · rw [HQ.out, HR.out]; simp [normB, h1]
    · rw [HP.out, HQ.out, HR.out]; simp [normR, h1]

end Go.Proofs.Ytofbnddmahjanaa
