/- IsFinite, finite lists, vectors. -/
import Derived.Test.YtgkmmilmdhhleaaFlt
import Derived.Test.YtgkmmilmdhhleaaToF
import Derived.Test.YtgkmmilmdhhleaaIdxF
namespace Go.Proofs.Ytgkmmilmdhhleaa
open Go.RowKit

/-- Is it a number (no NaN, no infinity)? -/
def fin (k : FloatKind) (o : Option Nat) : Bool := match o with
  | none => false
  | some b => !(k.decode b).isInfinity

/-- How two floats stand to one another, by what 'cn' leaves. -/
def ford (k : FloatKind) (x y : Option Nat) : Option Ordering := x.bind fun a => y.bind fun b => k.format.order a b

theorem order_cn (k : FloatKind) (a b : Nat) : k.format.order a b = ford k (cn k a) (cn k b) := by
  unfold ford
  cases h1 : cn k a with
  | none =>
    obtain ⟨s, t, hd⟩ := cn_none h1
    show (k.decode a).order (k.decode b) = none
    rw [hd]; cases k.decode b <;> rfl
  | some a' =>
    obtain ⟨rfl, _⟩ := cn_some h1
    cases h2 : cn k b with
    | none =>
      obtain ⟨s, t, hd⟩ := cn_none h2
      show (k.decode a).order (k.decode b) = none
      rw [hd]; cases k.decode a <;> rfl
    | some b' =>
      obtain ⟨rfl, _⟩ := cn_some h2
      rfl

theorem signed_neg (s : Bool) (m u : Nat) : Ieee.signed (!s) m u = - Ieee.signed s m u := by
  cases s <;> simp [Ieee.signed]

theorem decode_zero (k : FloatKind) : ∃ p, k.decode 0 = .number false 0 p := by
  cases k
  · exact ⟨_, rfl⟩
  · exact ⟨_, rfl⟩

theorem nearest_zero (k : FloatKind) (p : Int) : k.format.nearest false 0 p = 0 := by
  unfold Ieee.Format.nearest Ieee.Format.word
  simp

/-- x - x == 0 just where x is finite. -/
theorem sub_self_zero (k : FloatKind) (x r : Nat) (h : cn k r = fbin .sub k (cn k x) (cn k x)) : (k.format.order r 0 == some Ordering.eq) = fin k (cn k x) := by
  cases hx : cn k x with
  | none =>
    rw [hx] at h
    have : k.format.order r 0 = none := by rw [order_cn, h]; rfl
    rw [this]; rfl
  | some b =>
    obtain ⟨rfl, hn⟩ := cn_some hx
    rw [hx] at h
    have hs : fbin .sub k (some x) (some x) = k.format.sub x x := rfl
    rw [hs] at h
    unfold Ieee.Format.sub at h
    have hd' : k.format.read x = k.decode x := rfl
    rw [hd'] at h
    cases hd : k.decode x with
    | nan s t => rw [hd] at hn; simp [Ieee.Datum.isNaN] at hn
    | infinity s =>
      rw [hd] at h
      have : (Ieee.Datum.infinity s).sum (Ieee.Datum.infinity s).opposite = none := by cases s <;> rfl
      rw [this] at h
      have : k.format.order r 0 = none := by rw [order_cn, h]; rfl
      rw [this]; simp [fin, hd, Ieee.Datum.isInfinity]
    | number s m e =>
      rw [hd] at h
      have : (Ieee.Datum.number s m e).sum (Ieee.Datum.number s m e).opposite = some (.number false 0 e) := by
        simp only [Ieee.Datum.opposite, Ieee.Datum.sum, signed_neg]
        have h0 : ∀ u, Ieee.signed s m u + -Ieee.signed s m u = 0 := fun u => by omega
        simp [h0]
      rw [this] at h
      simp only [Option.map_some, Ieee.Format.write, nearest_zero] at h
      obtain ⟨rfl, _⟩ := cn_some h
      obtain ⟨p, hp⟩ := decode_zero k
      have : k.format.order 0 0 = some .eq := by
        show (k.decode 0).order (k.decode 0) = _
        rw [hp]; simp [Ieee.Datum.order]
      rw [this]; simp [fin, hd, Ieee.Datum.isInfinity]

theorem isFinite_any {x : Nat} {w : World} : Calls Try.prog 102 #[.float .f32 x] w fun e w' => e = .returned (.bool (fin .f32 (cn .f32 x))) ∧ Below w.heap.size w w' := by
  have H := Lib.hid (sub_self_zero .f32 x)
  go_enter Try.func102, Try.ntmps102
  go_wp2_with (refine wpl_fbin rfl _ _ _ _ _ rfl rfl .f32 _ _ rfl rfl ?_; rintro r w' ⟨n, rfl⟩ hr; have HR := Lib.hid hr; clear hr)
  go_ret
  exact ⟨ret_bool (H.out _ HR.out), below_of_drewN _ _ _⟩

theorem l01Finite_any {x : Nat} {w : World} : Calls Try.prog 129 #[.float .f32 x] w fun e w' => e = .returned (.bool (fin .f32 (cn .f32 x))) ∧ Below w.heap.size w w' := by
  have H := Lib.hid (sub_self_zero .f32 x)
  go_enter Try.func129, Try.ntmps129
  go_wp2_with (refine wpl_fbin rfl _ _ _ _ _ rfl rfl .f32 _ _ rfl rfl ?_; rintro r w' ⟨n, rfl⟩ hr; have HR := Lib.hid hr; clear hr)
  go_ret
  exact ⟨ret_bool (H.out _ HR.out), below_of_drewN _ _ _⟩

def fins (xs : List Nat) : Bool := xs.all fun x => fin .f32 (cn .f32 x)

theorem areFinite1_any {x : Nat} {w : World} : Calls Try.prog 185 #[.float .f32 x] w fun e w' => e = .returned (.bool (!fin .f32 (cn .f32 x))) ∧ Below w.heap.size w w' := by
  go_enter Try.func185, Try.ntmps185
  go_wp2_with fail
  refine isFinite_any.mono ?_
  rintro e w1 ⟨rfl, hb⟩
  go_wp2
  go_ret
  exact ⟨rfl, hb⟩

theorem call_areFinite1 (vs : Array Value) (w : World) : (callFunc 185 vs).run Try.prog w = .ok (.enter 185 vs) w := by kernel_rfl

theorem areFinite_any {a : Option Addr} {c : Nat} {xs : List Nat} {w : World} (hr : Rd (Value.float .f32) w a c xs) :
    Calls Try.prog 146 #[.slice a xs.length c] w fun e w' => e = .returned (.bool (fins xs)) ∧ Below w.heap.size w w' := by
  have HC := Lib.hid (containsFuncf_any a c xs w 185 #[] (fun x => !fin .f32 (cn .f32 x)) call_areFinite1 hr (fun k h wr hb => by simpa using areFinite1_any))
  go_enter Try.func146, Try.ntmps146
  go_wp2_with fail
  refine HC.out.mono ?_
  rintro e w1 ⟨rfl, hb1⟩
  go_wp2
  go_ret
  refine ⟨ret_bool ?_, hb1⟩
  rw [Bool.eq_iff_iff]; simp [fins, List.all_eq_true, List.any_eq_true]

set_option maxHeartbeats 400000 in
theorem l02Finite_any {a : Option Addr} {c : Nat} {xs : List Nat} {w : World} (hr : Rd (Value.float .f32) w a c xs) :
    Calls Try.prog 142 #[.slice a xs.length c] w fun e w' => e = .returned (.bool (fins xs)) ∧ Below w.heap.size w w' := by
  have hln := hr.len
  go_enter Try.func142, Try.ntmps142
  go_wp2
  go_loopw [3] (fun i wr => ∃ k : Nat, k ≤ xs.length ∧ i = .int .i64 k ∧ (∀ x ∈ xs.take k, (!fin .f32 (cn .f32 x)) = false) ∧ Below w.heap.size w wr) (fun i _ => xs.length - (intOf i).toNat)
  case atStart => exact ⟨0, Nat.zero_le _, rfl, by simp, Below.refl _ _⟩
  case round =>
    obtain ⟨k, hk, rfl, hp, hb⟩ := hrel
    have HP := Lib.hid hp
    clear hp
    by_cases hlt : k < xs.length
    · have hxr := hr.below hb (Nat.le_refl _)
      have hix := hxr.idx und_fs siz_fs
      have hcx := hxr.cell k hlt
      simp only [List.getElem?_eq_getElem hlt, Option.getD_some] at hcx
      go_wp2_with fail
      refine l01Finite_any.mono ?_
      rintro e w1 ⟨rfl, hb1⟩
      have hb' : Below w.heap.size w w1 := hb.trans (hb1.mono hb.size)
      by_cases hx : fin .f32 (cn .f32 xs[k]) = true
      · have HX := Lib.hid hx
        rw [hx]
        clear hx
        go_wp2
        go_roundw
        case rel => exact ⟨k + 1, by omega, by go_num, snoc_none hlt HP.out (by rw [HX.out]; rfl), hb'⟩
        case measure => simp [intOf]; omega
      · have hx' : fin .f32 (cn .f32 xs[k]) = false := by simpa using hx
        have HX := Lib.hid hx'
        rw [hx']
        clear hx hx'
        go_wp2
        go_ret
        refine ⟨ret_bool ?_, hb'⟩
        symm
        unfold fins
        rw [List.all_eq_false]; exact ⟨_, List.getElem_mem hlt, by rw [HX.out]; simp⟩
    · obtain rfl : k = xs.length := by omega
      go_wp2
      go_ret
      refine ⟨ret_bool ?_, hb⟩
      have := HP.out
      simpa [fins] using this

def isVec (xs : List Nat) : Bool := decide (1 ≤ xs.length) && decide (xs.length ≤ 32) && fins xs

set_option maxHeartbeats 400000 in
theorem isVector_any {a : Option Addr} {c : Nat} {xs : List Nat} {w : World} (hr : Rd (Value.float .f32) w a c xs) :
    Calls Try.prog 91 #[.slice a xs.length c] w fun e w' => e = .returned (.bool (isVec xs)) ∧ Below w.heap.size w w' := by
  have hln := hr.len
  by_cases h1 : 1 ≤ xs.length
  · by_cases h2 : xs.length ≤ 32
    · go_enter Try.func91, Try.ntmps91
      go_wp2_with fail
      refine (areFinite_any hr).mono ?_
      rintro e w1 ⟨rfl, hb1⟩
      go_wp2
      go_ret
      exact ⟨ret_bool (by simp [isVec, h1, h2]), hb1⟩
    · have h3 : decide ((xs.length : Int) ≤ 32) = false := by simp; omega
      go_enter Try.func91, Try.ntmps91
      go_wp2
      go_ret
      exact ⟨ret_bool (by simp [isVec, h2]), Below.refl _ _⟩
  · have h3 : decide ((1 : Int) ≤ (xs.length : Int)) = false := by simp; omega
    go_enter Try.func91, Try.ntmps91
    go_wp2
    go_ret
    exact ⟨ret_bool (by simp [isVec, h1]), Below.refl _ _⟩

set_option maxHeartbeats 400000 in
theorem l07Vector_any {a : Option Addr} {c : Nat} {xs : List Nat} {w : World} (hr : Rd (Value.float .f32) w a c xs) :
    Calls Try.prog 88 #[.slice a xs.length c] w fun e w' => e = .returned (.bool (isVec xs)) ∧ Below w.heap.size w w' := by
  have hln := hr.len
  by_cases h1 : 1 ≤ xs.length
  · by_cases h2 : xs.length ≤ 32
    · go_enter Try.func88, Try.ntmps88
      go_wp2_with fail
      refine (l02Finite_any hr).mono ?_
      rintro e w1 ⟨rfl, hb1⟩
      go_wp2
      go_ret
      exact ⟨ret_bool (by simp [isVec, h1, h2]), hb1⟩
    · have h3 : decide ((xs.length : Int) ≤ 32) = false := by simp; omega
      go_enter Try.func88, Try.ntmps88
      go_wp2
      go_ret
      exact ⟨ret_bool (by simp [isVec, h2]), Below.refl _ _⟩
  · have h3 : decide ((1 : Int) ≤ (xs.length : Int)) = false := by simp; omega
    go_enter Try.func88, Try.ntmps88
    go_wp2
    go_ret
    exact ⟨ret_bool (by simp [isVec, h1]), Below.refl _ _⟩


end Go.Proofs.Ytgkmmilmdhhleaa
