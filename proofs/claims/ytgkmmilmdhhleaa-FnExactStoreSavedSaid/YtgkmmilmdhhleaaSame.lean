/- sameFloat, and eq.. on lists of float32. -/
import Derived.Test.YtgkmmilmdhhleaaFin
namespace Go.Proofs.Ytgkmmilmdhhleaa
open Go.RowKit

theorem compare_self (n : Int) : compare n n = .eq := by simp
theorem order_self {k : FloatKind} {a : Nat} (h : (k.decode a).isNaN = false) : k.format.order a a = some .eq := by
  show (k.decode a).order (k.decode a) = _
  cases hd : k.decode a with
  | nan s t => rw [hd] at h; simp [Ieee.Datum.isNaN] at h
  | infinity s => simp [Ieee.Datum.order]
  | number s m e => simp [Ieee.Datum.order]
theorem order_nan {k : FloatKind} {a b : Nat} (h : cn k a = none) : k.format.order a b = none := by rw [order_cn, h]; rfl

set_option maxHeartbeats 400000 in
theorem sameFloat_any {a b : Nat} {w : World} (h : cn .f64 a = cn .f64 b) :
    Calls Try.prog 70 #[.float .f64 a, .float .f64 b] w fun e w' => e = .returned (.bool true) ∧ Below w.heap.size w w' := by
  cases hc : cn .f64 a with
  | none =>
    have h1 : FloatKind.f64.format.order a a = none := order_nan hc
    have h2 : FloatKind.f64.format.order b b = none := order_nan (by rw [← h]; exact hc)
    clear h hc
    go_enter Try.func70, Try.ntmps70
    go_wp2
    go_ret
    exact ⟨rfl, Below.refl _ _⟩
  | some c =>
    obtain ⟨rfl, hn⟩ := cn_some hc
    obtain ⟨rfl, _⟩ := cn_some (by rw [← h]; exact hc)
    have h1 := order_self (k := .f64) hn
    clear h hc hn
    by_cases hz : FloatKind.f64.format.order b 0 = some .eq
    · go_enter Try.func70, Try.ntmps70
      go_wp2_with (refine wpl_fbin rfl _ _ _ _ _ rfl rfl .f64 _ _ rfl rfl ?_; rintro r w' ⟨n, rfl⟩ hr; have HR := Lib.hid hr; clear hr)
      rename_i r1 n1 HR1
      have he : FloatKind.f64.format.order r1 0 = FloatKind.f64.format.order r 0 := by rw [order_cn, order_cn, HR.out, HR1.out]
      go_ret
      exact ⟨ret_bool (by simp [he]), below_of_drewN _ _ _⟩
    · have hz' : (FloatKind.f64.format.order b 0 == some .eq) = false := by simpa using hz
      clear hz
      go_enter Try.func70, Try.ntmps70
      go_wp2
      go_ret
      exact ⟨rfl, Below.refl _ _⟩

/-- Two lists of floats, the same but for the bits of their NaNs. -/
def sameF (xs ys : List Nat) : Prop := xs.map (cn .f32) = ys.map (cn .f32)

theorem sameF_get {xs ys : List Nat} (h : sameF xs ys) (k : Nat) (h1 : k < xs.length) (h2 : k < ys.length) : widen (cn .f32 xs[k]) = widen (cn .f32 ys[k]) := by
  have : (xs.map (cn .f32))[k]? = (ys.map (cn .f32))[k]? := by rw [h]
  simp [h1, h2] at this
  rw [this]

end Go.Proofs.Ytgkmmilmdhhleaa
