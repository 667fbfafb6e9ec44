/- A Saved, opened. -/
import Derived.Test.YtgkmmilmdhhleaaOpen2
import Derived.Test.YtgkmmilmdhhleaaRows
namespace Go.Proofs.Ytgkmmilmdhhleaa
open Go.ChangeShapes Go.WideShapes Go.ChangeAt Go.RowKit Go.Deep

/-- A field's reading out of a struct's. -/
theorem sub_fld {H : Type} {enc : TypeId × Value → H} {P : Program} {w : World} {base : Nat} {spare : Nat → Bool} {held : Bool} {n : Nat} {t : TypeId} {cs : List Value} {y : DataW H × List MemPlace} {fs : Array Field} (ht : P.underlying t = some (.struct fs))
    (h : DataW.trod enc P w base spare held n t cs = some y) (j : Nat) (f : Field) (hj : fs[j]? = some f) (o k : Nat) (ty : TypeId) (ho : f.offset = o) (hty : f.type = ty) (hk : P.cellsOf ty = k) :
    ∃ n' y', DataW.trod enc P w base spare held n' ty ((cs.drop o).take k) = some y' := by
  obtain ⟨xs, n', _, _, _, hlen, hg⟩ := DataW.trod_struct ht h
  have h1 := hg j f hj
  have hjl : j < xs.length := by rw [hlen]; exact (Array.getElem?_eq_some_iff.1 hj).1
  rw [ho, hty, hk, List.getElem?_eq_getElem hjl] at h1
  exact ⟨n', _, h1⟩
theorem list9 (l : List Value) (h : l.length = 9) : ∃ c0 c1 c2 c3 c4 c5 c6 c7 c8, l = [c0, c1, c2, c3, c4, c5, c6, c7, c8] := by
  cases l with
  | nil => simp at h
  | cons c0 l =>
  cases l with
  | nil => simp at h
  | cons c1 l =>
  cases l with
  | nil => simp at h
  | cons c2 l =>
  cases l with
  | nil => simp at h
  | cons c3 l =>
  cases l with
  | nil => simp at h
  | cons c4 l =>
  cases l with
  | nil => simp at h
  | cons c5 l =>
  cases l with
  | nil => simp at h
  | cons c6 l =>
  cases l with
  | nil => simp at h
  | cons c7 l =>
  cases l with
  | nil => simp at h
  | cons c8 l =>
  cases l with
  | nil => exact ⟨c0, c1, c2, c3, c4, c5, c6, c7, c8, rfl⟩
  | cons _ _ => simp at h

set_option maxRecDepth 100000 in
theorem open_Saved {H : Type} {enc : TypeId × Value → H} {w : World} {base : Nat} {spare : Nat → Bool} {held : Bool} {r : Reach} {b0 : Nat} {v : Value} {d : DataW H} {ps : List MemPlace} (hv : Value.okWide Try.prog w r b0 73 v) (h : DataW.Trod enc Try.prog w base spare held 73 v d ps) :
    ∃ (x0 : ByteArray) (x1 : Int) (x2 : Int) (x3 : Int) (a4 : Option Addr) (k4 : Nat) (x4 : List Int) (x5 : Int) (a6 : Option Addr) (k6 : Nat) (x6 : List Int) (a7 : Option Addr) (k7 : Nat) (x7 : List Int) (a8 : Option Addr) (k8 : Nat) (x8 : List Int), v = .agg #[.string x0, .int .i64 x1, .int .i64 x2, .int .i64 x3, .slice a4 x4.length k4, .int .i64 x5, .slice a6 x6.length k6, .slice a7 x7.length k7, .slice a8 x8.length k8] ∧ x0.size ≤ 9223372036854775807 ∧ Rd (Value.int .i64) w a4 k4 x4 ∧ Rd (Value.int .i64) w a6 k6 x6 ∧ Rd (Value.int .i64) w a7 k7 x7 ∧ Rd (Value.int .i64) w a8 k8 x8 := by
  obtain ⟨cs, rfl, hsz⟩ := okWide_struct Try.underlying73 hv
  obtain ⟨l⟩ := cs
  obtain ⟨c0, c1, c2, c3, c4, c5, c6, c7, c8, rfl⟩ := list9 l (hsz.trans (by kernel_rfl))
  obtain ⟨n, hn⟩ := h
  have hn' : DataW.trod enc Try.prog w base spare held n 73 [c0, c1, c2, c3, c4, c5, c6, c7, c8] = some (d, ps) := hn
  obtain ⟨n0, y0, g0⟩ := sub_fld Try.underlying73 hn' 0 _ rfl 0 1 9 rfl rfl (by kernel_rfl)
  have g0 : DataW.trod enc Try.prog w base spare held n0 9 [c0] = some y0 := g0
  have e0 := g0
  obtain ⟨x0, rfl, r0⟩ := el_string Try.underlying9 _ _ _ e0
  obtain ⟨n1, y1, g1⟩ := sub_fld Try.underlying73 hn' 1 _ rfl 1 4 69 rfl rfl (by kernel_rfl)
  have g1 : DataW.trod enc Try.prog w base spare held n1 69 [c1, c2, c3, c4] = some y1 := g1
  obtain ⟨m1, z1, e1⟩ := sub_fld Try.underlying69 g1 0 _ rfl 0 1 2 rfl rfl (by kernel_rfl)
  have e1 : DataW.trod enc Try.prog w base spare held m1 2 [c1] = some z1 := e1
  obtain ⟨x1, rfl, _⟩ := el_int Try.underlying2 _ _ _ e1
  obtain ⟨m2, z2, e2⟩ := sub_fld Try.underlying69 g1 1 _ rfl 1 1 2 rfl rfl (by kernel_rfl)
  have e2 : DataW.trod enc Try.prog w base spare held m2 2 [c2] = some z2 := e2
  obtain ⟨x2, rfl, _⟩ := el_int Try.underlying2 _ _ _ e2
  obtain ⟨m3, z3, e3⟩ := sub_fld Try.underlying69 g1 2 _ rfl 2 1 2 rfl rfl (by kernel_rfl)
  have e3 : DataW.trod enc Try.prog w base spare held m3 2 [c3] = some z3 := e3
  obtain ⟨x3, rfl, _⟩ := el_int Try.underlying2 _ _ _ e3
  obtain ⟨m4, z4, e4⟩ := sub_fld Try.underlying69 g1 3 _ rfl 3 1 31 rfl rfl (by kernel_rfl)
  have e4 : DataW.trod enc Try.prog w base spare held m4 31 [c4] = some z4 := e4
  obtain ⟨a4, k4, x4, rfl, r4, _⟩ := fld_list Try.underlying31 (by kernel_rfl) (el_int Try.underlying2) e4
  obtain ⟨n2, y2, g2⟩ := sub_fld Try.underlying73 hn' 2 _ rfl 5 4 71 rfl rfl (by kernel_rfl)
  have g2 : DataW.trod enc Try.prog w base spare held n2 71 [c5, c6, c7, c8] = some y2 := g2
  obtain ⟨m5, z5, e5⟩ := sub_fld Try.underlying71 g2 0 _ rfl 0 1 2 rfl rfl (by kernel_rfl)
  have e5 : DataW.trod enc Try.prog w base spare held m5 2 [c5] = some z5 := e5
  obtain ⟨x5, rfl, _⟩ := el_int Try.underlying2 _ _ _ e5
  obtain ⟨m6, z6, e6⟩ := sub_fld Try.underlying71 g2 1 _ rfl 1 1 31 rfl rfl (by kernel_rfl)
  have e6 : DataW.trod enc Try.prog w base spare held m6 31 [c6] = some z6 := e6
  obtain ⟨a6, k6, x6, rfl, r6, _⟩ := fld_list Try.underlying31 (by kernel_rfl) (el_int Try.underlying2) e6
  obtain ⟨m7, z7, e7⟩ := sub_fld Try.underlying71 g2 2 _ rfl 2 1 31 rfl rfl (by kernel_rfl)
  have e7 : DataW.trod enc Try.prog w base spare held m7 31 [c7] = some z7 := e7
  obtain ⟨a7, k7, x7, rfl, r7, _⟩ := fld_list Try.underlying31 (by kernel_rfl) (el_int Try.underlying2) e7
  obtain ⟨m8, z8, e8⟩ := sub_fld Try.underlying71 g2 3 _ rfl 3 1 31 rfl rfl (by kernel_rfl)
  have e8 : DataW.trod enc Try.prog w base spare held m8 31 [c8] = some z8 := e8
  obtain ⟨a8, k8, x8, rfl, r8, _⟩ := fld_list Try.underlying31 (by kernel_rfl) (el_int Try.underlying2) e8
  exact ⟨x0, x1, x2, x3, a4, k4, x4, x5, a6, k6, x6, a7, k7, x7, a8, k8, x8, rfl, Nat.le_trans r0 (by unfold maxLen; omega), r4, r6, r7, r8⟩

end Go.Proofs.Ytgkmmilmdhhleaa
