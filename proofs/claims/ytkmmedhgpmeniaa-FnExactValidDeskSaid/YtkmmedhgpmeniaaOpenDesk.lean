/- A Desk, opened. -/
import Derived.Test.YtkmmedhgpmeniaaOpen2
import Derived.Test.YtkmmedhgpmeniaaRows
namespace Go.Proofs.Ytkmmedhgpmeniaa
open Go.ChangeShapes Go.WideShapes Go.ChangeAt Go.RowKit Go.Deep

/-- A field's reading out of a struct's. -/
theorem sub_fld {H : Type} {enc : TypeId × Value → H} {P : Program} {w : World} {base : Nat} {spare : Nat → Bool} {held : Bool} {n : Nat} {t : TypeId} {cs : List Value} {y : DataW H × List MemPlace} {fs : Array Field} (ht : P.underlying t = some (.struct fs))
    (h : DataW.trod enc P w base spare held n t cs = some y) (j : Nat) (f : Field) (hj : fs[j]? = some f) (o k : Nat) (ty : TypeId) (ho : f.offset = o) (hty : f.type = ty) (hk : P.cellsOf ty = k) :
    ∃ n' y', DataW.trod enc P w base spare held n' ty ((cs.drop o).take k) = some y' := by
  obtain ⟨xs, n', _, _, _, hlen, hg⟩ := DataW.trod_struct ht h
  have h1 := hg j f hj
  have hjl : j < xs.length := by rw [hlen]; exact (Array.getElem?_eq_some_iff.1 hj).1
  rw [ho, hty, hk, List.getElem?_eq_getElem hjl] at h1
  exact ⟨n', _, h1⟩
theorem list10 (l : List Value) (h : l.length = 10) : ∃ c0 c1 c2 c3 c4 c5 c6 c7 c8 c9, l = [c0, c1, c2, c3, c4, c5, c6, c7, c8, c9] := by
  cases l with
  | nil => simp at h
  | cons c0 l =>
  cases l with
  | nil => simp at h
  | cons c1 l =>
  cases l with
  | nil => simp at h
  | cons c2 l =>
  cases l with
  | nil => simp at h
  | cons c3 l =>
  cases l with
  | nil => simp at h
  | cons c4 l =>
  cases l with
  | nil => simp at h
  | cons c5 l =>
  cases l with
  | nil => simp at h
  | cons c6 l =>
  cases l with
  | nil => simp at h
  | cons c7 l =>
  cases l with
  | nil => simp at h
  | cons c8 l =>
  cases l with
  | nil => simp at h
  | cons c9 l =>
  cases l with
  | nil => exact ⟨c0, c1, c2, c3, c4, c5, c6, c7, c8, c9, rfl⟩
  | cons _ _ => simp at h

set_option maxRecDepth 100000 in
theorem open_Desk {H : Type} {enc : TypeId × Value → H} {w : World} {base : Nat} {spare : Nat → Bool} {held : Bool} {r : Reach} {b0 : Nat} {v : Value} {d : DataW H} {ps : List MemPlace} (hv : Value.okWide Try.prog w r b0 64 v) (h : DataW.Trod enc Try.prog w base spare held 64 v d ps) :
    ∃ (x0 : Int) (x1 : Int) (a2 : Option Addr) (k2 : Nat) (x2 : List Bool) (x3 : Int) (a4 : Option Addr) (k4 : Nat) (x4 : List Int) (x5 : Int) (x6 : Int) (a7 : Option Addr) (k7 : Nat) (x7 : List Int) (a8 : Option Addr) (k8 : Nat) (x8 : List Int) (a9 : Option Addr) (k9 : Nat) (x9 : List Int), v = .agg #[.int .i64 x0, .int .i64 x1, .slice a2 x2.length k2, .int .i64 x3, .slice a4 x4.length k4, .int .i64 x5, .int .i64 x6, .slice a7 x7.length k7, .slice a8 x8.length k8, .slice a9 x9.length k9] ∧ Rd (Value.bool) w a2 k2 x2 ∧ Rd (Value.int .i64) w a4 k4 x4 ∧ Rd (Value.int .i64) w a7 k7 x7 ∧ Rd (Value.int .i64) w a8 k8 x8 ∧ Rd (Value.int .i64) w a9 k9 x9 := by
  obtain ⟨cs, rfl, hsz⟩ := okWide_struct Try.underlying64 hv
  obtain ⟨l⟩ := cs
  obtain ⟨c0, c1, c2, c3, c4, c5, c6, c7, c8, c9, rfl⟩ := list10 l (hsz.trans (by kernel_rfl))
  obtain ⟨n, hn⟩ := h
  have hn' : DataW.trod enc Try.prog w base spare held n 64 [c0, c1, c2, c3, c4, c5, c6, c7, c8, c9] = some (d, ps) := hn
  obtain ⟨n0, y0, g0⟩ := sub_fld Try.underlying64 hn' 0 _ rfl 0 3 61 rfl rfl (by kernel_rfl)
  have g0 : DataW.trod enc Try.prog w base spare held n0 61 [c0, c1, c2] = some y0 := g0
  obtain ⟨m0, z0, e0⟩ := sub_fld Try.underlying61 g0 0 _ rfl 0 1 2 rfl rfl (by kernel_rfl)
  have e0 : DataW.trod enc Try.prog w base spare held m0 2 [c0] = some z0 := e0
  obtain ⟨x0, rfl, _⟩ := el_int Try.underlying2 _ _ _ e0
  obtain ⟨m1, z1, e1⟩ := sub_fld Try.underlying61 g0 1 _ rfl 1 1 2 rfl rfl (by kernel_rfl)
  have e1 : DataW.trod enc Try.prog w base spare held m1 2 [c1] = some z1 := e1
  obtain ⟨x1, rfl, _⟩ := el_int Try.underlying2 _ _ _ e1
  obtain ⟨m2, z2, e2⟩ := sub_fld Try.underlying61 g0 2 _ rfl 2 1 24 rfl rfl (by kernel_rfl)
  have e2 : DataW.trod enc Try.prog w base spare held m2 24 [c2] = some z2 := e2
  obtain ⟨a2, k2, x2, rfl, r2, _⟩ := fld_list Try.underlying24 (by kernel_rfl) (el_bool Try.underlying4) e2
  obtain ⟨n1, y1, g1⟩ := sub_fld Try.underlying64 hn' 1 _ rfl 3 2 62 rfl rfl (by kernel_rfl)
  have g1 : DataW.trod enc Try.prog w base spare held n1 62 [c3, c4] = some y1 := g1
  obtain ⟨m3, z3, e3⟩ := sub_fld Try.underlying62 g1 0 _ rfl 0 1 2 rfl rfl (by kernel_rfl)
  have e3 : DataW.trod enc Try.prog w base spare held m3 2 [c3] = some z3 := e3
  obtain ⟨x3, rfl, _⟩ := el_int Try.underlying2 _ _ _ e3
  obtain ⟨m4, z4, e4⟩ := sub_fld Try.underlying62 g1 1 _ rfl 1 1 23 rfl rfl (by kernel_rfl)
  have e4 : DataW.trod enc Try.prog w base spare held m4 23 [c4] = some z4 := e4
  obtain ⟨a4, k4, x4, rfl, r4, _⟩ := fld_list Try.underlying23 (by kernel_rfl) (el_int Try.underlying2) e4
  obtain ⟨n2, y2, g2⟩ := sub_fld Try.underlying64 hn' 2 _ rfl 5 4 53 rfl rfl (by kernel_rfl)
  have g2 : DataW.trod enc Try.prog w base spare held n2 53 [c5, c6, c7, c8] = some y2 := g2
  obtain ⟨m5, z5, e5⟩ := sub_fld Try.underlying53 g2 0 _ rfl 0 1 2 rfl rfl (by kernel_rfl)
  have e5 : DataW.trod enc Try.prog w base spare held m5 2 [c5] = some z5 := e5
  obtain ⟨x5, rfl, _⟩ := el_int Try.underlying2 _ _ _ e5
  obtain ⟨m6, z6, e6⟩ := sub_fld Try.underlying53 g2 1 _ rfl 1 1 2 rfl rfl (by kernel_rfl)
  have e6 : DataW.trod enc Try.prog w base spare held m6 2 [c6] = some z6 := e6
  obtain ⟨x6, rfl, _⟩ := el_int Try.underlying2 _ _ _ e6
  obtain ⟨m7, z7, e7⟩ := sub_fld Try.underlying53 g2 2 _ rfl 2 1 23 rfl rfl (by kernel_rfl)
  have e7 : DataW.trod enc Try.prog w base spare held m7 23 [c7] = some z7 := e7
  obtain ⟨a7, k7, x7, rfl, r7, _⟩ := fld_list Try.underlying23 (by kernel_rfl) (el_int Try.underlying2) e7
  obtain ⟨m8, z8, e8⟩ := sub_fld Try.underlying53 g2 3 _ rfl 3 1 23 rfl rfl (by kernel_rfl)
  have e8 : DataW.trod enc Try.prog w base spare held m8 23 [c8] = some z8 := e8
  obtain ⟨a8, k8, x8, rfl, r8, _⟩ := fld_list Try.underlying23 (by kernel_rfl) (el_int Try.underlying2) e8
  obtain ⟨n3, y3, g3⟩ := sub_fld Try.underlying64 hn' 3 _ rfl 9 1 23 rfl rfl (by kernel_rfl)
  have g3 : DataW.trod enc Try.prog w base spare held n3 23 [c9] = some y3 := g3
  have e9 := g3
  obtain ⟨a9, k9, x9, rfl, r9, _⟩ := fld_list Try.underlying23 (by kernel_rfl) (el_int Try.underlying2) e9
  exact ⟨x0, x1, a2, k2, x2, x3, a4, k4, x4, x5, x6, a7, k7, x7, a8, k8, x8, a9, k9, x9, rfl, r2, r4, r7, r8, r9⟩

end Go.Proofs.Ytkmmedhgpmeniaa
