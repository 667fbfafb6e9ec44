/- A Saved, opened. -/
import Derived.Test.YtdpolaedfjljmaaQSo13
import Derived.Test.YtdpolaedfjljmaaRows
namespace Go.Proofs.Ytdpolaedfjljmaa
open Go.ChangeShapes Go.WideShapes Go.ChangeAt Go.RowKit Go.Deep

/-- A field's reading out of a struct's. -/
theorem sub_fld {H : Type} {enc : TypeId × Value → H} {P : Program} {w : World} {base : Nat} {spare : Nat → Bool} {held : Bool} {n : Nat} {t : TypeId} {cs : List Value} {y : DataW H × List MemPlace} {fs : Array Field} (ht : P.underlying t = some (.struct fs))
    (h : DataW.trod enc P w base spare held n t cs = some y) (j : Nat) (f : Field) (hj : fs[j]? = some f) (o k : Nat) (ty : TypeId) (ho : f.offset = o) (hty : f.type = ty) (hk : P.cellsOf ty = k) :
    ∃ n' y', DataW.trod enc P w base spare held n' ty ((cs.drop o).take k) = some y' := by
  obtain ⟨xs, n', _, _, _, hlen, hg⟩ := DataW.trod_struct ht h
  have h1 := hg j f hj
  have hjl : j < xs.length := by rw [hlen]; exact (Array.getElem?_eq_some_iff.1 hj).1
  rw [ho, hty, hk, List.getElem?_eq_getElem hjl] at h1
  exact ⟨n', _, h1⟩
theorem list9 (l : List Value) (h : l.length = 9) : ∃ c0 c1 c2 c3 c4 c5 c6 c7 c8, l = [c0, c1, c2, c3, c4, c5, c6, c7, c8] := by
  cases l with
  | nil => simp at h
  | cons c0 l =>
  cases l with
  | nil => simp at h
  | cons c1 l =>
  cases l with
  | nil => simp at h
  | cons c2 l =>
  cases l with
  | nil => simp at h
  | cons c3 l =>
  cases l with
  | nil => simp at h
  | cons c4 l =>
  cases l with
  | nil => simp at h
  | cons c5 l =>
  cases l with
  | nil => simp at h
  | cons c6 l =>
  cases l with
  | nil => simp at h
  | cons c7 l =>
  cases l with
  | nil => simp at h
  | cons c8 l =>
  cases l with
  | nil => exact ⟨c0, c1, c2, c3, c4, c5, c6, c7, c8, rfl⟩
  | cons _ _ => simp at h

end Go.Proofs.Ytdpolaedfjljmaa
