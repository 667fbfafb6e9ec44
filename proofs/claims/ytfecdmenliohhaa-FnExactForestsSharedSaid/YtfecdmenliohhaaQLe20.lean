/- A slice of slices among the arguments, opened. -/
import Derived.Test.YtfecdmenliohhaaQLe18
import Derived.Test.YtfecdmenliohhaaQLe10
set_option linter.unusedVariables false
set_option linter.unusedSimpArgs false
namespace Go.Proofs.Ytfecdmenliohhaa
open Go.ChangeShapes Go.WideShapes Go.ChangeAt Go.RowKit Go.Deep

section
variable {H : Type} {enc : TypeId × Value → H} {P : Program} {w : World} {base : Nat} {spare : Nat → Bool} {held : Bool}

theorem choice_list {α β : Type} [Inhabited β] (xs : List α) (p : α → β → Prop) (h : ∀ x ∈ xs, ∃ y, p x y) : ∃ g : α → β, ∀ x ∈ xs, p x (g x) := by
  classical
  refine ⟨fun x => if hx : ∃ y, p x y then hx.choose else default, fun x hx => ?_⟩
  have := h x hx
  simp only [dif_pos this]
  exact this.choose_spec

theorem open_list2 {α : Type} [Inhabited α] {f : α → Value} {ok : α → Prop} {t e ee : TypeId} {a : Option Addr} {len cap : Nat} {d : DataW H} {ps : List MemPlace} (ht : P.underlying t = some (.slice e)) (hc : P.cellsOf e = 1) (he : P.underlying e = some (.slice ee)) (hce : P.cellsOf ee = 1)
    (hel : ∀ n v x, DataW.trod enc P w base spare held n ee [v] = some x → ∃ y : α, v = f y ∧ ok y)
    (h : DataW.Trod enc P w base spare held t (.slice a len cap) d ps) (hlt : ∀ x ∈ ps, x.block < w.heap.size) :
    ∃ (hs : List Hd) (xss : List (List α)), len = xss.length ∧ Rd2 f w a cap hs xss ∧ ∀ xs ∈ xss, ∀ x ∈ xs, ok x := by
  obtain ⟨hs, rfl, hr, ho⟩ := open_list (α := Hd) (f := hdV) (ok := fun hd => ∃ xs : List α, hd.2.1 = xs.length ∧ Rd f w hd.1 hd.2.2 xs ∧ ∀ x ∈ xs, ok x) ht hc (fun n v x hx => by
    obtain ⟨a, c, xs, rfl, hr, ho⟩ := fld_list he hce hel hx
    exact ⟨(a, xs.length, c), rfl, xs, rfl, hr, ho⟩) h hlt
  obtain ⟨g, hg⟩ := choice_list hs _ ho
  refine ⟨hs, hs.map g, by simp, ⟨hr, by simp, fun i hi => ?_⟩, ?_⟩
  · have hi' : i < hs.length := by simpa using hi
    have := hg hs[i] (List.getElem_mem hi')
    exact ⟨hs[i], g hs[i], by simp [hi'], by simp [hi'], this.1, this.2.1⟩
  · intro xs hxs x hx
    simp only [List.mem_map] at hxs
    obtain ⟨hd, hh, rfl⟩ := hxs
    exact (hg hd hh).2.2 x hx
end

end Go.Proofs.Ytfecdmenliohhaa
