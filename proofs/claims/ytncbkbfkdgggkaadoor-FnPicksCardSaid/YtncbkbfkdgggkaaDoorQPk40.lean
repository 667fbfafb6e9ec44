/- The helpers of the laws on bytes; lists of lists that a call makes by append. -/
import Derived.Test.YtncbkbfkdgggkaaDoorQPk4
import Derived.Test.YtncbkbfkdgggkaaDoorQPk38
import Derived.Test.YtncbkbfkdgggkaaDoorQPk2
import Derived.Deep.DrawnRows
set_option linter.unusedVariables false
set_option linter.unusedSimpArgs false
namespace Go.Proofs.YtncbkbfkdgggkaaDoor
open Go.RowKit
attribute [local go_sem ↓] Go.wp_at_zero Go.wp_at_succ

theorem bd_byte {n : Int} (h : (Lit.int .u8 n).wf = true) : 0 ≤ n ∧ n < 256 := by
  simp [Lit.wf, IntKind.min, IntKind.max, IntKind.signed, IntKind.bits] at h
  omega
/-- A list of lists that the call makes by append. -/
structure App2 {α : Type} [Inhabited α] (f : α → Value) (e E : TypeId) (w : World) (base : Nat) (a : Option Addr) (c : Nat) (hs : List Hd) (xss : List (List α)) : Prop where
  top : Own hdV E w base a c hs
  len : hs.length = xss.length
  row : ∀ (i : Nat) (h : Hd) (xs : List α), hs[i]? = some h → xss[i]? = some xs → h.2.1 = xs.length ∧ Own f e w base h.1 h.2.2 xs
section
variable {α : Type} [Inhabited α] {f : α → Value} {e E : TypeId} {w w' : World} {base : Nat} {a : Option Addr} {c : Nat} {hs : List Hd} {xss : List (List α)}
theorem App2.below (l : App2 f e E w base a c hs xss) {B : Nat} (hb : Below B w w') (hB : w.heap.size ≤ B) : App2 f e E w' base a c hs xss :=
  ⟨l.top.below hb hB, l.len, fun i h xs h1 h2 => ⟨(l.row i h xs h1 h2).1, (l.row i h xs h1 h2).2.below hb hB⟩⟩
theorem App2.rd2 (l : App2 f e E w base a c hs xss) : Rd2 f w a c hs xss :=
  ⟨l.top.rd, l.len, fun i hi => by
    have hh : hs[i]? = some (hs[i]'(by rw [l.len]; exact hi)) := List.getElem?_eq_getElem _
    obtain ⟨r1, r2⟩ := l.row i _ _ hh (List.getElem?_eq_getElem hi)
    exact ⟨_, _, hh, List.getElem?_eq_getElem hi, r1, r2.rd⟩⟩
theorem App2.start (hb : Own hdV E w base a c []) : App2 f e E w base a c [] [] := ⟨hb, rfl, fun i h xs h1 => by simp at h1⟩
theorem App2.push (l : App2 f e E w base a c hs xss) (hne : e ≠ E) {lo : Nat} {h : Hd} {xs : List α} (hn : h.2.1 = xs.length) (hx : Own f e w lo h.1 h.2.2 xs) (hlo : base ≤ lo) {a' : Option Addr} {c' : Nat} (ho : Own hdV E w' base a' c' (hs ++ [h])) (hg : w.grownBy w' (a.map (·.block))) :
    App2 f e E w' base a' c' (hs ++ [h]) (xss ++ [xs]) := by
  refine ⟨ho, by simp [l.len], fun i h1 x1 e1 e2 => ?_⟩
  by_cases hi : i < hs.length
  · rw [List.getElem?_append_left hi] at e1
    rw [List.getElem?_append_left (by rw [← l.len]; exact hi)] at e2
    obtain ⟨r1, r2⟩ := l.row i h1 x1 e1 e2
    exact ⟨r1, r2.keptS hg (sep_of_type r2 l.top hne)⟩
  · have hi' := (List.getElem?_eq_some_iff.1 e1).1
    rw [List.length_append, List.length_singleton] at hi'
    have e0 : i = hs.length := by omega
    subst e0
    rw [List.getElem?_append_right (Nat.le_refl _), Nat.sub_self] at e1
    rw [List.getElem?_append_right (by rw [l.len]; exact Nat.le_refl _), l.len, Nat.sub_self] at e2
    simp at e1 e2
    subst e1 e2
    exact ⟨hn, (hx.keptS hg (sep_of_type hx l.top hne)).mono hlo⟩
theorem App2.keptO {β : Type} {g : β → Value} {e2 : TypeId} {b2 : Nat} {a2 : Option Addr} {c2 : Nat} {ys : List β} (l : App2 f e E w base a c hs xss) (o : Own g e2 w b2 a2 c2 ys) (hg : w.grownBy w' (a2.map (·.block))) (h1 : e ≠ e2) (h2 : E ≠ e2) : App2 f e E w' base a c hs xss :=
  ⟨l.top.keptS hg (sep_of_type l.top o h2), l.len, fun i h xs e1 e2 => ⟨(l.row i h xs e1 e2).1, (l.row i h xs e1 e2).2.keptS hg (sep_of_type (l.row i h xs e1 e2).2 o h1)⟩⟩
end

end Go.Proofs.YtncbkbfkdgggkaaDoor
