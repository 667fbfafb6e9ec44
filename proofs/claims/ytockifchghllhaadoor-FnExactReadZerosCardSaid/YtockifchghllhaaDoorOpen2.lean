/- Fields of a struct, opened. -/
import Derived.Test.YtockifchghllhaaDoorOpen
import Derived.Lib.SmallJoins
namespace Go.Proofs.YtockifchghllhaaDoor
open Go.ChangeShapes Go.WideShapes Go.ChangeAt Go.RowKit Go.Deep

section
variable {H : Type} {enc : TypeId × Value → H} {P : Program} {w : World} {base : Nat} {spare : Nat → Bool} {held : Bool}

theorem fld_slice {n : Nat} {t e : TypeId} {v : Value} {y : DataW H × List MemPlace} (ht : P.underlying t = some (.slice e)) (h : DataW.trod enc P w base spare held n t [v] = some y) : ∃ a l c, v = .slice a l c := by
  cases n with
  | zero => simp [DataW.trod] at h
  | succ n =>
    unfold DataW.trod at h
    rw [ht] at h
    cases v <;> simp at h
    exact ⟨_, _, _, rfl⟩

theorem fld_list {α : Type} [Inhabited α] {f : α → Value} {ok : α → Prop} {n : Nat} {t e : TypeId} {v : Value} {y : DataW H × List MemPlace} (ht : P.underlying t = some (.slice e)) (hc : P.cellsOf e = 1)
    (hel : ∀ n v x, DataW.trod enc P w base spare held n e [v] = some x → ∃ y : α, v = f y ∧ ok y) (h : DataW.trod enc P w base spare held n t [v] = some y) :
    ∃ (a : Option Addr) (c : Nat) (xs : List α), v = .slice a xs.length c ∧ Rd f w a c xs ∧ ∀ x ∈ xs, ok x := by
  obtain ⟨a, l, c, rfl⟩ := fld_slice ht h
  obtain ⟨xs, rfl, hr, ho⟩ := open_list (d := y.1) (ps := y.2) ht hc hel ⟨n, h⟩ (DataW.trod_lt n _ _ _ h)
  exact ⟨a, c, xs, rfl, hr, ho⟩
end

end Go.Proofs.YtockifchghllhaaDoor
