/- From the row's listed errors to the fact that the walks ask. -/
import Derived.Test.YtmmpemfhbnkomaaDoorQRw24
import Derived.Test.YtmmpemfhbnkomaaDoorQRw20
import Derived.Test.YtmmpemfhbnkomaaDoorRows
import Derived.Stop.LaidErr
set_option linter.unusedVariables false
set_option linter.unusedSimpArgs false
namespace Go.Proofs.YtmmpemfhbnkomaaDoor
open Go.RowKit

theorem ifc_of_laid {P : Program} {n nm : String} {d : DataW Unit} {r : List (String × DataW Unit)} {W : World} {g : Nat} {ti : TypeId} {ms : Array (String × TypeId)}
    (h : laidMet P ((n, .iface nm d) :: r) W) (hg : P.globalNamed n = some g) (ht : (P.globals[g]?).map (·.type) = some ti) (hi : P.underlying ti = some (.interface ms)) :
    ∃ t p, W.cell? ⟨g, 0, none⟩ = some (.iface t p) := by
  obtain ⟨ps, ⟨g0, t0, cs0, f0, p0, q0, hg0, ht0, hv0, hd0, _, e0⟩, _, hrows⟩ := h
  obtain rfl := Option.some.inj (hg.symm.trans hg0)
  obtain rfl := Option.some.inj (ht.symm.trans ht0)
  obtain ⟨l0⟩ := cs0
  obtain ⟨f1, u, v, e, _, _⟩ := Go.iface_of_trod hi hd0
  have e2 : l0 = [.iface u v] := e
  subst e2
  exact ⟨u, v, by simpa using World.var?_cell hg0 hv0 0⟩
theorem etab_of_laid {W : World} {a b c d : String × DataW Unit} {rest : List (String × DataW Unit)} (h : laidMet Tryd.prog (a :: b :: c :: d :: ("strconv.ErrRange", Rows.laid_strconv_ErrRange) :: ("strconv.ErrSyntax", Rows.laid_strconv_ErrSyntax) :: rest) W) : ETab W :=
  have h4 := h.tail.tail.tail.tail
  ⟨ifc_of_laid h4.tail (g := 1) (by kernel_rfl) (by kernel_rfl) Tryd.underlying83, ifc_of_laid h4 (g := 2) (by kernel_rfl) (by kernel_rfl) Tryd.underlying83⟩

end Go.Proofs.YtmmpemfhbnkomaaDoor
