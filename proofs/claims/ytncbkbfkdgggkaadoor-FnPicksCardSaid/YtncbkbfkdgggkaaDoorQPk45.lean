/- A saved one in a box: its elements changed; what stays. -/
import Derived.Test.YtncbkbfkdgggkaaDoorQPk44
import Derived.Test.YtncbkbfkdgggkaaDoorQPk7
set_option linter.unusedVariables false
set_option linter.unusedSimpArgs false
namespace Go.Proofs.YtncbkbfkdgggkaaDoor
open Go.RowKit

theorem Src.keptB {w w' : World} {b : Nat} {a : Option Addr} {c : Nat} {xs : List Int} {k B : Nat} (h : Src w b a c xs k) (hb : Below B w w') (h1 : b < B) (h2 : 0 < xs.length → ∀ p, a = some p → p.block < B) : Src w' b a c xs k := by
  obtain ⟨j, sd, hj, hq⟩ := h.blk
  refine ⟨⟨j, sd, hj, ?_⟩, ⟨h.rd.cap, h.rd.max, h.rd.nil, fun h0 => ?_, fun k hk => ?_⟩, h.off, h.byt⟩
  · unfold Blk at *; rw [hb.block b h1]; exact hq
  · obtain ⟨g, o, e, hlt⟩ := h.rd.here h0; exact ⟨g, o, e, Nat.lt_of_lt_of_le hlt hb.size⟩
  · obtain ⟨g, o, e, hlt⟩ := h.rd.here (by omega)
    have h3 := h2 (by omega) _ e
    have e2 : w'.heap[(elt a k).block]? = w.heap[(elt a k).block]? := hb.block _ (by rw [e]; exact h3)
    rw [World.cell?_of_block e2]; exact h.rd.cell k hk
theorem grown_thenBelow {w w1 w2 : World} {row : Option Nat} {B : Nat} (h : w.grownBy w1 row) (hb : Below B w1 w2) (hB : w.heap.size ≤ B) : w.grownBy w2 row :=
  ⟨hb.os.trans h.os, hb.tape.trans h.tape, hb.output.trans h.output, Nat.le_trans h.size hb.size, fun k hk hr => by rw [hb.block k (by omega)]; exact h.block k hk hr⟩

section
variable {w w1 : World} {b : Nat} {h : SvH} {s : Sv}
end

end Go.Proofs.YtncbkbfkdgggkaaDoor
