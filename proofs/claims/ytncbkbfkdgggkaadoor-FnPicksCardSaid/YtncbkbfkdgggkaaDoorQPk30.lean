/- slices.Sort at []int64, on a list of the call's own. -/
import Derived.Test.YtncbkbfkdgggkaaDoorQPk1
import Derived.Test.YtncbkbfkdgggkaaDoorQPk6
import Derived.Test.YtncbkbfkdgggkaaDoorQPk4
import Derived.Sort.OwnSortedInts
set_option linter.unusedVariables false
set_option linter.unusedSimpArgs false
namespace Go.Proofs.YtncbkbfkdgggkaaDoor
open Go.RowKit Go.Sort Go.Proofs Go.ChangeShapes Go.WideShapes

theorem sorti_own {w : World} {base : Nat} {a : Option Addr} {c : Nat} {xs : List Int} (ho : Own (Value.int .i64) 2 w base a c xs) (hn : xs.length ≤ 1048576) (hne : xs ≠ []) :
    Calls Tryd.prog 55 #[.slice a xs.length c] w fun e w' => e = .returned (.tuple #[]) ∧ Own (Value.int .i64) 2 w' base a c (srt xs) ∧ w.grownBy w' (a.map (·.block)) := by
  rcases ho.shape with ⟨_, _, h⟩ | ⟨g, rfl, hbg, hlt, hlc, hcm, cur, hb, hcs, ht⟩
  · exact absurd h hne
  · have hC : Calls Tryd.prog 55 #[.slice (some ⟨g, 0, none⟩) xs.length c] w fun e w' => e = .returned (.tuple #[]) ∧ ∃ n os, w' = grow (putRow (Value.int .i64) (Sort.ahead w n) g 0 (xs.mergeSort fun x y => decide (x ≤ y)).toArray) os :=
      AnyG.slices_Sort_int Tryd.sortI g 0 c xs w (holds_of_blockI hb ht) hlt (by omega)
    refine hC.mono ?_
    rintro e w' ⟨rfl, n, os, rfl⟩
    refine ⟨rfl, ?_, grownBy_sortedI _⟩
    have h := ownsRow_sortedI (n := n) (os := os) (ss := xs) (ts := srt xs) (srt_len xs) hbg hb hlc hcm (by omega)
    unfold Own
    rw [srt_len]
    exact h

/-- The same, the empty list too. -/
theorem sorti_any {w : World} {base : Nat} {a : Option Addr} {c : Nat} {xs : List Int} (ho : Own (Value.int .i64) 2 w base a c xs) (hn : xs.length ≤ 1048576) :
    Calls Tryd.prog 55 #[.slice a xs.length c] w fun e w' => e = .returned (.tuple #[]) ∧ Own (Value.int .i64) 2 w' base a c (srt xs) ∧ w.grownBy w' (a.map (·.block)) := by
  by_cases hne : xs = []
  · subst hne
    refine (AnyG.slices_Sort_int_none Tryd.sortI a c w).mono ?_
    rintro e w' ⟨rfl, rfl⟩
    exact ⟨rfl, ho.cast (srt_of (List.Perm.refl _) List.Pairwise.nil), World.grownBy.refl _ _⟩
  · exact sorti_own ho hn hne

end Go.Proofs.YtncbkbfkdgggkaaDoor
