/- A region that draws its order, whose operations only read and whose callees read and make memory: walked once. -/
import Derived.Test.YtdpolaedfjljmaaLib
namespace Go.Proofs.Ytdpolaedfjljmaa
open Go.RowKit

/-- All worlds that have only grown since w. -/
theorem calm_family (w : World) : ∃ (ι : Type) (_ : Nonempty ι) (G : ι → World), (∀ i, Below w.heap.size w (G i)) ∧ ∀ w', Below w.heap.size w w' → ∃ i, w' = G i :=
  ⟨{w' : World // Below w.heap.size w w'}, ⟨⟨w, Below.refl _ _⟩⟩, Subtype.val, fun i => i.2, fun w' h => ⟨⟨w', h⟩, rfl⟩⟩

theorem wp_region_calm {P : Program} {ι : Type} {G : ι → World} {id : Nat} {Q : Exit → Act → World → Prop} {a : Act} {w : World} {l : List Oper} (hm : P.follows .mixedOrders = true) (hB : Region.lexB .any l.toArray = true)
    (hS : ∀ w', Below w.heap.size w w' → ∃ i, w' = G i)
    (h : wpQuiet P l.toArray (fun w' => ∃ i, w' = G i) (fun a' => ∀ w', (∃ i, w' = G i) → Q .normal a' w') l a) : (Code.region id l.toArray true).wp P Q a w :=
  wp_region_quiet (C := fun w' => ∃ i, w' = G i) hm hB (hS _ (below_of_drewN w 1 _)) (by simpa using h)

theorem calm_call {P : Program} {f : FuncId} {args : Array Value} {w : World} {ι : Type} {G : ι → World} (hG : ∀ i, Below w.heap.size w (G i)) (hS : ∀ w', Below w.heap.size w w' → ∃ i, w' = G i) {i : ι} {v : Value}
    (h : Calls P f args (G i) fun e w' => e = .returned v ∧ Below (G i).heap.size (G i) w') : Calls P f args (G i) fun e w'' => e = .returned v ∧ ∃ j, w'' = G j :=
  h.mono fun _ _ ⟨he, hb⟩ => ⟨he, hS _ ((hG i).trans (hb.mono (hG i).size))⟩
theorem calm_same {P : Program} {f : FuncId} {args : Array Value} {ι : Type} {G : ι → World} {i : ι} {v : Value}
    (h : Calls P f args (G i) fun e w' => e = .returned v ∧ G i = w') : Calls P f args (G i) fun e w'' => e = .returned v ∧ ∃ j, w'' = G j :=
  h.mono fun _ _ ⟨he, hb⟩ => ⟨he, i, hb.symm⟩
theorem calm_drew {P : Program} {f : FuncId} {args : Array Value} {w : World} {ι : Type} {G : ι → World} (hG : ∀ i, Below w.heap.size w (G i)) (hS : ∀ w', Below w.heap.size w w' → ∃ i, w' = G i) {i : ι} {v : Value}
    (h : Calls P f args (G i) fun e w' => e = .returned v ∧ ∃ n, w' = (G i).drewN n) : Calls P f args (G i) fun e w'' => e = .returned v ∧ ∃ j, w'' = G j :=
  calm_call hG hS (h.mono fun _ _ ⟨he, n, hn⟩ => ⟨he, by rw [hn]; exact below_of_drewN _ _ _⟩)

/-- A drawn region of which all operations but the last few only read: the world behind the draw under a name of its own. -/
theorem wp_tail {P : Program} {id : Nat} {Q : Exit → Act → World → Prop} {a : Act} {w : World} {l : List Oper} (wd : World) (hd : wd = w.drew) (n : Nat) (hm : P.follows .mixedOrders = true) (hB : Region.lexTailB .any l.toArray n = true)
    (h : wpStill P l.toArray wd (fun a' => wpList P l.toArray Q (l.drop n) a' wd) (l.take n) a) : (Code.region id l.toArray true).wp P Q a w := by
  subst hd
  exact wp_region_still_tail n hm hB h

end Go.Proofs.Ytdpolaedfjljmaa
