/- A pool: stretches of a walk that look at no memory. Plain. -/
import Derived.Test.YtfecdmenliohhaaQFo9
import Derived.Conc.WgGenN3
set_option linter.unusedVariables false
set_option linter.unusedSimpArgs false
set_option linter.unusedSimpArgs false
set_option linter.unusedVariables false
namespace Go.Proofs.Ytfecdmenliohhaa
open Go Go.Conc Go.ConcN
open Go.ConcR (WgAt Payload DC0)
variable [Payload]

/-- What is known of the world is kept. -/
def RLf (ty : TypeId) (Wg : Nat) (F : World → Prop) (w w₁ : World) : Prop := F w ∧ WgLive ty Wg w → F w₁ ∧ WgLive ty Wg w₁
omit [Payload] in
theorem fl2 {ty : TypeId} {Wg : Nat} {F : World → Prop} {w w₁ : World} (h : F w ∧ WgLive ty Wg w) (r : RLf ty Wg F w w₁) : F w₁ ∧ WgLive ty Wg w₁ := r h

omit [Payload] in
theorem GSt.idle {X : PX} (S : OwnB) (w : World) : GSt X S S w w #[] := ⟨rfl, rfl, rfl, Nat.le_refl _, fun _ _ _ => rfl, fun _ h => h, fun _ h => .inl h, fun e he => by simp at he⟩

omit [Payload] in
/-- A stretch that neither turns the world nor lists anything. -/
theorem stretch {P : Program} {X : PX} {S : OwnB} {F : World → Prop} {Stop : OwnB → Goroutine → World → Prop} {g : Goroutine} {w : World} {n : Nat} (hFS : ∀ w w₁, RSt X S w w₁ → F w ∧ WgLive X.ty X.Wg w → F w₁ ∧ WgLive X.ty X.Wg w₁)
    (h : Goes P true (RLf X.ty X.Wg F) DC0 (GG P true (RSt X) (GSt X) Stop S) n g w) : GG P true (RSt X) (GSt X) Stop S g w :=
  GG.of_goes (fun w w₁ hr h => hFS w w₁ hr h) (fun w w' es h => by obtain ⟨rfl, rfl⟩ := h; exact GSt.idle S _) h (fun g w hs => hs) RSt.refl

end Go.Proofs.Ytfecdmenliohhaa
