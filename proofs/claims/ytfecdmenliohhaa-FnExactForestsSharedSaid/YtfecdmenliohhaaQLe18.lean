/- How the arguments of a law are opened: each slice as a list. Fields of a struct, opened. -/
import Derived.Test.YtfecdmenliohhaaQLe6
import Derived.ProofKit
import Derived.OpenShut
import Derived.ShutString
import Derived.ChangeOld
import Derived.Deep.Slices
import Derived.Lib.SmallJoins
set_option linter.unusedVariables false
set_option linter.unusedSimpArgs false
namespace Go.Proofs.Ytfecdmenliohhaa
open Go.ChangeShapes Go.WideShapes Go.ChangeAt Go.RowKit Go.Deep

section
variable {H : Type} {enc : TypeId × Value → H} {P : Program} {w : World} {base : Nat} {spare : Nat → Bool} {held : Bool}

/-- A slice whose elements are of one cell, as a list: 'hel' tells what an element that can be read looks like. -/
theorem open_list {α : Type} [Inhabited α] {f : α → Value} {ok : α → Prop} {t e : TypeId} {a : Option Addr} {len cap : Nat} {d : DataW H} {ps : List MemPlace} (ht : P.underlying t = some (.slice e)) (hc : P.cellsOf e = 1)
    (hel : ∀ n v x, DataW.trod enc P w base spare held n e [v] = some x → ∃ y : α, v = f y ∧ ok y)
    (h : DataW.Trod enc P w base spare held t (.slice a len cap) d ps) (hlt : ∀ x ∈ ps, x.block < w.heap.size) :
    ∃ xs : List α, len = xs.length ∧ Rd f w a cap xs ∧ ∀ x ∈ xs, ok x := by
  obtain ⟨fuel, hf⟩ := h
  have hcs : (Value.slice a len cap).cells.toList = [.slice a len cap] := rfl
  rw [hcs] at hf
  rcases open_slice1 ht hc hf with ⟨h0, _⟩ | ⟨ad, l, c, m, n, V, D, Pl, h0, hb, hl, hm, hmm, hx, hcell⟩
  · simp at h0
    obtain ⟨rfl, rfl, rfl⟩ := h0
    exact ⟨[], rfl, ⟨by simp, by simp, by simp, by simp, by simp⟩, by simp⟩
  · simp at h0
    obtain ⟨rfl, rfl, rfl⟩ := h0
    have hlm : len ≤ m := by rw [hmm]; split <;> omega
    obtain ⟨g, hg⟩ := choose_lt (α := α) (n := len) (p := fun i y => V i = f y ∧ ok y) (fun i hi => hel n (V i) _ (hcell i (by omega)).2)
    refine ⟨(List.range len).map g, by simp, ⟨by simpa using hl, by simpa [maxLen] using hm, by simp, ?_, ?_⟩, ?_⟩
    · intro h0
      have h0' : 0 < len := by simpa using h0
      have h1 := (hcell 0 (by omega)).1
      have hadd : ad.add 0 = ad := by simp [Addr.add]
      rw [hadd] at h1
      have hlt' := World.block_lt_of_cell? w ad h1
      obtain ⟨b, o, s⟩ := ad
      cases s with
      | none => exact ⟨b, o, rfl, hlt'⟩
      | some q =>
        exfalso
        unfold World.cell? at h1
        split at h1 <;> simp at h1
    · intro k hk
      have hk' : k < len := by simpa using hk
      have h1 := (hcell k (by omega)).1
      rw [(hg k hk').1] at h1
      have h2 := (hcell 0 (by omega)).1
      obtain ⟨b, o, s⟩ := ad
      have hs : s = none := by
        cases s with
        | none => rfl
        | some q =>
          exfalso
          have hadd : (⟨b, o, some q⟩ : Addr).add 0 = ⟨b, o, some q⟩ := by simp [Addr.add]
          rw [hadd] at h2
          unfold World.cell? at h2
          split at h2 <;> simp at h2
      subst hs
      rw [elt_some, ← add_elt, h1]
      simp [hk']
    · intro x hx
      simp at hx
      obtain ⟨i, hi, rfl⟩ := hx
      exact (hg i hi).2

theorem el_int {e : TypeId} {k : IntKind} (he : P.underlying e = some (.int k)) : ∀ n v x, DataW.trod enc P w base spare held n e [v] = some x → ∃ y : Int, v = .int k y ∧ (Lit.int k y).wf = true := by
  intro n v x h
  obtain ⟨m, h1, _, h2⟩ := DataW.trod_int he h
  exact ⟨m, by simpa using h1, h2⟩
theorem el_bool {e : TypeId} (he : P.underlying e = some .bool) : ∀ n v x, DataW.trod enc P w base spare held n e [v] = some x → ∃ y : Bool, v = .bool y ∧ True := by
  intro n v x h
  obtain ⟨m, h1, _⟩ := DataW.trod_bool he h
  exact ⟨m, by simpa using h1, trivial⟩
theorem el_float {e : TypeId} {k : FloatKind} (he : P.underlying e = some (.float k)) : ∀ n v x, DataW.trod enc P w base spare held n e [v] = some x → ∃ y : Nat, v = .float k y ∧ (Lit.float k y).wf = true := by
  intro n v x h
  cases n with
  | zero => simp [DataW.trod] at h
  | succ n =>
    unfold DataW.trod at h
    rw [he] at h
    cases v <;> simp at h
    rename_i k' b
    obtain ⟨⟨rfl, hw⟩, _⟩ := h
    exact ⟨b, rfl, hw⟩
theorem el_string {e : TypeId} (he : P.underlying e = some .string) : ∀ n v x, DataW.trod enc P w base spare held n e [v] = some x → ∃ y : ByteArray, v = .string y ∧ y.size ≤ maxLen := by
  intro n v x h
  obtain ⟨m, h1, _, h2⟩ := DataW.trod_string he h
  exact ⟨m, by simpa using h1, h2⟩
end

theorem open_float {H : Type} {enc : TypeId × Value → H} {P : Program} {w : World} {base : Nat} {spare : Nat → Bool} {held : Bool} {t : TypeId} {k : FloatKind} {v : Value} {d : DataW H} {ps : List MemPlace} (ht : P.underlying t = some (.float k))
    (hv : v.cells = #[v]) (h : DataW.Trod enc P w base spare held t v d ps) : ∃ y : Nat, v = .float k y ∧ (Lit.float k y).wf = true := by
  obtain ⟨n, hn⟩ := h
  rw [hv] at hn
  exact el_float ht n v _ hn

end Go.Proofs.Ytfecdmenliohhaa

namespace Go.Proofs.Ytfecdmenliohhaa
open Go.ChangeShapes Go.WideShapes Go.ChangeAt Go.RowKit Go.Deep

section
variable {H : Type} {enc : TypeId × Value → H} {P : Program} {w : World} {base : Nat} {spare : Nat → Bool} {held : Bool}

theorem fld_slice {n : Nat} {t e : TypeId} {v : Value} {y : DataW H × List MemPlace} (ht : P.underlying t = some (.slice e)) (h : DataW.trod enc P w base spare held n t [v] = some y) : ∃ a l c, v = .slice a l c := by
  cases n with
  | zero => simp [DataW.trod] at h
  | succ n =>
    unfold DataW.trod at h
    rw [ht] at h
    cases v <;> simp at h
    exact ⟨_, _, _, rfl⟩

theorem fld_list {α : Type} [Inhabited α] {f : α → Value} {ok : α → Prop} {n : Nat} {t e : TypeId} {v : Value} {y : DataW H × List MemPlace} (ht : P.underlying t = some (.slice e)) (hc : P.cellsOf e = 1)
    (hel : ∀ n v x, DataW.trod enc P w base spare held n e [v] = some x → ∃ y : α, v = f y ∧ ok y) (h : DataW.trod enc P w base spare held n t [v] = some y) :
    ∃ (a : Option Addr) (c : Nat) (xs : List α), v = .slice a xs.length c ∧ Rd f w a c xs ∧ ∀ x ∈ xs, ok x := by
  obtain ⟨a, l, c, rfl⟩ := fld_slice ht h
  obtain ⟨xs, rfl, hr, ho⟩ := open_list (d := y.1) (ps := y.2) ht hc hel ⟨n, h⟩ (DataW.trod_lt n _ _ _ h)
  exact ⟨a, c, xs, rfl, hr, ho⟩
end

end Go.Proofs.Ytfecdmenliohhaa
