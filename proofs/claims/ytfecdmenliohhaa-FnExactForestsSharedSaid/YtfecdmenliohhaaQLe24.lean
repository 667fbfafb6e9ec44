/- The worker's piece of work: ForestsShared$2: one drawn region, in company. -/
import Derived.Test.YtfecdmenliohhaaQLe1
import Derived.Test.YtfecdmenliohhaaQLe11
import Derived.Test.YtfecdmenliohhaaQLe19
import Derived.Test.YtfecdmenliohhaaQLe8
set_option linter.unusedVariables false
set_option linter.unusedSimpArgs false
set_option linter.unusedSimpArgs false
set_option linter.unusedVariables false
namespace Go.Proofs.Ytfecdmenliohhaa
open Go Go.Conc Go.ConcN Go.RowKit
open Go.ConcR (Payload DC0)

noncomputable def opsW : Array Oper := match Try.f36.body with | some (.region _ ops _) => ops | _ => #[]
theorem bodyW : Try.f36.body = some (.region 0 opsW true) := rfl

/-- What is kept since world w₀, but for cell i of the payload. -/
structure Sn (X : PX) (j i : Nat) (O : OwnB) (w w₁ : World) : Prop where
  tape : w₁.tape = w.tape
  size : w.heap.size ≤ w₁.heap.size
  held : ∀ b, X.Ro b ∨ O b → w₁.heap[b]? = w.heap[b]?
  live : WgLive X.ty X.Wg w → WgLive X.ty X.Wg w₁
  pay : X.Pay w → X.Pay w₁
  cell : ∀ k, k ≠ i → X.mine j k → w₁.cell? ⟨X.C, k, none⟩ = w.cell? ⟨X.C, k, none⟩
theorem Sn.refl {X : PX} {j i : Nat} (O : OwnB) (w : World) : Sn X j i O w w := ⟨rfl, Nat.le_refl _, fun _ _ => rfl, id, id, fun _ _ _ => rfl⟩
theorem Sn.trans {X : PX} {j i : Nat} {O : OwnB} {a b c : World} (h : Sn X j i O a b) (k : Sn X j i O b c) : Sn X j i O a c :=
  ⟨k.tape.trans h.tape, Nat.le_trans h.size k.size, fun b hb => (k.held b hb).trans (h.held b hb), k.live ∘ h.live, k.pay ∘ h.pay, fun x hx hm => (k.cell x hx hm).trans (h.cell x hx hm)⟩
theorem RWk.sn {X : PX} {j : Nat} {O : OwnB} {w w₁ : World} (h : RWk X j O w w₁) (i : Nat) : Sn X j i O w w₁ := ⟨h.tape, h.size, h.held, h.live, h.pay, fun k _ hm => h.cell k hm⟩
theorem Sn.cellRo {X : PX} {j i : Nat} {O : OwnB} {w w₁ : World} (h : Sn X j i O w w₁) {a : Addr} {v : Value} (hb : X.Ro a.block ∨ O a.block) (hc : w.cell? a = some v) : w₁.cell? a = some v := by
  rw [← hc]; unfold World.cell?; rw [h.held _ hb]

/-- Where a worker's own blocks lie. -/
structure Bnd (X : PX) (O : OwnB) (w : World) : Prop where
  on : ∀ b, O b → ¬ X.Ro b
  oC : ¬ O X.C
  oW : ¬ O X.Wg
  lt : ∀ b, X.Ro b ∨ O b → b < w.heap.size
  cl : X.C < w.heap.size
  wl : X.Wg < w.heap.size
theorem Bnd.grow {X : PX} {O : OwnB} {w w₁ : World} (h : Bnd X O w) (hs : w.heap.size ≤ w₁.heap.size) : Bnd X O w₁ := ⟨h.on, h.oC, h.oW, fun b hb => Nat.lt_of_lt_of_le (h.lt b hb) hs, Nat.lt_of_lt_of_le h.cl hs, Nat.lt_of_lt_of_le h.wl hs⟩

/-- What the shared blocks hold. -/
structure WF (X : PX) (GB n2 lB oB : Nat) (N : Int) (la : Option Addr) (lc oc : Nat) (rows : Nat → Option Addr × Nat × List Int) (w : World) : Prop where
  roN : X.Ro n2
  roL : X.Ro lB
  roO : X.Ro oB
  roA : 0 < X.n → ∃ b o, la = some ⟨b, o, none⟩ ∧ X.Ro b
  roR : ∀ k, k < X.n → ∀ a, (rows k).1 = some a → 0 < (rows k).2.2.length → X.Ro a.block
  n2 : w.cell? ⟨n2, 0, none⟩ = some (.int .i64 N)
  l : w.cell? ⟨lB, 0, none⟩ = some (.slice la X.n lc)
  o : w.cell? ⟨oB, 0, none⟩ = some (.slice (some ⟨X.C, 0, none⟩) X.n oc)
  row : ∀ k, k < X.n → w.cell? (elt la k) = some (.slice (rows k).1 (rows k).2.2.length (rows k).2.1)
  rd : ∀ k, k < X.n → Rd (Value.int .i64) w (rows k).1 (rows k).2.1 (rows k).2.2

def dstW : Nat → Option Nat
  | 0 => some 6 | 1 => some 7 | 2 => some 8 | 3 => some 9 | 4 => some 10 | 5 => some 11 | 6 => some 12 | 7 => some 13 | 8 => some 5 | 9 => some 14 | 10 => some 15 | 11 => some 16 | 12 => some 17 | _ => none
def valW (X : PX) (i : Nat) (N : Int) (la : Option Addr) (lc oc : Nat) (rows : Nat → Option Addr × Nat × List Int) (r : Value × Value × Value) : Nat → Value
  | 0 => .slice (some ⟨X.C, 0, none⟩) X.n oc | 1 => .int .i64 i | 2 => .int .i64 N | 3 => .slice la X.n lc | 4 => .int .i64 i | 5 => .pointer (some (elt la i))
  | 6 => .slice (rows i).1 (rows i).2.2.length (rows i).2.1 | 7 => .tuple #[r.1, r.2.1, r.2.2] | 8 => .tuple #[r.1, r.2.1, r.2.2] | 9 => r.1 | 10 => r.2.1 | 11 => r.2.2 | 12 => .pointer (some ⟨X.C, i, none⟩) | _ => undef

/-- The slots while the region is under way. -/
structure SlW (n2 lB oB i : Nat) (V : Nat → Value) (L : Array Bool) (a : Act) : Prop where
  size : a.tmps.size = 18
  dfr : a.defers = []
  p0 : a.tmps[0]? = some (.int .i64 i)
  p1 : a.tmps[1]? = some (.pointer (some ⟨n2, 0, none⟩))
  p2 : a.tmps[2]? = some (.pointer (some ⟨lB, 0, none⟩))
  p3 : a.tmps[3]? = some (.pointer (some ⟨oB, 0, none⟩))
  at_ : ∀ k d, dstW k = some d → L.getD k false = true → a.tmps[d]? = some (V k)
theorem dstW_ge {k d : Nat} (h : dstW k = some d) : 4 ≤ d ∧ d < 18 ∧ k < 13 := by
  unfold dstW at h
  split at h <;> simp at h <;> subst h <;> decide
theorem dstW_inj {k k' d : Nat} (h : dstW k = some d) (h' : dstW k' = some d) : k = k' := by
  have h1 := (dstW_ge h).2.2
  have h2 := (dstW_ge h').2.2
  have : ∀ k < 13, ∀ k' < 13, dstW k = dstW k' → k = k' := by decide
  exact this k h1 k' h2 (h.trans h'.symm)
theorem getD_set_self {L : Array Bool} {i j : Nat} (h : (L.setIfInBounds i true).getD j false = true) : j = i ∨ L.getD j false = true := by
  by_cases e : i = j
  · exact .inl e.symm
  · rw [getD_set_ne false e] at h; exact .inr h
theorem SlW.put {n2 lB oB i : Nat} {V : Nat → Value} {L : Array Bool} {a : Act} (h : SlW n2 lB oB i V L a) {k d : Nat} (hd : dstW k = some d) : SlW n2 lB oB i V (L.setIfInBounds k true) (a.put (some d) (V k)) := by
  obtain ⟨h4, h18, hk13⟩ := dstW_ge hd
  have hne : ∀ s, s < 4 → (a.put (some d) (V k)).tmps[s]? = a.tmps[s]? := fun s hs => by
    show (a.tmps.setIfInBounds d (V k))[s]? = _
    rw [Array.getElem?_setIfInBounds_ne (by omega)]
  refine ⟨by show (a.tmps.setIfInBounds d (V k)).size = 18; simp [h.size], h.dfr, by rw [hne 0 (by omega)]; exact h.p0, by rw [hne 1 (by omega)]; exact h.p1, by rw [hne 2 (by omega)]; exact h.p2, by rw [hne 3 (by omega)]; exact h.p3, fun k' d' hd' hl => ?_⟩
  show (a.tmps.setIfInBounds d (V k))[d']? = _
  by_cases e : k' = k
  · subst e
    rw [hd] at hd'; cases hd'
    rw [Array.getElem?_setIfInBounds_self_of_lt (by rw [h.size]; exact h18)]
  · have hdd : d ≠ d' := fun x => e (dstW_inj hd' (x ▸ hd))
    rw [Array.getElem?_setIfInBounds_ne hdd]
    rcases getD_set_self hl with h1 | h1
    · exact absurd h1 e
    · exact h.at_ k' d' hd' h1
theorem SlW.mark {n2 lB oB i : Nat} {V : Nat → Value} {L : Array Bool} {a : Act} (h : SlW n2 lB oB i V L a) {k : Nat} (hd : dstW k = none) : SlW n2 lB oB i V (L.setIfInBounds k true) a :=
  ⟨h.size, h.dfr, h.p0, h.p1, h.p2, h.p3, fun k' d' hd' hl => by
    rcases getD_set_self hl with h1 | h1
    · subst h1; rw [hd] at hd'; cases hd'
    · exact h.at_ k' d' hd' h1⟩
theorem SlW.congr {n2 lB oB i : Nat} {V V' : Nat → Value} {L : Array Bool} {a : Act} (h : SlW n2 lB oB i V L a) (e : ∀ k d, dstW k = some d → L.getD k false = true → V' k = V k) : SlW n2 lB oB i V' L a :=
  ⟨h.size, h.dfr, h.p0, h.p1, h.p2, h.p3, fun k d hd hl => by rw [h.at_ k d hd hl, e k d hd hl]⟩
end Go.Proofs.Ytfecdmenliohhaa
