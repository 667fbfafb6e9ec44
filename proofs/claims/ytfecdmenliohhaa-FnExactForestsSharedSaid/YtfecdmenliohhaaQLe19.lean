/- A view made to measure: windows of true blocks that nobody writes, and whole blocks. Plain. -/
import Derived.Test.YtfecdmenliohhaaQLe4
import Derived.Test.YtfecdmenliohhaaQLe6
set_option linter.unusedVariables false
set_option linter.unusedSimpArgs false
set_option linter.unusedSimpArgs false
set_option linter.unusedVariables false
namespace Go.Proofs.Ytfecdmenliohhaa
open Go Go.RowKit

/-- A block of the view: a window of a true block, from cell off on; the whole of a true block. -/
inductive VB where
  | win (blk off : Nat) (vals : List Value)
  | ful (blk : Nat) (o : Obj)
def VB.tgt : VB → Option Nat
  | .win b _ vs => if vs.isEmpty then none else some b
  | .ful b _ => some b
def VB.sh : VB → Option Nat
  | .win _ o vs => if vs.isEmpty then none else some o
  | .ful _ _ => none
def VB.obj (bad : TypeId) : VB → Obj
  | .win _ _ vs => .cells vs.toArray bad (0, vs.length)
  | .ful _ o => o
def VB.isDead : VB → Prop
  | .win _ _ vs => vs = []
  | .ful _ _ => False

section
variable (L : List FuncId) (GB : Nat) (Ro : Nat → Prop) (bad : TypeId) (vs : List VB) (w : World)
def atV (b : Nat) : Option VB := if b < GB then none else vs[b - GB]?
def viwC : Cx := { F := fun f => L.contains f = true, G := GB, lock := Ro, sh := fun b => (atV GB vs b).bind VB.sh, dead := fun b => ∃ x, atV GB vs b = some x ∧ x.isDead, bad := bad }
def viwP : Ren := fun b => (atV GB vs b).bind VB.tgt
def viwW : World := { w with heap := (List.replicate GB (Obj.cells #[] bad (0, 0)) ++ vs.map (VB.obj bad)).toArray }
end

section
variable {L : List FuncId} {GB : Nat} {Ro : Nat → Prop} {bad : TypeId} {vs : List VB} {w w' : World} {P : Program}
theorem viw_list (hL : L.all (fnOk P L) = true) (hG : GB = P.globals.size) (hb : P.info? bad = none) : ListOk P (viwC L GB Ro bad vs) L := ⟨hL, fun f => Iff.rfl, ⟨hG, hb⟩⟩
theorem viw_size : (viwW GB bad vs w).heap.size = GB + vs.length := by simp [viwW]
theorem atV_some {b : Nat} {x : VB} (h : atV GB vs b = some x) : GB ≤ b ∧ vs[b - GB]? = some x := by
  unfold atV at h
  split at h
  · cases h
  · exact ⟨by omega, h⟩
theorem atV_of {i : Nat} {x : VB} (h : vs[i]? = some x) : atV GB vs (GB + i) = some x := by
  unfold atV
  rw [if_neg (by omega), show GB + i - GB = i by omega]; exact h
theorem viw_heap {b : Nat} {x : VB} (h : atV GB vs b = some x) : (viwW GB bad vs w).heap[b]? = some (x.obj bad) := by
  obtain ⟨h1, h2⟩ := atV_some h
  simp only [viwW, List.getElem?_toArray]
  rw [List.getElem?_append_right (by simpa using h1)]
  simp [h2]
/-- A cell of a window. -/
theorem viw_cell {i k blk off : Nat} {xs : List Value} {v : Value} (h : vs[i]? = some (.win blk off xs)) (hv : xs[k]? = some v) : (viwW GB bad vs w).cell? ⟨GB + i, k, none⟩ = some v := by
  have := viw_heap (bad := bad) (w := w) (atV_of (GB := GB) h)
  simp only [World.cell?, this, VB.obj]
  simpa using hv
/-- A slice that reads as a list, in the view. -/
theorem viw_rd {α : Type} [Inhabited α] {f : α → Value} {i blk off c : Nat} {xs : List α} (h : vs[i]? = some (.win blk off (xs.map f))) (hc : xs.length ≤ c) (hm : c ≤ 9223372036854775807) : Rd f (viwW GB bad vs w) (some ⟨GB + i, 0, none⟩) c xs := by
  refine ⟨hc, hm, (fun e => by cases e), fun _ => ⟨_, _, rfl, ?_⟩, fun k hk => ?_⟩
  · have := (List.getElem?_eq_some_iff.1 h).1
    rw [viw_size]; omega
  · rw [elt_some, Nat.zero_add]
    refine viw_cell h ?_
    simp [hk]

/-- ████ The view is alike. ████ -/
theorem viw_rel (hlock : ∀ (i blk off : Nat) (xs : List Value), vs[i]? = some (.win blk off xs) → xs ≠ [] → Ro blk)
    (hinj : ∀ (i j : Nat) (x y : VB) (c : Nat), vs[i]? = some x → vs[j]? = some y → x.tgt = some c → y.tgt = some c → i = j ∨ Ro c)
    (hful : ∀ (i blk : Nat) (o : Obj), vs[i]? = some (.ful blk o) → ¬ Ro blk ∧ ∃ o', w'.heap[blk]? = some o' ∧ ORel (viwC L GB Ro bad vs) (viwP GB vs) o o')
    (hwin : ∀ (i blk off : Nat) (xs : List Value), vs[i]? = some (.win blk off xs) → ∀ (k : Nat) (v : Value), xs[k]? = some v → ∃ v', w'.cell? ⟨blk, k + off, none⟩ = some v' ∧ VRel (viwC L GB Ro bad vs) (viwP GB vs) v v')
    (hRo : ∀ c, Ro c → c < w'.heap.size) : WRel (viwC L GB Ro bad vs) (viwP GB vs) (viwW GB bad vs w) w' := by
  have up : ∀ b c, viwP GB vs b = some c → ∃ x, atV GB vs b = some x ∧ x.tgt = some c := fun b c h => by
    unfold viwP at h
    exact Option.bind_eq_some_iff.1 h
  refine ⟨fun b b₁ c h h' => ?_, fun b c h => ?_, ?_, fun b c h hl => ?_, hRo, fun b hb => ?_, fun b hb => ?_⟩
  · obtain ⟨x, h1, h2⟩ := up b c h
    obtain ⟨y, h3, h4⟩ := up b₁ c h'
    obtain ⟨a1, a2⟩ := atV_some h1
    obtain ⟨a3, a4⟩ := atV_some h3
    exact (hinj _ _ x y c a2 a4 h2 h4).imp (fun e => by omega) id
  · obtain ⟨x, h1, h2⟩ := up b c h
    obtain ⟨a1, a2⟩ := atV_some h1
    have hh := viw_heap (bad := bad) (w := w) h1
    cases x with
    | win blk off xs =>
      simp only [VB.tgt] at h2
      split at h2
      · cases h2
      rename_i hne
      cases h2
      have hxs : xs ≠ [] := by simpa using hne
      obtain ⟨v, l, rfl⟩ := List.exists_cons_of_ne_nil hxs
      obtain ⟨v', hc, _⟩ := hwin _ _ _ _ a2 0 v rfl
      have hob : ∃ cs e z, w'.heap[c]? = some (.cells cs e z) := by
        simp only [World.cell?] at hc
        split at hc
        · rename_i cs e z h; exact ⟨cs, e, z, h⟩
        · cases hc
      obtain ⟨cs, e, z, hob⟩ := hob
      refine ⟨_, _, hh, hob, .win (n := off) ?_ (hlock _ _ _ _ a2 hxs) fun k v hv => ?_⟩
      · show (atV GB vs b).bind VB.sh = some off
        rw [h1]; rfl
      · obtain ⟨v', h3, h4⟩ := hwin _ _ _ _ a2 k v (by simpa using hv)
        simp only [World.cell?, hob] at h3
        exact ⟨v', by simpa using h3, h4⟩
    | ful blk o =>
      simp only [VB.tgt] at h2
      cases h2
      obtain ⟨hnr, o', h3, h4⟩ := hful _ _ _ a2
      exact ⟨_, _, hh, h3, .full (by show (atV GB vs b).bind VB.sh = none; rw [h1]; rfl) h4⟩
  · show GB ≤ _; rw [viw_size]; omega
  · obtain ⟨x, h1, h2⟩ := up b c h
    obtain ⟨a1, a2⟩ := atV_some h1
    have hh := viw_heap (bad := bad) (w := w) h1
    cases x with
    | win blk off xs => exact ⟨_, _, _, hh, by simp⟩
    | ful blk o =>
      simp only [VB.tgt] at h2
      cases h2
      exact absurd hl (hful _ _ _ a2).1
  · rw [viw_size] at hb
    show (atV GB vs b).bind VB.sh = none
    have : atV GB vs b = none := by
      unfold atV
      split
      · rfl
      · exact List.getElem?_eq_none (by omega)
    rw [this]; rfl
  · obtain ⟨x, h1, h2⟩ := hb
    have hh := viw_heap (bad := bad) (w := w) h1
    cases x with
    | win blk off xs =>
      simp only [VB.isDead] at h2
      subst h2
      refine ⟨?_, hh⟩
      show (atV GB vs b).bind VB.tgt = none
      rw [h1]; rfl
    | ful blk o => exact h2.elim

/-- A slice's value, alike: its window's. -/
theorem viw_slice {i blk off l c : Nat} {xs : List Value} {a' : Option Addr} (h : vs[i]? = some (.win blk off xs)) (hl : l = xs.length) (hc : l ≤ c) (ha : xs ≠ [] → a' = some ⟨blk, off, none⟩) (hs : ∃ x, a' = some x) :
    VRel (viwC L GB Ro bad vs) (viwP GB vs) (.slice (some ⟨GB + i, 0, none⟩) l c) (.slice a' l c) := by
  have h1 := atV_of (GB := GB) h
  by_cases hx : xs = []
  · obtain ⟨x, rfl⟩ := hs
    subst hx
    subst hl
    exact .sliceE c ⟨_, h1, rfl⟩
  · rw [ha hx]
    refine .slice l c ⟨?_, ?_, rfl, by show GB ≤ GB + i; omega⟩
    · show (atV GB vs (GB + i)).bind VB.tgt = some blk
      rw [h1]
      simp [VB.tgt, hx]
    · show off = 0 + ((atV GB vs (GB + i)).bind VB.sh).getD 0
      rw [h1]
      simp [VB.sh, hx]
/-- A slice's address as the view sees it; its window. -/
def seenA (GB i : Nat) (a : Option Addr) : Option Addr := a.map fun _ => ⟨GB + i, 0, none⟩
def winA {α : Type} (f : α → Value) (a : Option Addr) (xs : List α) : VB := .win (a.getD ⟨0, 0, none⟩).block (a.getD ⟨0, 0, none⟩).off (xs.map f)
theorem viw_rdA {α : Type} [Inhabited α] {f g : α → Value} {i c : Nat} {a : Option Addr} {xs : List α} {w₀ : World} (hr : Rd g w₀ a c xs) (h : vs[i]? = some (winA f a xs)) : Rd f (viwW GB bad vs w) (seenA GB i a) c xs := by
  cases a with
  | none =>
    have h0 := hr.nil rfl
    have hx : xs.length = 0 := by have := hr.cap; omega
    exact ⟨hr.cap, hr.max, fun _ => h0, fun h => by omega, fun k hk => by omega⟩
  | some a => exact viw_rd h hr.cap hr.max
theorem rd_cell {α : Type} [Inhabited α] {f : α → Value} {c : Nat} {a : Option Addr} {xs : List α} (hr : Rd f w a c xs) {k : Nat} (hk : k < xs.length) : w.cell? ⟨(a.getD ⟨0, 0, none⟩).block, k + (a.getD ⟨0, 0, none⟩).off, none⟩ = some (f (xs[k]?.getD default)) := by
  rw [Nat.add_comm]; exact hr.cell k hk
theorem viw_sliceA {α : Type} [Inhabited α] {f g : α → Value} {i c l : Nat} {a : Option Addr} {xs : List α} {w₀ : World} (hr : Rd g w₀ a c xs) (h : vs[i]? = some (winA f a xs)) (hl : l = xs.length) :
    VRel (viwC L GB Ro bad vs) (viwP GB vs) (.slice (seenA GB i a) l c) (.slice a l c) := by
  subst hl
  cases a with
  | none =>
    have h0 := hr.nil rfl
    have hx : xs.length = 0 := by have := hr.cap; omega
    rw [hx, h0]
    exact .slice0
  | some a =>
    refine viw_slice h (by simp) hr.cap (fun hne => ?_) ⟨a, rfl⟩
    obtain ⟨b, o, e, _⟩ := hr.here (List.length_pos_iff.2 fun e => hne (by simp [e]))
    cases e
    rfl
end
end Go.Proofs.Ytfecdmenliohhaa
