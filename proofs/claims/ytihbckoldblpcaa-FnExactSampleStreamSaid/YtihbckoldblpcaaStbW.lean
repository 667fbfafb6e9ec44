/- slices.SortStableFunc at []int64: the steps of the walk in memory: what is asked of the comparing closure, two elements exchanged. -/
import Derived.Test.YtihbckoldblpcaaStbL
import Derived.Test.YtihbckoldblpcaaCut
import Derived.Test.YtihbckoldblpcaaWith
import Derived.IntWalk
import Derived.Deep.LoopGhost
import Derived.Shelf.Abstract
namespace Go.Proofs.Ytihbckoldblpcaa
open Go.RowKit

/-- A tag in memory: its number. -/
def vI (val : Int → Int) (t : Int) : Value := .int .i64 (val t)

/-- What is asked of the closure: called with the numbers of two tags of T, it tells them apart by their keys; it reads and may draw. -/
structure CmpOk (P : Program) (F : Nat) (caps : Array Value) (w : World) (row : Option Nat) (val K : Int → Int) (cf : Int → Int → Int) (T : Int → Prop) : Prop where
  enters : ∀ (vs : Array Value) (w : World), (callFunc F vs).run P w = .ok (.enter F vs) w
  neg : ∀ s t, T s → T t → decide (cf s t < 0) = decide (K s < K t)
  call : ∀ w', w.grownBy w' row → ∀ s t, T s → T t → Calls P F (#[.int .i64 (val s), .int .i64 (val t)] ++ caps) w' fun e w'' => e = .returned (.int .i64 (cf s t)) ∧ ∃ q, w'' = w'.drewN q

theorem CmpOk.grown {P : Program} {F : Nat} {caps : Array Value} {w w1 : World} {row : Option Nat} {val K : Int → Int} {cf : Int → Int → Int} {T : Int → Prop} (h : CmpOk P F caps w row val K cf T) (hg : w.grownBy w1 row) : CmpOk P F caps w1 row val K cf T :=
  ⟨h.enters, h.neg, fun w' hg' => h.call w' (grown_trans hg hg')⟩

/-- All tags are of T. -/
def All (T : Int → Prop) (ts : List Int) : Prop := ∀ t ∈ ts, T t
theorem All.at {T : Int → Prop} {ts : List Int} (h : All T ts) {k : Nat} (hk : k < ts.length) : T (at0 ts k) := h _ (by unfold at0; rw [List.getElem?_eq_getElem hk]; exact List.getElem_mem hk)
theorem All.perm {T : Int → Prop} {ts us : List Int} (h : All T ts) (hp : us.Perm ts) : All T us := fun t ht => h t (hp.subset ht)

theorem grown_refl (w : World) (row : Option Nat) : w.grownBy w row := ⟨rfl, rfl, rfl, Nat.le_refl _, fun _ _ _ => rfl⟩
theorem grown_drewN (w : World) (n : Nat) (row : Option Nat) : w.grownBy (w.drewN n) row := ⟨rfl, rfl, rfl, Nat.le_refl _, fun _ _ _ => rfl⟩

section
variable {val : Int → Int} {e : TypeId} {w : World} {base : Nat} {a : Option Addr} {c : Nat} {ys : List Int}

theorem ownI_cell (ho : Own (vI val) e w base a c ys) {p : Nat} (hp : p < ys.length) {x : Int} (hx : at0 ys p = x) : w.cell? (elt a p) = some (.int .i64 (val x)) := by
  rw [ho.cell p hp, ← hx]; simp [vI, at0, hp]
theorem ownI_idx (ho : Own (vI val) e w base a c ys) {P : Program} {T : TypeId} (hT : P.underlying T = some (.slice (P.elem T))) (hs : ∀ w, (sizeOf (P.elem T)).run P w = .ok 1 w)
    (k : Nat) (hk : k < ys.length) (i : Int) (hi : i = k) : ∀ w' : World, (Instr.indexAt T (.slice a ys.length c) (.int .i64 i)).run P w' = .ok (.pointer (some (elt a k))) w' := by
  subst hi
  exact fun w' => ho.idx hT hs w' k hk

/-- Two elements change places, behind a draw. -/
structure Swp2 (val : Int → Int) (e : TypeId) (w : World) (base : Nat) (a : Option Addr) (c : Nat) (ys zs : List Int) (p q : Nat) (x y : Int) : Prop where
  fp : w.frozen? (elt a p) = false
  c2 : ∃ v, (w.setCell (elt a p) (.int .i64 (val y))).cell? (elt a q) = some v
  fq : w.frozen? (elt a q) = false
  own : Own (vI val) e ((w.setCell (elt a p) (.int .i64 (val y))).setCell (elt a q) (.int .i64 (val x))).drew base a c zs
  grown : w.grownBy ((w.setCell (elt a p) (.int .i64 (val y))).setCell (elt a q) (.int .i64 (val x))).drew (a.map (·.block))

theorem swp2_of (ho : Own (vI val) e w base a c ys) {p q : Nat} (hp : p < ys.length) (hq : q < ys.length) {x y : Int} {zs : List Int} (hz : (ys.set p y).set q x = zs) : Swp2 val e w base a c ys zs p q x y := by
  have h1 := ho.set p hp y
  have h2 := h1.1.set q (by simpa using hq) x
  subst hz
  exact ⟨ho.free p hp, ⟨_, h1.1.cell q (by simpa using hq)⟩, ho.free q hq, h2.1.drewN 1, grown_trans (grown_trans h1.2 h2.2) (grown_drewN _ 1 _)⟩

end

theorem swp_def {ys : List Int} {k : Nat} {x y : Int} (hx : at0 ys k = x) (hy : at0 ys (k - 1) = y) : (ys.set k y).set (k - 1) x = swp ys k := by
  unfold swp; rw [hx, hy]
theorem swp_def' {ys : List Int} {k : Nat} {x y : Int} (hx : at0 ys k = x) (hy : at0 ys (k + 1) = y) : (ys.set k y).set (k + 1) x = swp ys (k + 1) := by
  unfold swp
  rw [Nat.add_sub_cancel, hx, hy, List.set_comm _ _ (by omega)]

end Go.Proofs.Ytihbckoldblpcaa
