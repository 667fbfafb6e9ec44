/- Lists of saved ones that a call makes by append: plain. -/
import Derived.Test.YtncbkbfkdgggkaaDoorQPk4
import Derived.Test.YtncbkbfkdgggkaaDoorQPk2
import Derived.Laws.OwnMore
set_option linter.unusedVariables false
set_option linter.unusedSimpArgs false
namespace Go.Proofs.YtncbkbfkdgggkaaDoor
open Go.RowKit

theorem sepL_of_type {e e2 : TypeId} {w : World} {n2 size2 : Nat} {b b2 : Nat} {a a2 : Option Addr} {c c2 : Nat} {xs : List Int} {n : Nat} {ys : List Value} (h : Own (Value.int .i64) e w b a c xs) (h2 : w.ownsRow b2 e2 size2 (.slice a2 n c2) n2 ys) (hne : e ≠ e2) : Sep a a2 := by
  intro p q hp hq he
  rcases h.shape with ⟨rfl, _, _⟩ | ⟨g, rfl, _, _, _, _, cur, hg, _⟩
  · simp at hp
  · rcases h2.2 with ⟨h1, _⟩ | ⟨g2, cap, cur2, h1, _, hg2, _⟩
    · simp only [Value.slice.injEq] at h1
      rw [h1.1] at hq; simp at hq
    · simp only [Value.slice.injEq] at h1
      rw [h1.1] at hq
      simp at hp hq
      subst hp hq
      have he' : g = g2 := he
      subst he'
      rw [hg] at hg2
      simp only [Option.some.injEq, Obj.cells.injEq] at hg2
      exact hne hg2.2.1

/-- The cells of a list of saved ones. -/
def rowsC : List SvH → List Sv → List Value
  | h :: hs, s :: ss => (svV h s).toList ++ rowsC hs ss
  | _, _ => []
theorem rowsC_len : ∀ {hs : List SvH} {ss : List Sv}, hs.length = ss.length → (rowsC hs ss).length = ss.length * 9
  | [], [], _ => rfl
  | h :: hs, s :: ss, e => by
    have e' : hs.length = ss.length := by simpa using e
    have e9 : (svV h s).toList.length = 9 := rfl
    show ((svV h s).toList ++ rowsC hs ss).length = _
    rw [List.length_append, rowsC_len e', List.length_cons, e9]
    omega
  | [], _ :: _, e => by simp at e
  | _ :: _, [], e => by simp at e
theorem rowsC_app {h : SvH} {s : Sv} : ∀ {hs : List SvH} {ss : List Sv}, hs.length = ss.length → rowsC (hs ++ [h]) (ss ++ [s]) = rowsC hs ss ++ (svV h s).toList
  | [], [], _ => by simp [rowsC]
  | h0 :: hs, s0 :: ss, e => by
    have e' : hs.length = ss.length := by simpa using e
    show (svV h0 s0).toList ++ rowsC (hs ++ [h]) (ss ++ [s]) = ((svV h0 s0).toList ++ rowsC hs ss) ++ _
    rw [rowsC_app e', List.append_assoc]
  | [], _ :: _, e => by simp at e
  | _ :: _, [], e => by simp at e
theorem rowsC_at {h : SvH} {s : Sv} {j : Nat} (hj : j < 9) : ∀ {hs : List SvH} {ss : List Sv} {k : Nat}, hs[k]? = some h → ss[k]? = some s → (rowsC hs ss)[k * 9 + j]? = (svV h s)[j]?
  | h0 :: hs, s0 :: ss, 0, e1, e2 => by
    simp at e1 e2
    subst e1 e2
    have e9 : (svV h0 s0).toList.length = 9 := rfl
    show ((svV h0 s0).toList ++ rowsC hs ss)[0 * 9 + j]? = _
    rw [List.getElem?_append_left (by rw [e9]; omega)]
    simp
  | h0 :: hs, s0 :: ss, k + 1, e1, e2 => by
    have e9 : (svV h0 s0).toList.length = 9 := rfl
    show ((svV h0 s0).toList ++ rowsC hs ss)[(k + 1) * 9 + j]? = _
    rw [List.getElem?_append_right (by rw [e9]; omega)]
    have e : (k + 1) * 9 + j - (svV h0 s0).toList.length = k * 9 + j := by rw [e9]; omega
    rw [e]
    exact rowsC_at hj (by simpa using e1) (by simpa using e2)
  | [], _, _, e1, _ => by simp at e1
  | _ :: _, [], _, _, e2 => by simp at e2
theorem rowsC_set {h : SvH} {s s' : Sv} {j : Nat} {v : Value} (hj : j < 9) (hv : (svV h s').toList = (svV h s).toList.set j v) : ∀ {hs : List SvH} {ss : List Sv} {k : Nat}, hs[k]? = some h → ss[k]? = some s → rowsC hs (ss.set k s') = (rowsC hs ss).set (k * 9 + j) v
  | h0 :: hs, s0 :: ss, 0, e1, e2 => by
    simp at e1 e2
    subst e1 e2
    have e9 : (svV h0 s0).toList.length = 9 := rfl
    show (svV h0 s').toList ++ rowsC hs ss = ((svV h0 s0).toList ++ rowsC hs ss).set (0 * 9 + j) v
    rw [List.set_append_left _ _ (by rw [e9]; omega), hv]
    simp
  | h0 :: hs, s0 :: ss, k + 1, e1, e2 => by
    have e9 : (svV h0 s0).toList.length = 9 := rfl
    show (svV h0 s0).toList ++ rowsC hs (ss.set k s') = ((svV h0 s0).toList ++ rowsC hs ss).set ((k + 1) * 9 + j) v
    rw [List.set_append_right _ _ (by rw [e9]; omega)]
    have e : (k + 1) * 9 + j - (svV h0 s0).toList.length = k * 9 + j := by rw [e9]; omega
    rw [e, rowsC_set hj hv (by simpa using e1) (by simpa using e2)]
  | [], _, _, e1, _ => by simp at e1
  | _ :: _, [], _, _, e2 => by simp at e2
theorem rowsC_same {h : SvH} {s s' : Sv} (hv : svV h s' = svV h s) : ∀ {hs : List SvH} {ss : List Sv} {k : Nat}, hs[k]? = some h → ss[k]? = some s → rowsC hs (ss.set k s') = rowsC hs ss
  | h0 :: hs, s0 :: ss, 0, e1, e2 => by
    simp at e1 e2
    subst e1 e2
    show (svV h0 s').toList ++ rowsC hs ss = (svV h0 s0).toList ++ rowsC hs ss
    rw [hv]
  | h0 :: hs, s0 :: ss, k + 1, e1, e2 => by
    show (svV h0 s0).toList ++ rowsC hs (ss.set k s') = (svV h0 s0).toList ++ rowsC hs ss
    rw [rowsC_same hv (by simpa using e1) (by simpa using e2)]
  | [], _, _, e1, _ => by simp at e1
  | _ :: _, [], _, _, e2 => by simp at e2
theorem rowsC_one : ∀ {hs : List SvH} {ss : List Sv}, ∀ u ∈ rowsC hs ss, u.oneCell' = true
  | h :: hs, s :: ss, u, hu => by
    have hu' : u ∈ (svV h s).toList ++ rowsC hs ss := hu
    rcases List.mem_append.1 hu' with h1 | h1
    · simp [svV] at h1
      rcases h1 with rfl | rfl | rfl | rfl | rfl | rfl | rfl | rfl | rfl <;> rfl
    · exact rowsC_one u h1
  | [], _, _, hu => by simp [rowsC] at hu
  | _ :: _, [], _, hu => by simp [rowsC] at hu

/-- Where its lists lie. -/
def SvH.ads (h : SvH) : List (Option Addr) := [h.a0, h.a1, h.a2, h.a3]
def Apart (h h' : SvH) : Prop := ∀ a ∈ h.ads, ∀ b ∈ h'.ads, Sep a b
def OffRow (h : SvH) (row : Option Nat) : Prop := ∀ a ∈ h.ads, ∀ p, a = some p → some p.block ≠ row
theorem own_off {α : Type} {f : α → Value} {e : TypeId} {w w' : World} {base : Nat} {a : Option Addr} {c : Nat} {xs : List α} (h : Own f e w base a c xs) {row : Option Nat} (hg : w.grownBy w' row) (hne : ∀ p, a = some p → some p.block ≠ row) : Own f e w' base a c xs :=
  h.kept hg (fun g hr p hp he => hne p hp (by rw [hr, he]))
theorem SvOwn.kept {w w' : World} {base : Nat} {h : SvH} {s : Sv} (o : SvOwn w base h s) {row : Option Nat} (hg : w.grownBy w' row) (ho : OffRow h row) : SvOwn w' base h s :=
  ⟨o.nm, own_off o.cs hg (ho _ (by simp [SvH.ads])), own_off o.ks hg (ho _ (by simp [SvH.ads])), own_off o.ts hg (ho _ (by simp [SvH.ads])), own_off o.es hg (ho _ (by simp [SvH.ads]))⟩
theorem SvOwn.lt {w : World} {base : Nat} {h : SvH} {s : Sv} (o : SvOwn w base h s) : ∀ a ∈ h.ads, ∀ p, a = some p → base ≤ p.block ∧ p.block < w.heap.size := by
  intro a ha p hp
  simp only [SvH.ads, List.mem_cons, List.not_mem_nil, or_false] at ha
  rcases ha with rfl | rfl | rfl | rfl
  · exact o.cs.blk p hp
  · exact o.ks.blk p hp
  · exact o.ts.blk p hp
  · exact o.es.blk p hp
theorem apart_of {hi : Nat} {h h' : SvH} (o : ∀ a ∈ h.ads, ∀ p, a = some p → p.block < hi) {w' : World} {s' : Sv} (o' : SvOwn w' hi h' s') : Apart h h' := by
  intro a ha a' ha' p q hp hq he
  have h1 := o a ha p hp
  have h2 := (o'.lt a' ha' q hq).1
  omega
theorem Apart.symm {h h' : SvH} (s : Apart h h') : Apart h' h := fun a ha b hb p q hp hq he => s b hb a ha q p hq hp he.symm

section
variable {w w' : World} {base : Nat} {a : Option Addr} {c : Nat} {hs : List SvH} {ss : List Sv}
end

end Go.Proofs.YtncbkbfkdgggkaaDoor
