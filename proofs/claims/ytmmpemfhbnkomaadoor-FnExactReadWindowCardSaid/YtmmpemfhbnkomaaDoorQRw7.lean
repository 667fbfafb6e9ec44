/- slices.Delete of one element, slices.Index, at []int64. -/
import Derived.Test.YtmmpemfhbnkomaaDoorQRw0
import Derived.Test.YtmmpemfhbnkomaaDoorQRw2
import Derived.Lib.SliceRun
import Derived.Deep.RegionLaw
import Derived.IntWalk
set_option linter.unusedVariables false
set_option linter.unusedSimpArgs false
namespace Go.Proofs.YtmmpemfhbnkomaaDoor
open Go.RowKit

theorem Own.pre {α : Type} {f : α → Value} {e : TypeId} {w : World} {base : Nat} {a : Option Addr} {c : Nat} {xs : List α} (h : Own f e w base a c xs) {k : Nat} (hk : k ≤ xs.length) : w.ownsRow base e 1 (.slice a k c) k ((xs.take k).map f) := by
  rcases h.shape with ⟨rfl, rfl, rfl⟩ | ⟨g, rfl, hb, hlt, hc, hm, cur, hg, hcs, ht⟩
  · have : k = 0 := by simpa using hk
    subst this
    exact h
  · refine ⟨by simp; omega, .inr ⟨g, c, cur, rfl, hb, hg, by omega, hm, by simpa using hcs, ?_⟩⟩
    have : cur.toList.take k = (cur.toList.take xs.length).take k := by rw [List.take_take, Nat.min_eq_left hk]
    rw [Nat.mul_one, this, ht, List.map_take]

/-- Where 's[k:]' of an own slice lies. -/
def tailA (g c k : Nat) : Option Addr := if c = k then some ⟨g, 0, none⟩ else some ⟨g, k, none⟩

/-- 'append(s[:i], s[i+1:]...)' in one's own memory. -/
theorem run_del {P : Program} {w : World} {t ty e : TypeId} {α : Type} [Inhabited α] {f : α → Value} {d : α} {by_ : Nat} (hT : P.underlying t = some (.slice e)) (hI : (P.info? e).map (fun i => (i.zero, i.size, i.bytes)) = some (some (f d), 1, by_))
    (h1 : ∀ x, (f x).oneCell' = true) {base g c : Nat} {xs : List α} (hown : Own f e w base (some ⟨g, 0, none⟩) c xs) {i : Nat} (hi : i < xs.length) :
    ∃ w', (Builtin.append_ #[t, t] ty #[.slice (some ⟨g, 0, none⟩) i c, .slice (tailA g c (i + 1)) (xs.length - (i + 1)) (c - (i + 1))]).run P w = .ok (.slice (some ⟨g, 0, none⟩) (xs.length - 1) c) w' ∧ Own f e w' base (some ⟨g, 0, none⟩) c (xs.take i ++ xs.drop (i + 1)) ∧ w.grownBy w' (some g) := by
  obtain ⟨i0, hi0, _, hz1, _⟩ := info_parts hI
  have hcap := hown.cap.1
  obtain ⟨A, hA⟩ : ∃ A, tailA g c (i + 1) = some A := by unfold tailA; split <;> exact ⟨_, rfl⟩
  obtain ⟨w', r1, r2, r3⟩ := run_append_fits (P := P) w base t ty e i0 1 hT hi0 hz1 g i c ((xs.take i).map f) (hown.pre (by omega)) A (xs.length - (i + 1)) (c - (i + 1)) ((xs.drop (i + 1)).map f) (by simp)
    (by
      intro j u hu
      have hj : j < xs.length - (i + 1) := by
        have := (List.getElem?_eq_some_iff.1 hu).1; simpa using this
      have hA2 : A = ⟨g, i + 1, none⟩ := by
        unfold tailA at hA
        rw [if_neg (by omega)] at hA
        simpa using hA.symm
      have hcell := hown.cell (i + 1 + j) (by omega)
      subst hA2
      rw [add_elt, ← elt_zero g (i + 1 + j)] at *
      rw [elt_zero]
      have e1 : elt (some ⟨g, 0, none⟩) (i + 1 + j) = ⟨g, i + 1 + j, none⟩ := by rw [elt_some, Nat.zero_add]
      rw [e1] at hcell
      rw [hcell]
      rw [List.getElem?_map, List.getElem?_drop, List.getElem?_eq_getElem (by omega)] at hu
      simpa using hu)
    (by intro u hu; simp only [List.mem_map] at hu; obtain ⟨x, _, rfl⟩ := hu; exact h1 x) (by omega)
  refine ⟨w', ?_, ?_, r3⟩
  · rw [hA, r1]
    have : i + (xs.length - (i + 1)) = xs.length - 1 := by omega
    rw [this]
  · unfold Own
    have e1 : (xs.take i ++ xs.drop (i + 1)).length = i + (xs.length - (i + 1)) := by simp; omega
    rw [e1, List.map_append]
    exact r2

/-- The same as a step of a region that draws its order. -/
theorem step_del {P : Program} {w : World} {ops : Array Oper} {o : Oper} {ac : Act} {K : Act → World → Prop} {Q : Exit → Act → World → Prop} {E : Prop} {t e : TypeId} {α : Type} [Inhabited α] {f : α → Value} {d : α} {by_ : Nat} (hT : P.underlying t = some (.slice e)) (hI : (P.info? e).map (fun i => (i.zero, i.size, i.bytes)) = some (some (f d), 1, by_))
    (h1 : ∀ x, (f x).oneCell' = true) {base g c : Nat} {xs : List α} (hown : Own f e w base (some ⟨g, 0, none⟩) c xs) {i : Nat} (hi : i < xs.length)
    (hg : o.guard = none) (s y : Operand) (hop : o.op = .call { callee := .builtin .append, args := #[s, y], argTypes := #[t, t] })
    (hs : ac.eval s = .slice (some ⟨g, 0, none⟩) i c) (hy : ac.eval y = .slice (tailA g c (i + 1)) (xs.length - (i + 1)) (c - (i + 1)))
    (hK : ∀ w', Own f e w' base (some ⟨g, 0, none⟩) c (xs.take i ++ xs.drop (i + 1)) → w.grownBy w' (some g) → K (ac.put o.dst (.slice (some ⟨g, 0, none⟩) (xs.length - 1) c)) w') :
    if Region.wanted o (yielded ops ac.tmps) = true then Oper.wp P o ac w K Q else E := by
  have hw : Region.wanted o (yielded ops ac.tmps) = true := by simp [Region.wanted, hg]
  rw [if_pos hw]
  obtain ⟨w', r1, r2, r3⟩ := run_del (P := P) (w := w) (t := t) (ty := o.type) hT hI h1 hown hi
  unfold Oper.wp
  simp [execOp, hop, resolve, invoke, builtin, hs, hy, r1, Result.andThen]
  exact hK w' r2 r3

/-- The same in a plain list of operations. -/
theorem wpl_del {P : Program} {w : World} {ops : Array Oper} {rest : List Oper} {o : Oper} {ac : Act} {Q : Exit → Act → World → Prop} {t e : TypeId} {α : Type} [Inhabited α] {f : α → Value} {d : α} {by_ : Nat} (hT : P.underlying t = some (.slice e)) (hI : (P.info? e).map (fun i => (i.zero, i.size, i.bytes)) = some (some (f d), 1, by_))
    (h1 : ∀ x, (f x).oneCell' = true) {base g c : Nat} {xs : List α} (hown : Own f e w base (some ⟨g, 0, none⟩) c xs) {i : Nat} (hi : i < xs.length)
    (hg : o.guard = none) (s y : Operand) (hop : o.op = .call { callee := .builtin .append, args := #[s, y], argTypes := #[t, t] })
    (hs : ac.eval s = .slice (some ⟨g, 0, none⟩) i c) (hy : ac.eval y = .slice (tailA g c (i + 1)) (xs.length - (i + 1)) (c - (i + 1)))
    (hK : ∀ w', Own f e w' base (some ⟨g, 0, none⟩) c (xs.take i ++ xs.drop (i + 1)) → w.grownBy w' (some g) → wpList P ops Q rest (ac.put o.dst (.slice (some ⟨g, 0, none⟩) (xs.length - 1) c)) w') :
    wpList P ops Q (o :: rest) ac w := by
  obtain ⟨w', r1, r2, r3⟩ := run_del (P := P) (w := w) (t := t) (ty := o.type) hT hI h1 hown hi
  refine wpList_plain hg fun K hK' => ?_
  unfold Oper.wp
  simp [execOp, hop, resolve, invoke, builtin, hs, hy, r1, Result.andThen]
  exact hK' _ _ (hK w' r2 r3)

/-- A cell behind the list's end is written. -/
theorem Own.poke {α : Type} {f : α → Value} {e : TypeId} {w : World} {base g c : Nat} {xs : List α} (h : Own f e w base (some ⟨g, 0, none⟩) c xs) (k : Nat) (hk : xs.length ≤ k) (v : Value) :
    Own f e (w.setCell ⟨g, k, none⟩ v) base (some ⟨g, 0, none⟩) c xs ∧ w.grownBy (w.setCell ⟨g, k, none⟩ v) (some g) := by
  have := World.ownsRow.stored h k v
  refine ⟨?_, this.2⟩
  unfold Own
  have e1 := this.1
  rw [List.set_eq_of_length_le (by simpa using hk)] at e1
  exact e1

theorem tail_run {T : TypeId} {P : Program} (hT : P.underlying T = some (.slice (P.elem T))) (hs : ∀ w, (sizeOf (P.elem T)).run P w = .ok 1 w) {g n c k : Nat} (hk : k ≤ n) (hn : n ≤ c) (w' : World) :
    (Instr.sliceAt T (.slice (some ⟨g, 0, none⟩) n c) (some (.int .i64 (k : Int))) none none).run P w' = .ok (.slice (tailA g c k) (n - k) (c - k)) w' := by
  rw [run_sliceAt_slice (h := hT), run_slice_l (ht := hT) (h0 := by omega) (h1 := by omega), hs]
  simp only [Result.andThen, sliced, tailA]
  by_cases hc : c = k
  · simp [hc]
  · simp [hc, add_elt]
theorem head_run {T : TypeId} {P : Program} (hT : P.underlying T = some (.slice (P.elem T))) (hs : ∀ w, (sizeOf (P.elem T)).run P w = .ok 1 w) {g n c k : Nat} (hk : k ≤ n) (hn : n ≤ c) (hk0 : k < c) (w' : World) :
    (Instr.sliceAt T (.slice (some ⟨g, 0, none⟩) n c) none (some (.int .i64 (k : Int))) none).run P w' = .ok (.slice (some ⟨g, 0, none⟩) k c) w' := by
  rw [run_sliceAt_slice (h := hT), run_slice_h (ht := hT) (h0 := by omega) (h2 := by omega), hs]
  simp [Result.andThen, sliced, add_elt]

theorem grown_undrew {w w' : World} {row : Option Nat} (h : w.drew.grownBy w' row) : w.grownBy w' row := ⟨h.os, h.tape, h.output, h.size, h.block⟩
theorem zero_i (w : World) : (zeroValue 2).run Tryd.prog w = .ok (.int .i64 0) w := by kernel_rfl
/-- 'clear(s[k:k+1])' behind the list's end. -/
theorem clear_tail {w : World} {base g c n : Nat} {ys : List Int} (ho : Own (Value.int .i64) 2 w base (some ⟨g, 0, none⟩) c ys) (hl : ys.length = n - 1) (h0 : 0 < n) (hc : n ≤ c) :
    ∃ w2, (∀ ty, (Builtin.clear_ #[35] ty #[.slice (some ⟨g, n - 1, none⟩) (n - (n - 1)) (c - (n - 1))]).run Tryd.prog w = .ok (.tuple #[]) w2) ∧ Own (Value.int .i64) 2 w2 base (some ⟨g, 0, none⟩) c ys ∧ w.grownBy w2 (some g) := by
  have hp := ho.poke (n - 1) (by omega) (.int .i64 0)
  refine ⟨w.setCell ⟨g, n - 1, none⟩ (.int .i64 0), fun ty => ?_, hp.1, hp.2⟩
  have hsh : ∃ cur, w.heap[g]? = some (.cells cur 2 (0, 0)) ∧ cur.size = c := by
    rcases ho.shape with ⟨h, _⟩ | ⟨g', h, _, _, _, _, cur, h2, h3, _⟩
    · simp at h
    · simp at h; subst h; exact ⟨cur, h2, h3⟩
  obtain ⟨cur, hg, hs⟩ := hsh
  have hr := Lib.run_clear_slice (P := Tryd.prog) w 35 2 ty (.int .i64 0) und_ise zero_i rfl rfl g (n - 1) (n - (n - 1)) (c - (n - 1)) (by omega)
    (fun j hj => by rw [cell_of_row w g (n - 1 + j) cur _ (0, 0) hg, Array.getElem?_eq_getElem (by omega)]; rfl)
    (fun j hj => frozen_of_row w g _ cur _ hg)
  rw [hr]
  have e1 : n - (n - 1) = 1 := by omega
  rw [e1]
  rfl

end Go.Proofs.YtmmpemfhbnkomaaDoor
