/- The first index with a size, and how many there are with it: the reference's text. A window that is being turned in memory: its box, its two slices. -/
import Derived.Test.YtmmpemfhbnkomaaDoorQRw4
import Derived.Test.YtmmpemfhbnkomaaDoorQRw7
import Derived.Test.YtmmpemfhbnkomaaDoorQRw13
import Derived.Test.YtmmpemfhbnkomaaDoorQRw0
import Derived.Test.YtmmpemfhbnkomaaDoorQRw2
set_option linter.unusedVariables false
set_option linter.unusedSimpArgs false
namespace Go.Proofs.YtmmpemfhbnkomaaDoor
open Go.RowKit

theorem findIdx?_snoc {α : Type} (p : α → Bool) (xs : List α) (x : α) : (xs ++ [x]).findIdx? p = match xs.findIdx? p with | some i => some i | none => if p x then some xs.length else none := by
  rw [List.findIdx?_append]
  cases h : xs.findIdx? p with
  | some i => rfl
  | none => by_cases hp : p x = true <;> simp [List.findIdx?_cons, hp]
theorem idxOf_snoc {xs : List Int} {s : Int} {k : Nat} (hk : k < xs.length) :
    idxOf (fun x => x == s) (xs.take (k + 1)) = if idxOf (fun x => x == s) (xs.take k) < 0 ∧ xs[k] = s then (k : Int) else idxOf (fun x => x == s) (xs.take k) := by
  have ht : xs.take (k + 1) = xs.take k ++ [xs[k]] := by rw [List.take_add_one, List.getElem?_eq_getElem hk]; rfl
  have hl : (xs.take k).length = k := by simp; omega
  unfold idxOf
  rw [ht, findIdx?_snoc, hl]
  cases h : (xs.take k).findIdx? (fun x => x == s) with
  | some i =>
    simp only
    rw [if_neg (by omega)]
  | none =>
    by_cases hs : xs[k] = s
    · simp [hs]
    · have : (xs[k] == s) = false := by simpa using hs
      simp [this, hs]
theorem count_snoc' {xs : List Int} {s : Int} {k : Nat} (hk : k < xs.length) : (xs.take (k + 1)).count s = (xs.take k).count s + (if xs[k] = s then 1 else 0) := by
  have ht : xs.take (k + 1) = xs.take k ++ [xs[k]] := by rw [List.take_add_one, List.getElem?_eq_getElem hk]; rfl
  rw [ht, List.count_append, List.count_singleton]
  by_cases hs : xs[k] = s
  · simp [hs]
  · have : (xs[k] == s) = false := by simpa using hs
    simp [this, hs]
theorem idxOf_bd {xs : List Int} {s : Int} (k : Nat) (hk : k ≤ xs.length) : -1 ≤ idxOf (fun x => x == s) (xs.take k) ∧ idxOf (fun x => x == s) (xs.take k) ≤ xs.length := by
  unfold idxOf
  cases h : (xs.take k).findIdx? (fun x => x == s) with
  | none => simp only; omega
  | some i =>
    rw [List.findIdx?_eq_some_iff_getElem] at h
    obtain ⟨hi, _⟩ := h
    simp at hi
    simp; omega

end Go.Proofs.YtmmpemfhbnkomaaDoor

namespace Go.Proofs.YtmmpemfhbnkomaaDoor
open Go.RowKit

/-- 'append(out, x)' at an element of one cell: where the new slice lies is told. -/
theorem wpl_append1w {P : Program} {w : World} {ops : Array Oper} {rest : List Oper} {o : Oper} {ac : Act} {Q : Exit → Act → World → Prop} {t e : TypeId}
    {α : Type} {f : α → Value} {d : α} {by_ : Nat} (hT : P.underlying t = some (.slice e)) (hI : (P.info? e).map (fun i => (i.zero, i.size, i.bytes)) = some (some (f d), 1, by_))
    (h1 : ∀ x, (f x).oneCell' = true) {base : Nat} {a : Option Addr} {c : Nat} {xs : List α} (x : α) (hown : Own f e w base a c xs)
    (hg : o.guard = none) (s y : Operand) (hop : o.op = .call { callee := .builtin .append, args := #[s, y], argTypes := #[t, t] })
    (hs : ac.eval s = .slice a xs.length c) (hy : ac.eval y = .slice (some ⟨w.heap.size, 0, none⟩) 1 1)
    (hn : xs.length ≤ 1048576 * 1024) (hby : by_ ≤ 65536) (hbase : base ≤ w.heap.size)
    (hK : ∀ a' c' w', Own f e w' base a' c' (xs ++ [x]) → w.grownBy w' (a.map (·.block)) → (∀ p, a' = some p → (∃ q, a = some q ∧ q.block = p.block) ∨ w.heap.size ≤ p.block) → wpList P ops Q rest (ac.put o.dst (.slice a' (xs.length + 1) c')) w') :
    wpList P ops Q (o :: rest) ac (w.alloc (.cells #[f x] e)) := by
  obtain ⟨i0, hi, hz0, hz1, hz2⟩ := info_parts hI
  have hcells : ∀ x, (f x).cells = #[f x] := by
    intro x
    have := h1 x
    revert this; cases f x <;> simp [Value.oneCell', Value.cells]
  have hob : (Value.slice a xs.length c).ownBlock = a.map (·.block) := by cases a <;> rfl
  refine wpList_append_lies _ hg s y t hop base e i0 (f d) 1 by_ hT hi hz0 hz1 hz2 (by rw [hcells]; rfl) (by decide) (.slice a xs.length c) xs.length (xs.map f) hs (World.ownsRow.alloc hown _) ⟨w.heap.size, 0, none⟩ 1 1 [f x] hy rfl ?_ ?_ (by decide) ?_ ?_ (by simp; omega) _ rfl ?_
  · intro j u hu
    cases j with
    | zero =>
      simp at hu
      subst hu
      have : (⟨w.heap.size, 0, none⟩ : Addr).add 0 = ⟨w.heap.size, 0, none⟩ := rfl
      rw [this, World.cell?_alloc_at _ _ _ _ rfl]; rfl
    | succ j => simp at hu
  · intro u hu; simp at hu; subst hu; exact h1 x
  · unfold maxLen; omega
  · calc (xs.length + 1) * by_ ≤ (1048576 * 1024 + 1) * 65536 := Nat.mul_le_mul (by omega) hby
      _ ≤ _ := by omega
  · intro g cap w' ho hgr hat _
    have ho' : Own f e w' base (some ⟨g, 0, none⟩) cap (xs ++ [x]) := by unfold Own; simpa using ho
    rw [hob] at hgr hat
    refine hK _ _ w' ho' (grown_trans (World.grownBy_alloc w _ _) hgr) ?_
    intro p hp
    simp at hp
    subst hp
    rcases hat with h | h
    · left
      cases ha : a with
      | none => rw [ha] at h; simp at h
      | some q => rw [ha] at h; simp at h; exact ⟨q, rfl, h⟩
    · right; rw [h]; simp

/-- The box g of a window in memory made since wb: its times, its sizes. -/
structure PW (wb wx : World) (g : Nat) (L P : Int) (aT : Option Addr) (cT : Nat) (OT : List Int) (aS : Option Addr) (cS : Nat) (OS : List Int) : Prop where
  blk : Blk wx g #[.int .i64 L, .int .i64 P, .slice aT OT.length cT, .slice aS OS.length cS] 43
  gB : wb.heap.size ≤ g
  oT : Own (Value.int .i64) 2 wx wb.heap.size aT cT OT
  oS : Own (Value.int .i64) 2 wx wb.heap.size aS cS OS
  nT : ∀ p, aT = some p → p.block ≠ g
  nS : ∀ p, aS = some p → p.block ≠ g
  nTS : Sep aT aS
  B : Below wb.heap.size wb wx

section
variable {wb wx w3 : World} {g : Nat} {L P : Int} {aT : Option Addr} {cT : Nat} {OT : List Int} {aS : Option Addr} {cS : Nat} {OS : List Int}

theorem PW.init {w1 : World} (hT : Own (Value.int .i64) 2 w1 wb.heap.size aT cT OT) (hS : Own (Value.int .i64) 2 w1 wb.heap.size aS cS OS) (hs : Sep aT aS) (hB : Below wb.heap.size wb w1) :
    PW wb (w1.alloc (.cells #[.int .i64 L, .int .i64 P, .slice aT OT.length cT, .slice aS OS.length cS] 43)) w1.heap.size L P aT cT OT aS cS OS :=
  ⟨Blk.new _ _ _, hB.size, hT.alloc _, hS.alloc _, fun p hp => by have := (hT.blk p hp).2; omega, fun p hp => by have := (hS.blk p hp).2; omega, hs, hB.alloc hB.size _⟩

theorem PW.below {w' : World} (h : PW wb wx g L P aT cT OT aS cS OS) (hb : Below wx.heap.size wx w') : PW wb w' g L P aT cT OT aS cS OS :=
  ⟨h.blk.below hb (Nat.le_refl _), h.gB, h.oT.below hb (Nat.le_refl _), h.oS.below hb (Nat.le_refl _), h.nT, h.nS, h.nTS, h.B.trans (hb.mono h.B.size)⟩
theorem PW.drewN (h : PW wb wx g L P aT cT OT aS cS OS) (n : Nat) : PW wb (wx.drewN n) g L P aT cT OT aS cS OS := h.below (below_of_drewN _ _ _)
theorem PW.drew (h : PW wb wx g L P aT cT OT aS cS OS) : PW wb wx.drew g L P aT cT OT aS cS OS := h.drewN 1
theorem PW.winAt (h : PW wb wx g L P aT cT OT aS cS OS) : WinAt wx g 0 L P aT OT.length cT aS OS.length cS :=
  ⟨h.blk.cell (i := 0) rfl, h.blk.cell (i := 1) rfl, h.blk.cell (i := 2) rfl, h.blk.cell (i := 3) rfl, h.blk.lt⟩

theorem PW.offT (h : PW wb wx g L P aT cT OT aS cS OS) : some g ≠ aT.map (·.block) := by
  cases ha : aT with
  | none => simp
  | some p => have := h.nT p ha; simp; omega
theorem PW.offS (h : PW wb wx g L P aT cT OT aS cS OS) : some g ≠ aS.map (·.block) := by
  cases ha : aS with
  | none => simp
  | some p => have := h.nS p ha; simp; omega

/-- The times have turned; the box is told of it. -/
theorem PW.turnT (h : PW wb wx g L P aT cT OT aS cS OS) {a' : Option Addr} {c' : Nat} {OT' : List Int} (hg : wx.grownBy w3 (aT.map (·.block))) (ho : Own (Value.int .i64) 2 w3 wb.heap.size a' c' OT')
    (hl : ∀ p, a' = some p → (∃ q, aT = some q ∧ q.block = p.block) ∨ wx.heap.size ≤ p.block) :
    Blk w3 g #[.int .i64 L, .int .i64 P, .slice aT OT.length cT, .slice aS OS.length cS] 43 ∧ PW wb (w3.setCell ⟨g, 2, none⟩ (.slice a' OT'.length c')) g L P a' c' OT' aS cS OS := by
  have hb3 := h.blk.grown hg h.offT
  have hlt := h.blk.lt
  have hgb := h.gB
  have n' : ∀ p, a' = some p → p.block ≠ g := fun p hp => by
    rcases hl p hp with ⟨q, hq, he⟩ | he
    · rw [← he]; exact h.nT q hq
    · omega
  have hB3 : Below wb.heap.size wb w3 := h.B.trans (grown_belowOwn h.oT hg (Nat.le_refl _) h.B.size)
  refine ⟨hb3, hb3.set 2 _, h.gB, ho.setOff _ _ n', (h.oS.keptS hg (fun p q hp hq e => h.nTS q p hq hp e.symm)).setOff _ _ h.nS, n', h.nS, ?_, hB3.setCell hgb _⟩
  intro p q hp hq
  rcases hl p hp with ⟨r, hr, he⟩ | he
  · rw [← he]; exact h.nTS r q hr hq
  · have := (h.oS.blk q hq).2; omega

/-- The sizes have turned; the box is told of it. -/
theorem PW.turnS (h : PW wb wx g L P aT cT OT aS cS OS) {a' : Option Addr} {c' : Nat} {OS' : List Int} (hg : wx.grownBy w3 (aS.map (·.block))) (ho : Own (Value.int .i64) 2 w3 wb.heap.size a' c' OS')
    (hl : ∀ p, a' = some p → (∃ q, aS = some q ∧ q.block = p.block) ∨ wx.heap.size ≤ p.block) :
    Blk w3 g #[.int .i64 L, .int .i64 P, .slice aT OT.length cT, .slice aS OS.length cS] 43 ∧ PW wb (w3.setCell ⟨g, 3, none⟩ (.slice a' OS'.length c')) g L P aT cT OT a' c' OS' := by
  have hb3 := h.blk.grown hg h.offS
  have hlt := h.blk.lt
  have hgb := h.gB
  have n' : ∀ p, a' = some p → p.block ≠ g := fun p hp => by
    rcases hl p hp with ⟨q, hq, he⟩ | he
    · rw [← he]; exact h.nS q hq
    · omega
  have hB3 : Below wb.heap.size wb w3 := h.B.trans (grown_belowOwn h.oS hg (Nat.le_refl _) h.B.size)
  refine ⟨hb3, hb3.set 3 _, h.gB, (h.oT.keptS hg (fun p q hp hq => h.nTS p q hp hq)).setOff _ _ h.nT, ho.setOff _ _ n', h.nT, n', ?_, hB3.setCell hgb _⟩
  intro p q hp hq
  rcases hl q hq with ⟨r, hr, he⟩ | he
  · rw [← he]; exact h.nTS p r hp hr
  · have := (h.oT.blk p hp).2; omega

/-- A size is set in place. -/
theorem PW.setS (h : PW wb wx g L P aT cT OT aS cS OS) (k : Nat) (hk : k < OS.length) (x : Int) : PW wb (wx.setCell (elt aS k) (.int .i64 x)) g L P aT cT OT aS cS (OS.set k x) := by
  have hs := h.oS.set k hk x
  have hB3 : Below wb.heap.size wb (wx.setCell (elt aS k) (.int .i64 x)) := h.B.trans (grown_belowOwn h.oS hs.2 (Nat.le_refl _) h.B.size)
  have hb := h.blk.grown hs.2 h.offS
  refine ⟨by rw [List.length_set]; exact hb, h.gB, h.oT.keptS hs.2 (fun p q hp hq => h.nTS p q hp hq), hs.1, h.nT, h.nS, h.nTS, hB3⟩

end

def PW1 (wb wx : World) (g : Nat) (L P : Int) (q : Pr) : Prop := ∃ aT cT aS cS, PW wb wx g L P aT cT q.1 aS cS q.2

theorem mgS_del {ss : List Int} {i : Nat} {v : Int} (h : i + 1 < ss.length) : (ss.set (i + 1) v).take i ++ (ss.set (i + 1) v).drop (i + 1) = ss.take i ++ v :: ss.drop (i + 2) := by
  rw [List.take_set_of_le (by omega)]
  congr 1
  rw [List.drop_set]
  simp
  rw [List.drop_eq_getElem_cons h, List.set_cons_zero]

theorem idx_fst {s : Int} {ss : List Int} (h : 1 ≤ ss.count s) : idxOf (fun x => x == s) ss = (fstI s ss : Int) := by
  have := fstI_lt h
  rcases idxOf_findIdx (fun x => x == s) ss with ⟨h1, _⟩ | ⟨_, h2⟩
  · exact h1
  · have := this.1
    unfold fstI at this
    omega

end Go.Proofs.YtmmpemfhbnkomaaDoor
