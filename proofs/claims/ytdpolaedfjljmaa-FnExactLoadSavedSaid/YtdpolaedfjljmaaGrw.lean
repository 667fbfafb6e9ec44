/- 'append(out, x)' of a plain region, and where the new slice lies. -/
import Derived.Test.YtdpolaedfjljmaaLib
namespace Go.Proofs.Ytdpolaedfjljmaa
open Go.RowKit

/-- Where a slice lies behind an append. -/
def Lies (n : Nat) (a a' : Option Addr) : Prop := ∀ p, a' = some p → (∃ q, a = some q ∧ q.block = p.block) ∨ n ≤ p.block
theorem Lies.sep {n : Nat} {a a' b : Option Addr} (h : Lies n a a') (hs : Sep a b) (hb : ∀ q, b = some q → q.block < n) : Sep a' b := by
  intro p q hp hq he
  rcases h p hp with ⟨r, hr, hrp⟩ | hge
  · exact hs r q hr hq (hrp.trans he)
  · have := hb q hq; omega
theorem Sep.symm {a b : Option Addr} (h : Sep a b) : Sep b a := fun p q hp hq he => h q p hq hp he.symm
theorem Own.lt {α : Type} {f : α → Value} {e : TypeId} {w : World} {base : Nat} {a : Option Addr} {c : Nat} {xs : List α} (h : Own f e w base a c xs) : ∀ q, a = some q → q.block < w.heap.size := fun q hq => (h.blk q hq).2

theorem wpl_append1L {P : Program} {w : World} {ops : Array Oper} {rest : List Oper} {o : Oper} {ac : Act} {Q : Exit → Act → World → Prop} {t e : TypeId}
    {α : Type} {f : α → Value} {d : α} {by_ : Nat} (hT : P.underlying t = some (.slice e)) (hI : (P.info? e).map (fun i => (i.zero, i.size, i.bytes)) = some (some (f d), 1, by_))
    (h1 : ∀ x, (f x).oneCell' = true) {base : Nat} {a : Option Addr} {c : Nat} {xs : List α} (x : α) (hown : Own f e w base a c xs)
    (hg : o.guard = none) (s y : Operand) (hop : o.op = .call { callee := .builtin .append, args := #[s, y], argTypes := #[t, t] })
    (hs : ac.eval s = .slice a xs.length c) (hy : ac.eval y = .slice (some ⟨w.heap.size, 0, none⟩) 1 1)
    (hn : xs.length ≤ 1048576 * 1024) (hby : by_ ≤ 65536) (hbase : base ≤ w.heap.size)
    (hK : ∀ a' c' w', Own f e w' base a' c' (xs ++ [x]) → w.grownBy w' (a.map (·.block)) → Lies w.heap.size a a' → wpList P ops Q rest (ac.put o.dst (.slice a' (xs.length + 1) c')) w') :
    wpList P ops Q (o :: rest) ac (w.alloc (.cells #[f x] e)) := by
  obtain ⟨i0, hi, hz0, hz1, hz2⟩ := info_parts hI
  have hcells : ∀ x, (f x).cells = #[f x] := by
    intro x
    have := h1 x
    revert this; cases f x <;> simp [Value.oneCell', Value.cells]
  refine wpList_append_lies _ hg s y t hop base e i0 (f d) 1 by_ hT hi hz0 hz1 hz2 (by rw [hcells]; rfl) (by decide) (.slice a xs.length c) xs.length (xs.map f) hs (World.ownsRow.alloc hown _) ⟨w.heap.size, 0, none⟩ 1 1 [f x] hy rfl (World.news_of_block (cs := #[f x]) (heap_alloc_new w _)) ?_ (by decide) ?_ ?_ ?_ _ rfl ?_
  · intro u hu; simp at hu; subst hu; exact h1 x
  · unfold maxLen; omega
  · calc (xs.length + 1) * by_ ≤ (1048576 * 1024 + 1) * 65536 := Nat.mul_le_mul (by omega) hby
      _ ≤ _ := by omega
  · simp; omega
  · intro g cap w' ho hgr hat _
    have ho' : Own f e w' base (some ⟨g, 0, none⟩) cap (xs ++ [x]) := by unfold Own; simpa using ho
    have hob : (Value.slice a xs.length c).ownBlock = a.map (·.block) := by cases a <;> rfl
    rw [hob] at hgr hat
    have hga : w.grownBy (w.alloc (.cells #[f x] e)) (a.map (·.block)) := World.grownBy_alloc w _ _
    refine hK _ _ w' ho' (grown_trans hga hgr) ?_
    intro p hp
    simp at hp
    subst hp
    rcases hat with h | h
    · left
      cases ha : a with
      | none => rw [ha] at h; simp at h
      | some q => rw [ha] at h; simp at h; exact ⟨q, rfl, h⟩
    · right
      show w.heap.size ≤ g
      simp at h; omega

end Go.Proofs.Ytdpolaedfjljmaa
