/- What a window keeps, in the reference's text. -/
import Derived.Test.YtockifchghllhaaDoorWinS
import Derived.Test.YtockifchghllhaaDoorLib
import Derived.Deep.Cut
import Derived.Deep.DeepCutAuto
import Derived.Deep.CutBlock
import Derived.Deep.DrawnRows
import Derived.Deep.RegionLaw
namespace Go.Proofs.YtockifchghllhaaDoor
open Go.RowKit

/-- The elements of xs whose times are new enough. -/
def keepK (ts xs : List Int) (c : Int) (k : Nat) : List Int := ((List.range k).filter (fun j => decide (c < at0 ts j))).map (at0 xs)
theorem keepK_yes {ts xs : List Int} {c : Int} {k : Nat} (h : c < at0 ts k) : keepK ts xs c (k + 1) = keepK ts xs c k ++ [at0 xs k] := by
  simp [keepK, List.range_succ, List.filter_append, h]
theorem keepK_no {ts xs : List Int} {c : Int} {k : Nat} (h : ¬ c < at0 ts k) : keepK ts xs c (k + 1) = keepK ts xs c k := by
  simp [keepK, List.range_succ, List.filter_append, h]
theorem keepK_len (ts xs : List Int) (c : Int) (k : Nat) : (keepK ts xs c k).length ≤ k := by
  unfold keepK
  rw [List.length_map]
  exact Nat.le_trans (List.length_filter_le _ _) (by simp)


/-- A window in new memory. -/
def RetKS (w : World) (L P : Int) (xs ys : List Int) (en : Ending) (w' : World) : Prop :=
  ∃ a c a' c', en = .returned (.agg #[.int .i64 L, .int .i64 P, .slice a xs.length c, .slice a' ys.length c']) ∧ Own (Value.int .i64) 2 w' w.heap.size a c xs ∧ Own (Value.int .i64) 2 w' w.heap.size a' c' ys ∧ Below w.heap.size w w'

/-- A window in new memory, its two slices apart. -/
def RetKS2 (w : World) (L P : Int) (xs ys : List Int) (en : Ending) (w' : World) : Prop :=
  ∃ a c a' c', en = .returned (.agg #[.int .i64 L, .int .i64 P, .slice a xs.length c, .slice a' ys.length c']) ∧ Own (Value.int .i64) 2 w' w.heap.size a c xs ∧ Own (Value.int .i64) 2 w' w.heap.size a' c' ys ∧ Sep a a' ∧ Below w.heap.size w w'

/-- The reference's window that is being made: its block, its lists. -/
structure OutW (w wx : World) (g : Nat) (L P : Int) (aT : Option Addr) (cT : Nat) (OT : List Int) (aS : Option Addr) (cS : Nat) (OS : List Int) : Prop where
  c0 : wx.cell? ⟨g, 0, none⟩ = some (.int .i64 L)
  c1 : wx.cell? ⟨g, 1, none⟩ = some (.int .i64 P)
  c2 : wx.cell? ⟨g, 2, none⟩ = some (.slice aT OT.length cT)
  c3 : wx.cell? ⟨g, 3, none⟩ = some (.slice aS OS.length cS)
  f : ∀ o, wx.frozen? ⟨g, o, none⟩ = false
  lo : w.heap.size < g
  hi : g < wx.heap.size
  oT : Own (Value.int .i64) 2 wx (w.heap.size + 1) aT cT OT
  oS : Own (Value.int .i64) 2 wx (w.heap.size + 1) aS cS OS
  nT : ∀ p, aT = some p → p.block ≠ g
  nS : ∀ p, aS = some p → p.block ≠ g
  nTS : ∀ p q, aT = some p → aS = some q → p.block ≠ q.block
  r0 : wx.cell? ⟨w.heap.size, 0, none⟩ = some (.int .i64 0)
  r1 : wx.cell? ⟨w.heap.size, 1, none⟩ = some (.int .i64 0)
  r2 : wx.cell? ⟨w.heap.size, 2, none⟩ = some (.slice none 0 0)
  r3 : wx.cell? ⟨w.heap.size, 3, none⟩ = some (.slice none 0 0)
  rf : ∀ o, wx.frozen? ⟨w.heap.size, o, none⟩ = false
  B : Below w.heap.size w wx
theorem OutW.drewN {w wx : World} {g : Nat} {L P : Int} {aT aS : Option Addr} {cT cS : Nat} {OT OS : List Int} (h : OutW w wx g L P aT cT OT aS cS OS) (n : Nat) : OutW w (wx.drewN n) g L P aT cT OT aS cS OS :=
  ⟨h.c0, h.c1, h.c2, h.c3, h.f, h.lo, h.hi, h.oT.drewN n, h.oS.drewN n, h.nT, h.nS, h.nTS, h.r0, h.r1, h.r2, h.r3, h.rf, h.B.trans (below_of_drewN _ _ _)⟩
def OutW1 (w wx : World) (g : Nat) (L P : Int) (OT OS : List Int) : Prop := ∃ aT cT aS cS, OutW w wx g L P aT cT OT aS cS OS

theorem outW_TT {w wq wd w3 : World} {g : Nat} {L P : Int} {aT aS a' : Option Addr} {cT cS c' : Nat} {OT OS : List Int} {x : Int} (h : OutW w wq g L P aT cT OT aS cS OS) (hb : Below wq.heap.size wq wd) (hg : wd.grownBy w3 (aT.map (·.block)))
    (ho : Own (Value.int .i64) 2 w3 (w.heap.size + 1) a' c' (OT ++ [x])) (hl : ∀ p, a' = some p → (∃ q, aT = some q ∧ q.block = p.block) ∨ p.block = wd.heap.size) :
    w3.cell? ⟨g, 2, none⟩ = some (.slice aT OT.length cT) ∧ w3.frozen? ⟨g, 2, none⟩ = false ∧ (∀ b o, b < w.heap.size → w3.cell? ⟨b, o, none⟩ = wq.cell? ⟨b, o, none⟩) ∧
      OutW w (w3.setCell ⟨g, 2, none⟩ (.slice a' (OT.length + 1) c')) g L P a' c' (OT ++ [x]) aS cS OS := by
  have hlo := h.lo
  have hhi := h.hi
  have hzd := hb.size
  have hz3 := hg.size
  have hzw := h.B.size
  have far : ∀ b o, b < wq.heap.size → (∀ p, aT = some p → p.block ≠ b) → w3.cell? ⟨b, o, none⟩ = wq.cell? ⟨b, o, none⟩ ∧ w3.frozen? ⟨b, o, none⟩ = wq.frozen? ⟨b, o, none⟩ := by
    intro b o hlt hne
    have hne' : some b ≠ aT.map (·.block) := by
      cases ha : aT with
      | none => simp
      | some p => have := hne p ha; simp; omega
    rw [hg.cell_far ⟨b, o, none⟩ (by simp; omega) hne', hg.frozen_far ⟨b, o, none⟩ (by simp; omega) hne']
    exact ⟨hb.cell (p := ⟨b, o, none⟩) hlt, hb.frozen (p := ⟨b, o, none⟩) hlt⟩
  have tb := h.oT.blk
  have sb := h.oS.blk
  have farG := fun o => far g o hhi h.nT
  have farR := fun o => far w.heap.size o (by omega) (fun p hp => by have := tb p hp; omega)
  have farO : ∀ b o, b < w.heap.size → w3.cell? ⟨b, o, none⟩ = wq.cell? ⟨b, o, none⟩ := fun b o hlt => (far b o (by omega) (fun p hp => by have := tb p hp; omega)).1
  have g0 : w3.cell? ⟨g, 0, none⟩ = some (.int .i64 L) := (farG 0).1.trans h.c0
  have g1 : w3.cell? ⟨g, 1, none⟩ = some (.int .i64 P) := (farG 1).1.trans h.c1
  have g2 : w3.cell? ⟨g, 2, none⟩ = some (.slice aT OT.length cT) := (farG 2).1.trans h.c2
  have g3 : w3.cell? ⟨g, 3, none⟩ = some (.slice aS OS.length cS) := (farG 3).1.trans h.c3
  have gf : ∀ o, w3.frozen? ⟨g, o, none⟩ = false := fun o => (farG o).2.trans (h.f o)
  have r0 := (farR 0).1.trans h.r0
  have r1 := (farR 1).1.trans h.r1
  have r2 := (farR 2).1.trans h.r2
  have r3 := (farR 3).1.trans h.r3
  have rf := fun o => (farR o).2.trans (h.rf o)
  have hgr : g ≠ w.heap.size := by omega
  have oS3 : Own (Value.int .i64) 2 w3 (w.heap.size + 1) aS cS OS := (h.oS.below hb (Nat.le_refl _)).kept hg (by
    intro q hq p hp hpq
    cases ha : aT with
    | none => rw [ha] at hq; simp at hq
    | some r => rw [ha] at hq; simp at hq; exact h.nTS r p ha hp (by omega))
  have gz : g < w3.heap.size := by omega
  have gs := grown_setCell w3 ⟨g, 2, none⟩ (.slice a' (OT.length + 1) c')
  have fz : ∀ q o, (w3.setCell ⟨g, 2, none⟩ (.slice a' (OT.length + 1) c')).frozen? ⟨q, o, none⟩ = w3.frozen? ⟨q, o, none⟩ := fun q o => by simp [go_sem]
  have Bd : Below w.heap.size w wd := h.B.trans (hb.mono h.B.size)
  have B3 : Below w.heap.size w w3 := Bd.trans (grown_belowOwn (h.oT.below hb (Nat.le_refl _)) hg (by omega) Bd.size)
  refine ⟨g2, gf 2, farO, ⟨?_, ?_, ?_, ?_, fun o => (fz g o).trans (gf o), hlo, by simp; omega, ?_, ?_, ?_, h.nS, ?_, ?_, ?_, ?_, ?_, fun o => (fz _ o).trans (rf o), B3.setCell (by simp; omega) _⟩⟩
  · simp [go_sem, g0, g2]
  · simp [go_sem, g1, g2]
  · simp [go_sem, g2]
  · simp [go_sem, g3, g2]
  · exact ho.kept gs (fun q hq p hp hpq => by
      simp at hq
      rcases hl p hp with ⟨r, hr, h5⟩ | h5
      · exact h.nT r hr (by omega)
      · omega)
  · exact oS3.kept gs (fun q hq p hp hpq => by simp at hq; exact h.nS p hp (by omega))
  · intro p hp hpg
    rcases hl p hp with ⟨r, hr, h5⟩ | h5
    · exact h.nT r hr (by omega)
    · omega
  · intro p q hp hq hpq
    have := sb q hq
    rcases hl p hp with ⟨r, hr, h5⟩ | h5
    · exact h.nTS r q hr hq (by omega)
    · omega
  · rw [World.cell?_setCell_far _ _ _ _ (by simpa using hgr)]; exact r0
  · rw [World.cell?_setCell_far _ _ _ _ (by simpa using hgr)]; exact r1
  · rw [World.cell?_setCell_far _ _ _ _ (by simpa using hgr)]; exact r2
  · rw [World.cell?_setCell_far _ _ _ _ (by simpa using hgr)]; exact r3

theorem outW_SS {w wq wd w3 : World} {g : Nat} {L P : Int} {aS aT a' : Option Addr} {cS cT c' : Nat} {OS OT : List Int} {x : Int} (h : OutW w wq g L P aT cT OT aS cS OS) (hb : Below wq.heap.size wq wd) (hg : wd.grownBy w3 (aS.map (·.block)))
    (ho : Own (Value.int .i64) 2 w3 (w.heap.size + 1) a' c' (OS ++ [x])) (hl : ∀ p, a' = some p → (∃ q, aS = some q ∧ q.block = p.block) ∨ p.block = wd.heap.size) :
    w3.cell? ⟨g, 3, none⟩ = some (.slice aS OS.length cS) ∧ w3.frozen? ⟨g, 3, none⟩ = false ∧ (∀ b o, b < w.heap.size → w3.cell? ⟨b, o, none⟩ = wq.cell? ⟨b, o, none⟩) ∧
      OutW w (w3.setCell ⟨g, 3, none⟩ (.slice a' (OS.length + 1) c')) g L P aT cT OT a' c' (OS ++ [x]) := by
  have hlo := h.lo
  have hhi := h.hi
  have hzd := hb.size
  have hz3 := hg.size
  have hzw := h.B.size
  have far : ∀ b o, b < wq.heap.size → (∀ p, aS = some p → p.block ≠ b) → w3.cell? ⟨b, o, none⟩ = wq.cell? ⟨b, o, none⟩ ∧ w3.frozen? ⟨b, o, none⟩ = wq.frozen? ⟨b, o, none⟩ := by
    intro b o hlt hne
    have hne' : some b ≠ aS.map (·.block) := by
      cases ha : aS with
      | none => simp
      | some p => have := hne p ha; simp; omega
    rw [hg.cell_far ⟨b, o, none⟩ (by simp; omega) hne', hg.frozen_far ⟨b, o, none⟩ (by simp; omega) hne']
    exact ⟨hb.cell (p := ⟨b, o, none⟩) hlt, hb.frozen (p := ⟨b, o, none⟩) hlt⟩
  have tb := h.oS.blk
  have sb := h.oT.blk
  have farG := fun o => far g o hhi h.nS
  have farR := fun o => far w.heap.size o (by omega) (fun p hp => by have := tb p hp; omega)
  have farO : ∀ b o, b < w.heap.size → w3.cell? ⟨b, o, none⟩ = wq.cell? ⟨b, o, none⟩ := fun b o hlt => (far b o (by omega) (fun p hp => by have := tb p hp; omega)).1
  have g0 : w3.cell? ⟨g, 0, none⟩ = some (.int .i64 L) := (farG 0).1.trans h.c0
  have g1 : w3.cell? ⟨g, 1, none⟩ = some (.int .i64 P) := (farG 1).1.trans h.c1
  have g2 : w3.cell? ⟨g, 2, none⟩ = some (.slice aT OT.length cT) := (farG 2).1.trans h.c2
  have g3 : w3.cell? ⟨g, 3, none⟩ = some (.slice aS OS.length cS) := (farG 3).1.trans h.c3
  have gf : ∀ o, w3.frozen? ⟨g, o, none⟩ = false := fun o => (farG o).2.trans (h.f o)
  have r0 := (farR 0).1.trans h.r0
  have r1 := (farR 1).1.trans h.r1
  have r2 := (farR 2).1.trans h.r2
  have r3 := (farR 3).1.trans h.r3
  have rf := fun o => (farR o).2.trans (h.rf o)
  have hgr : g ≠ w.heap.size := by omega
  have oS3 : Own (Value.int .i64) 2 w3 (w.heap.size + 1) aT cT OT := (h.oT.below hb (Nat.le_refl _)).kept hg (by
    intro q hq p hp hpq
    cases ha : aS with
    | none => rw [ha] at hq; simp at hq
    | some r => rw [ha] at hq; simp at hq; exact h.nTS p r hp ha (by omega))
  have gz : g < w3.heap.size := by omega
  have gs := grown_setCell w3 ⟨g, 3, none⟩ (.slice a' (OS.length + 1) c')
  have fz : ∀ q o, (w3.setCell ⟨g, 3, none⟩ (.slice a' (OS.length + 1) c')).frozen? ⟨q, o, none⟩ = w3.frozen? ⟨q, o, none⟩ := fun q o => by simp [go_sem]
  have Bd : Below w.heap.size w wd := h.B.trans (hb.mono h.B.size)
  have B3 : Below w.heap.size w w3 := Bd.trans (grown_belowOwn (h.oS.below hb (Nat.le_refl _)) hg (by omega) Bd.size)
  refine ⟨g3, gf 3, farO, ⟨?_, ?_, ?_, ?_, fun o => (fz g o).trans (gf o), hlo, by simp; omega, ?_, ?_, h.nT, ?_, ?_, ?_, ?_, ?_, ?_, fun o => (fz _ o).trans (rf o), B3.setCell (by simp; omega) _⟩⟩
  · simp [go_sem, g0, g3]
  · simp [go_sem, g1, g3]
  · simp [go_sem, g2, g3]
  · simp [go_sem, g3]
  · exact oS3.kept gs (fun q hq p hp hpq => by simp at hq; exact h.nT p hp (by omega))
  · exact ho.kept gs (fun q hq p hp hpq => by
      simp at hq
      rcases hl p hp with ⟨r, hr, h5⟩ | h5
      · exact h.nS r hr (by omega)
      · omega)
  · intro p hp hpg
    rcases hl p hp with ⟨r, hr, h5⟩ | h5
    · exact h.nS r hr (by omega)
    · omega
  · intro p q hp hq hpq
    have := sb p hp
    rcases hl q hq with ⟨r, hr, h5⟩ | h5
    · exact h.nTS p r hp hr (by omega)
    · omega
  · rw [World.cell?_setCell_far _ _ _ _ (by simpa using hgr)]; exact r0
  · rw [World.cell?_setCell_far _ _ _ _ (by simpa using hgr)]; exact r1
  · rw [World.cell?_setCell_far _ _ _ _ (by simpa using hgr)]; exact r2
  · rw [World.cell?_setCell_far _ _ _ _ (by simpa using hgr)]; exact r3

theorem outW_mk {w wx : World} {g k1 k2 : Nat} {L P : Int} (hr : wx.heap[w.heap.size]? = some (.cells #[.int .i64 0, .int .i64 0, .slice none 0 0, .slice none 0 0] 56 (0, 0)))
    (hg : wx.heap[g]? = some (.cells #[.int .i64 L, .int .i64 P, .slice (some ⟨k1, 0, none⟩) 0 0, .slice (some ⟨k2, 0, none⟩) 0 0] 56 (0, 0)))
    (h1 : wx.heap[k1]? = some (.cells #[] 2 (0, 0))) (h2 : wx.heap[k2]? = some (.cells #[] 2 (0, 0))) (l0 : w.heap.size < g) (l1 : w.heap.size < k1) (l2 : w.heap.size < k2) (n1 : k1 ≠ g) (n2 : k2 ≠ g) (n3 : k1 ≠ k2) (B : Below w.heap.size w wx) :
    OutW1 w wx g L P [] [] := by
  refine ⟨some ⟨k1, 0, none⟩, 0, some ⟨k2, 0, none⟩, 0, ⟨?_, ?_, ?_, ?_, fun o => frozen_of_row wx g o _ _ hg, l0, (Array.getElem?_eq_some_iff.1 hg).1, own_block0 h1 l1, own_block0 h2 l2, ?_, ?_, ?_, ?_, ?_, ?_, ?_, fun o => frozen_of_row wx _ o _ _ hr, B⟩⟩
  · rw [cell_of_row wx g 0 _ _ _ hg]; rfl
  · rw [cell_of_row wx g 1 _ _ _ hg]; rfl
  · rw [cell_of_row wx g 2 _ _ _ hg]; rfl
  · rw [cell_of_row wx g 3 _ _ _ hg]; rfl
  · intro p hp; simp at hp; subst hp; exact n1
  · intro p hp; simp at hp; subst hp; exact n2
  · intro p q hp hq; simp at hp hq; subst hp; subst hq; exact n3
  · rw [cell_of_row wx _ 0 _ _ _ hr]; rfl
  · rw [cell_of_row wx _ 1 _ _ _ hr]; rfl
  · rw [cell_of_row wx _ 2 _ _ _ hr]; rfl
  · rw [cell_of_row wx _ 3 _ _ _ hr]; rfl

end Go.Proofs.YtockifchghllhaaDoor
