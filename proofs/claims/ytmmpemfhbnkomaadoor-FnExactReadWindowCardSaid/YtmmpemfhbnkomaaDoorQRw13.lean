/- What a window keeps, in the reference's text. CountWindow and BoundsOfWindow: small parts. CountWindow and BoundsOfWindow, both texts. -/
import Derived.Test.YtmmpemfhbnkomaaDoorQRw4
import Derived.Test.YtmmpemfhbnkomaaDoorQRw0
import Derived.Deep.Cut
import Derived.Deep.DeepCutAuto
import Derived.Deep.CutBlock
import Derived.Deep.DrawnRows
import Derived.Deep.RegionLaw
import Derived.Test.YtmmpemfhbnkomaaDoorQRw12
set_option linter.unusedVariables false
set_option linter.unusedSimpArgs false
namespace Go.Proofs.YtmmpemfhbnkomaaDoor
open Go.RowKit

/-- The elements of xs whose times are new enough. -/
def keepK (ts xs : List Int) (c : Int) (k : Nat) : List Int := ((List.range k).filter (fun j => decide (c < at0 ts j))).map (at0 xs)
theorem keepK_yes {ts xs : List Int} {c : Int} {k : Nat} (h : c < at0 ts k) : keepK ts xs c (k + 1) = keepK ts xs c k ++ [at0 xs k] := by
  simp [keepK, List.range_succ, List.filter_append, h]
theorem keepK_no {ts xs : List Int} {c : Int} {k : Nat} (h : ¬ c < at0 ts k) : keepK ts xs c (k + 1) = keepK ts xs c k := by
  simp [keepK, List.range_succ, List.filter_append, h]
theorem keepK_len (ts xs : List Int) (c : Int) (k : Nat) : (keepK ts xs c k).length ≤ k := by
  unfold keepK
  rw [List.length_map]
  exact Nat.le_trans (List.length_filter_le _ _) (by simp)


/-- A window in new memory. -/
def RetKS (w : World) (L P : Int) (xs ys : List Int) (en : Ending) (w' : World) : Prop :=
  ∃ a c a' c', en = .returned (.agg #[.int .i64 L, .int .i64 P, .slice a xs.length c, .slice a' ys.length c']) ∧ Own (Value.int .i64) 2 w' w.heap.size a c xs ∧ Own (Value.int .i64) 2 w' w.heap.size a' c' ys ∧ Below w.heap.size w w'

/-- A window in new memory, its two slices apart. -/
def RetKS2 (w : World) (L P : Int) (xs ys : List Int) (en : Ending) (w' : World) : Prop :=
  ∃ a c a' c', en = .returned (.agg #[.int .i64 L, .int .i64 P, .slice a xs.length c, .slice a' ys.length c']) ∧ Own (Value.int .i64) 2 w' w.heap.size a c xs ∧ Own (Value.int .i64) 2 w' w.heap.size a' c' ys ∧ Sep a a' ∧ Below w.heap.size w w'

/-- The reference's window that is being made: its block, its lists. -/
structure OutW (w wx : World) (g : Nat) (L P : Int) (aT : Option Addr) (cT : Nat) (OT : List Int) (aS : Option Addr) (cS : Nat) (OS : List Int) : Prop where
  c0 : wx.cell? ⟨g, 0, none⟩ = some (.int .i64 L)
  c1 : wx.cell? ⟨g, 1, none⟩ = some (.int .i64 P)
  c2 : wx.cell? ⟨g, 2, none⟩ = some (.slice aT OT.length cT)
  c3 : wx.cell? ⟨g, 3, none⟩ = some (.slice aS OS.length cS)
  f : ∀ o, wx.frozen? ⟨g, o, none⟩ = false
  lo : w.heap.size < g
  hi : g < wx.heap.size
  oT : Own (Value.int .i64) 2 wx (w.heap.size + 1) aT cT OT
  oS : Own (Value.int .i64) 2 wx (w.heap.size + 1) aS cS OS
  nT : ∀ p, aT = some p → p.block ≠ g
  nS : ∀ p, aS = some p → p.block ≠ g
  nTS : ∀ p q, aT = some p → aS = some q → p.block ≠ q.block
  r0 : wx.cell? ⟨w.heap.size, 0, none⟩ = some (.int .i64 0)
  r1 : wx.cell? ⟨w.heap.size, 1, none⟩ = some (.int .i64 0)
  r2 : wx.cell? ⟨w.heap.size, 2, none⟩ = some (.slice none 0 0)
  r3 : wx.cell? ⟨w.heap.size, 3, none⟩ = some (.slice none 0 0)
  rf : ∀ o, wx.frozen? ⟨w.heap.size, o, none⟩ = false
  B : Below w.heap.size w wx
theorem OutW.drewN {w wx : World} {g : Nat} {L P : Int} {aT aS : Option Addr} {cT cS : Nat} {OT OS : List Int} (h : OutW w wx g L P aT cT OT aS cS OS) (n : Nat) : OutW w (wx.drewN n) g L P aT cT OT aS cS OS :=
  ⟨h.c0, h.c1, h.c2, h.c3, h.f, h.lo, h.hi, h.oT.drewN n, h.oS.drewN n, h.nT, h.nS, h.nTS, h.r0, h.r1, h.r2, h.r3, h.rf, h.B.trans (below_of_drewN _ _ _)⟩
def OutW1 (w wx : World) (g : Nat) (L P : Int) (OT OS : List Int) : Prop := ∃ aT cT aS cS, OutW w wx g L P aT cT OT aS cS OS

theorem outW_TT {w wq wd w3 : World} {g : Nat} {L P : Int} {aT aS a' : Option Addr} {cT cS c' : Nat} {OT OS : List Int} {x : Int} (h : OutW w wq g L P aT cT OT aS cS OS) (hb : Below wq.heap.size wq wd) (hg : wd.grownBy w3 (aT.map (·.block)))
    (ho : Own (Value.int .i64) 2 w3 (w.heap.size + 1) a' c' (OT ++ [x])) (hl : ∀ p, a' = some p → (∃ q, aT = some q ∧ q.block = p.block) ∨ p.block = wd.heap.size) :
    w3.cell? ⟨g, 2, none⟩ = some (.slice aT OT.length cT) ∧ w3.frozen? ⟨g, 2, none⟩ = false ∧ (∀ b o, b < w.heap.size → w3.cell? ⟨b, o, none⟩ = wq.cell? ⟨b, o, none⟩) ∧
      OutW w (w3.setCell ⟨g, 2, none⟩ (.slice a' (OT.length + 1) c')) g L P a' c' (OT ++ [x]) aS cS OS := by
  have hlo := h.lo
  have hhi := h.hi
  have hzd := hb.size
  have hz3 := hg.size
  have hzw := h.B.size
  have far : ∀ b o, b < wq.heap.size → (∀ p, aT = some p → p.block ≠ b) → w3.cell? ⟨b, o, none⟩ = wq.cell? ⟨b, o, none⟩ ∧ w3.frozen? ⟨b, o, none⟩ = wq.frozen? ⟨b, o, none⟩ := by
    intro b o hlt hne
    have hne' : some b ≠ aT.map (·.block) := by
      cases ha : aT with
      | none => simp
      | some p => have := hne p ha; simp; omega
    rw [hg.cell_far ⟨b, o, none⟩ (by simp; omega) hne', hg.frozen_far ⟨b, o, none⟩ (by simp; omega) hne']
    exact ⟨hb.cell (p := ⟨b, o, none⟩) hlt, hb.frozen (p := ⟨b, o, none⟩) hlt⟩
  have tb := h.oT.blk
  have sb := h.oS.blk
  have farG := fun o => far g o hhi h.nT
  have farR := fun o => far w.heap.size o (by omega) (fun p hp => by have := tb p hp; omega)
  have farO : ∀ b o, b < w.heap.size → w3.cell? ⟨b, o, none⟩ = wq.cell? ⟨b, o, none⟩ := fun b o hlt => (far b o (by omega) (fun p hp => by have := tb p hp; omega)).1
  have g0 : w3.cell? ⟨g, 0, none⟩ = some (.int .i64 L) := (farG 0).1.trans h.c0
  have g1 : w3.cell? ⟨g, 1, none⟩ = some (.int .i64 P) := (farG 1).1.trans h.c1
  have g2 : w3.cell? ⟨g, 2, none⟩ = some (.slice aT OT.length cT) := (farG 2).1.trans h.c2
  have g3 : w3.cell? ⟨g, 3, none⟩ = some (.slice aS OS.length cS) := (farG 3).1.trans h.c3
  have gf : ∀ o, w3.frozen? ⟨g, o, none⟩ = false := fun o => (farG o).2.trans (h.f o)
  have r0 := (farR 0).1.trans h.r0
  have r1 := (farR 1).1.trans h.r1
  have r2 := (farR 2).1.trans h.r2
  have r3 := (farR 3).1.trans h.r3
  have rf := fun o => (farR o).2.trans (h.rf o)
  have hgr : g ≠ w.heap.size := by omega
  have oS3 : Own (Value.int .i64) 2 w3 (w.heap.size + 1) aS cS OS := (h.oS.below hb (Nat.le_refl _)).kept hg (by
    intro q hq p hp hpq
    cases ha : aT with
    | none => rw [ha] at hq; simp at hq
    | some r => rw [ha] at hq; simp at hq; exact h.nTS r p ha hp (by omega))
  have gz : g < w3.heap.size := by omega
  have gs := grown_setCell w3 ⟨g, 2, none⟩ (.slice a' (OT.length + 1) c')
  have fz : ∀ q o, (w3.setCell ⟨g, 2, none⟩ (.slice a' (OT.length + 1) c')).frozen? ⟨q, o, none⟩ = w3.frozen? ⟨q, o, none⟩ := fun q o => by simp [go_sem]
  have Bd : Below w.heap.size w wd := h.B.trans (hb.mono h.B.size)
  have B3 : Below w.heap.size w w3 := Bd.trans (grown_belowOwn (h.oT.below hb (Nat.le_refl _)) hg (by omega) Bd.size)
  refine ⟨g2, gf 2, farO, ⟨?_, ?_, ?_, ?_, fun o => (fz g o).trans (gf o), hlo, by simp; omega, ?_, ?_, ?_, h.nS, ?_, ?_, ?_, ?_, ?_, fun o => (fz _ o).trans (rf o), B3.setCell (by simp; omega) _⟩⟩
  · simp [go_sem, g0, g2]
  · simp [go_sem, g1, g2]
  · simp [go_sem, g2]
  · simp [go_sem, g3, g2]
  · exact ho.kept gs (fun q hq p hp hpq => by
      simp at hq
      rcases hl p hp with ⟨r, hr, h5⟩ | h5
      · exact h.nT r hr (by omega)
      · omega)
  · exact oS3.kept gs (fun q hq p hp hpq => by simp at hq; exact h.nS p hp (by omega))
  · intro p hp hpg
    rcases hl p hp with ⟨r, hr, h5⟩ | h5
    · exact h.nT r hr (by omega)
    · omega
  · intro p q hp hq hpq
    have := sb q hq
    rcases hl p hp with ⟨r, hr, h5⟩ | h5
    · exact h.nTS r q hr hq (by omega)
    · omega
  · rw [World.cell?_setCell_far _ _ _ _ (by simpa using hgr)]; exact r0
  · rw [World.cell?_setCell_far _ _ _ _ (by simpa using hgr)]; exact r1
  · rw [World.cell?_setCell_far _ _ _ _ (by simpa using hgr)]; exact r2
  · rw [World.cell?_setCell_far _ _ _ _ (by simpa using hgr)]; exact r3

theorem outW_SS {w wq wd w3 : World} {g : Nat} {L P : Int} {aS aT a' : Option Addr} {cS cT c' : Nat} {OS OT : List Int} {x : Int} (h : OutW w wq g L P aT cT OT aS cS OS) (hb : Below wq.heap.size wq wd) (hg : wd.grownBy w3 (aS.map (·.block)))
    (ho : Own (Value.int .i64) 2 w3 (w.heap.size + 1) a' c' (OS ++ [x])) (hl : ∀ p, a' = some p → (∃ q, aS = some q ∧ q.block = p.block) ∨ p.block = wd.heap.size) :
    w3.cell? ⟨g, 3, none⟩ = some (.slice aS OS.length cS) ∧ w3.frozen? ⟨g, 3, none⟩ = false ∧ (∀ b o, b < w.heap.size → w3.cell? ⟨b, o, none⟩ = wq.cell? ⟨b, o, none⟩) ∧
      OutW w (w3.setCell ⟨g, 3, none⟩ (.slice a' (OS.length + 1) c')) g L P aT cT OT a' c' (OS ++ [x]) := by
  have hlo := h.lo
  have hhi := h.hi
  have hzd := hb.size
  have hz3 := hg.size
  have hzw := h.B.size
  have far : ∀ b o, b < wq.heap.size → (∀ p, aS = some p → p.block ≠ b) → w3.cell? ⟨b, o, none⟩ = wq.cell? ⟨b, o, none⟩ ∧ w3.frozen? ⟨b, o, none⟩ = wq.frozen? ⟨b, o, none⟩ := by
    intro b o hlt hne
    have hne' : some b ≠ aS.map (·.block) := by
      cases ha : aS with
      | none => simp
      | some p => have := hne p ha; simp; omega
    rw [hg.cell_far ⟨b, o, none⟩ (by simp; omega) hne', hg.frozen_far ⟨b, o, none⟩ (by simp; omega) hne']
    exact ⟨hb.cell (p := ⟨b, o, none⟩) hlt, hb.frozen (p := ⟨b, o, none⟩) hlt⟩
  have tb := h.oS.blk
  have sb := h.oT.blk
  have farG := fun o => far g o hhi h.nS
  have farR := fun o => far w.heap.size o (by omega) (fun p hp => by have := tb p hp; omega)
  have farO : ∀ b o, b < w.heap.size → w3.cell? ⟨b, o, none⟩ = wq.cell? ⟨b, o, none⟩ := fun b o hlt => (far b o (by omega) (fun p hp => by have := tb p hp; omega)).1
  have g0 : w3.cell? ⟨g, 0, none⟩ = some (.int .i64 L) := (farG 0).1.trans h.c0
  have g1 : w3.cell? ⟨g, 1, none⟩ = some (.int .i64 P) := (farG 1).1.trans h.c1
  have g2 : w3.cell? ⟨g, 2, none⟩ = some (.slice aT OT.length cT) := (farG 2).1.trans h.c2
  have g3 : w3.cell? ⟨g, 3, none⟩ = some (.slice aS OS.length cS) := (farG 3).1.trans h.c3
  have gf : ∀ o, w3.frozen? ⟨g, o, none⟩ = false := fun o => (farG o).2.trans (h.f o)
  have r0 := (farR 0).1.trans h.r0
  have r1 := (farR 1).1.trans h.r1
  have r2 := (farR 2).1.trans h.r2
  have r3 := (farR 3).1.trans h.r3
  have rf := fun o => (farR o).2.trans (h.rf o)
  have hgr : g ≠ w.heap.size := by omega
  have oS3 : Own (Value.int .i64) 2 w3 (w.heap.size + 1) aT cT OT := (h.oT.below hb (Nat.le_refl _)).kept hg (by
    intro q hq p hp hpq
    cases ha : aS with
    | none => rw [ha] at hq; simp at hq
    | some r => rw [ha] at hq; simp at hq; exact h.nTS p r hp ha (by omega))
  have gz : g < w3.heap.size := by omega
  have gs := grown_setCell w3 ⟨g, 3, none⟩ (.slice a' (OS.length + 1) c')
  have fz : ∀ q o, (w3.setCell ⟨g, 3, none⟩ (.slice a' (OS.length + 1) c')).frozen? ⟨q, o, none⟩ = w3.frozen? ⟨q, o, none⟩ := fun q o => by simp [go_sem]
  have Bd : Below w.heap.size w wd := h.B.trans (hb.mono h.B.size)
  have B3 : Below w.heap.size w w3 := Bd.trans (grown_belowOwn (h.oS.below hb (Nat.le_refl _)) hg (by omega) Bd.size)
  refine ⟨g3, gf 3, farO, ⟨?_, ?_, ?_, ?_, fun o => (fz g o).trans (gf o), hlo, by simp; omega, ?_, ?_, h.nT, ?_, ?_, ?_, ?_, ?_, ?_, fun o => (fz _ o).trans (rf o), B3.setCell (by simp; omega) _⟩⟩
  · simp [go_sem, g0, g3]
  · simp [go_sem, g1, g3]
  · simp [go_sem, g2, g3]
  · simp [go_sem, g3]
  · exact oS3.kept gs (fun q hq p hp hpq => by simp at hq; exact h.nT p hp (by omega))
  · exact ho.kept gs (fun q hq p hp hpq => by
      simp at hq
      rcases hl p hp with ⟨r, hr, h5⟩ | h5
      · exact h.nS r hr (by omega)
      · omega)
  · intro p hp hpg
    rcases hl p hp with ⟨r, hr, h5⟩ | h5
    · exact h.nS r hr (by omega)
    · omega
  · intro p q hp hq hpq
    have := sb p hp
    rcases hl q hq with ⟨r, hr, h5⟩ | h5
    · exact h.nTS p r hp hr (by omega)
    · omega
  · rw [World.cell?_setCell_far _ _ _ _ (by simpa using hgr)]; exact r0
  · rw [World.cell?_setCell_far _ _ _ _ (by simpa using hgr)]; exact r1
  · rw [World.cell?_setCell_far _ _ _ _ (by simpa using hgr)]; exact r2
  · rw [World.cell?_setCell_far _ _ _ _ (by simpa using hgr)]; exact r3

theorem outW_mk {w wx : World} {g k1 k2 : Nat} {L P : Int} (hr : wx.heap[w.heap.size]? = some (.cells #[.int .i64 0, .int .i64 0, .slice none 0 0, .slice none 0 0] 43 (0, 0)))
    (hg : wx.heap[g]? = some (.cells #[.int .i64 L, .int .i64 P, .slice (some ⟨k1, 0, none⟩) 0 0, .slice (some ⟨k2, 0, none⟩) 0 0] 43 (0, 0)))
    (h1 : wx.heap[k1]? = some (.cells #[] 2 (0, 0))) (h2 : wx.heap[k2]? = some (.cells #[] 2 (0, 0))) (l0 : w.heap.size < g) (l1 : w.heap.size < k1) (l2 : w.heap.size < k2) (n1 : k1 ≠ g) (n2 : k2 ≠ g) (n3 : k1 ≠ k2) (B : Below w.heap.size w wx) :
    OutW1 w wx g L P [] [] := by
  refine ⟨some ⟨k1, 0, none⟩, 0, some ⟨k2, 0, none⟩, 0, ⟨?_, ?_, ?_, ?_, fun o => frozen_of_row wx g o _ _ hg, l0, (Array.getElem?_eq_some_iff.1 hg).1, own_block0 h1 l1, own_block0 h2 l2, ?_, ?_, ?_, ?_, ?_, ?_, ?_, fun o => frozen_of_row wx _ o _ _ hr, B⟩⟩
  · rw [cell_of_row wx g 0 _ _ _ hg]; rfl
  · rw [cell_of_row wx g 1 _ _ _ hg]; rfl
  · rw [cell_of_row wx g 2 _ _ _ hg]; rfl
  · rw [cell_of_row wx g 3 _ _ _ hg]; rfl
  · intro p hp; simp at hp; subst hp; exact n1
  · intro p hp; simp at hp; subst hp; exact n2
  · intro p q hp hq; simp at hp hq; subst hp; subst hq; exact n3
  · rw [cell_of_row wx _ 0 _ _ _ hr]; rfl
  · rw [cell_of_row wx _ 1 _ _ _ hr]; rfl
  · rw [cell_of_row wx _ 2 _ _ _ hr]; rfl
  · rw [cell_of_row wx _ 3 _ _ _ hr]; rfl

end Go.Proofs.YtmmpemfhbnkomaaDoor

namespace Go.Proofs.YtmmpemfhbnkomaaDoor
open Go.RowKit

/-- A sum, as int64 adds. -/
def sumW (xs : List Int) : Int := xs.foldl (fun s x => wrap64 (s + x)) 0
theorem sumW_snoc {xs : List Int} {k : Nat} (h : k < xs.length) {x s : Int} (hx : xs[k] = x) (hs : sumW (xs.take k) = s) : sumW (xs.take (k + 1)) = wrap64 (s + x) := by
  unfold sumW at hs ⊢
  rw [List.take_add_one, List.foldl_append, List.getElem?_eq_getElem h, hx, hs]; rfl

end Go.Proofs.YtmmpemfhbnkomaaDoor

namespace Go.Proofs.YtmmpemfhbnkomaaDoor
open Go.RowKit

theorem times_mono {ts : List Int} (h : ∀ k, k < ts.length → timeOk ts k = true) : ∀ d i, i + d < ts.length → at0 ts i ≤ at0 ts (i + d) := by
  intro d
  induction d with
  | zero => intro i _; exact Int.le_refl _
  | succ d ih =>
    intro i hi
    have h1 := ih i (by omega)
    have h2 := h (i + (d + 1)) hi
    simp only [timeOk, Bool.and_eq_true, Bool.or_eq_true, beq_iff_eq, decide_eq_true_eq] at h2
    rcases h2.2 with h3 | h3
    · omega
    · rw [show i + (d + 1) - 1 = i + d by omega] at h3
      omega
theorem kept_iff {ts : List Int} (h : ∀ k, k < ts.length → timeOk ts k = true) (c : Int) : ∀ j, j < ts.length → (c < at0 ts j ↔ keptI ts c ≤ j) := by
  intro j hj
  constructor
  · intro hc
    rcases Nat.lt_or_ge j (keptI ts c) with hlt | hge
    · have h1 := List.not_of_lt_findIdx (p := fun x => decide (c < x)) (xs := ts) (i := j) hlt
      have h2 : at0 ts j = ts[j] := by simp [at0, hj]
      rw [h2] at hc
      simp at h1
      omega
    · exact hge
  · intro hge
    have hF : keptI ts c < ts.length := by omega
    have h1 := List.findIdx_getElem (p := fun x => decide (c < x)) (xs := ts) (w := hF)
    have h2 : at0 ts (keptI ts c) = ts[keptI ts c] := by simp [at0, hF]
    have h3 := times_mono h (j - keptI ts c) (keptI ts c) (by omega)
    rw [show keptI ts c + (j - keptI ts c) = j by omega, h2] at h3
    simp only [decide_eq_true_eq] at h1
    exact Int.lt_of_lt_of_le h1 h3
theorem keep_drop {ts xs : List Int} {c : Int} {F : Nat} (hF : ∀ j, j < ts.length → (c < at0 ts j ↔ F ≤ j)) (hx : xs.length = ts.length) : ∀ k, k ≤ ts.length → keepK ts xs c k = (xs.take k).drop F := by
  intro k
  induction k with
  | zero => intro _; simp [keepK]
  | succ k ih =>
    intro hk
    have h1 := ih (by omega)
    have hkx : k < xs.length := by omega
    by_cases hc : c < at0 ts k
    · rw [keepK_yes hc, h1, List.take_add_one, List.getElem?_eq_getElem hkx]
      have hle := (hF k (by omega)).1 hc
      have e : at0 xs k = xs[k] := by simp [at0, hkx]
      rw [List.drop_append_of_le_length (by simp; omega), e]
      rfl
    · rw [keepK_no hc, h1]
      have hlt : k < F := by
        rcases Nat.lt_or_ge k F with h | h
        · exact h
        · exact absurd ((hF k (by omega)).2 h) hc
      rw [List.drop_eq_nil_of_le (by simp; omega), List.drop_eq_nil_of_le (by simp; omega)]
theorem keep_all {L P : Int} {ts ss : List Int} (h : winB L P ts ss = true) (c : Int) : keepK ts ts c ts.length = ts.drop (keptI ts c) ∧ keepK ts ss c ts.length = ss.drop (keptI ts c) := by
  obtain ⟨_, _, _, _, _, hl, ht, _⟩ := winB_parts h
  have hF := kept_iff ht c
  constructor
  · rw [keep_drop hF rfl _ (Nat.le_refl _), List.take_length]
  · rw [keep_drop hF hl _ (Nat.le_refl _), ← hl, List.take_length]

def countV (S : List Int) : Int := if S.length = 0 then 0 else wrap64 (sumW S - at0 S 0 / 2)
def lowV (S : List Int) : Int := if S.length = 0 then 0 else wrap64 (wrap64 (sumW S - at0 S 0) + 1)
def highV (S : List Int) : Int := if S.length = 0 then 0 else sumW S
def keptS (ts ss : List Int) (c : Int) : List Int := ss.drop (keptI ts c)
def winR (V : List Int → Int) (L P : Int) (ts ss : List Int) (t : Int) : Int := if lateB L P ts ss t then V (keptS ts ss (t - L)) else 0

/-- What a call that answers of a window needs of it. -/
theorem late_parts {L P : Int} {ts ss : List Int} {t : Int} (h : lateB L P ts ss t = true) : winB L P ts ss = true ∧ 0 ≤ t ∧ t ≤ 1000000 := by
  simp only [lateB, Bool.and_eq_true] at h
  have := (inR_eq _ _ _).1 h.1.2
  exact ⟨h.1.1, this⟩
theorem size_first {L P : Int} {ts ss : List Int} (h : winB L P ts ss = true) (c : Int) (h0 : 0 < (keptS ts ss c).length) : 1 ≤ at0 (keptS ts ss c) 0 ∧ at0 (keptS ts ss c) 0 ≤ 1048576 := by
  obtain ⟨_, _, _, _, _, hl, _, hs⟩ := winB_parts h
  have h1 : keptI ts c < ss.length := by simp [keptS] at h0; omega
  have h2 := hs (keptI ts c) (by omega)
  simp only [sizeOk, Bool.and_eq_true] at h2
  have h3 := isPow_bd h2.1.1
  have h4 : at0 (keptS ts ss c) 0 = at0 ss (keptI ts c) := by simp [at0, keptS]
  rw [h4]; exact h3

end Go.Proofs.YtmmpemfhbnkomaaDoor
