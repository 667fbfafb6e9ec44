/- What a window keeps, in the reference's text. -/
import Derived.Test.YtofbnddmahjanaaWinS
import Derived.Test.YtofbnddmahjanaaCut
import Derived.Deep.Cut
import Derived.Deep.DeepCutAuto
import Derived.Deep.CutBlock
import Derived.Deep.DrawnRows
import Derived.Deep.RegionLaw
namespace Go.Proofs.Ytofbnddmahjanaa
open Go.RowKit

/-- The elements of xs whose times are new enough. -/
def keepK (ts xs : List Int) (c : Int) (k : Nat) : List Int := ((List.range k).filter (fun j => decide (c < at0 ts j))).map (at0 xs)
theorem keepK_yes {ts xs : List Int} {c : Int} {k : Nat} (h : c < at0 ts k) : keepK ts xs c (k + 1) = keepK ts xs c k ++ [at0 xs k] := by
  simp [keepK, List.range_succ, List.filter_append, h]
theorem keepK_no {ts xs : List Int} {c : Int} {k : Nat} (h : ¬ c < at0 ts k) : keepK ts xs c (k + 1) = keepK ts xs c k := by
  simp [keepK, List.range_succ, List.filter_append, h]
theorem keepK_len (ts xs : List Int) (c : Int) (k : Nat) : (keepK ts xs c k).length ≤ k := by
  unfold keepK
  rw [List.length_map]
  exact Nat.le_trans (List.length_filter_le _ _) (by simp)


/-- A window in new memory. -/
def RetKS (w : World) (L P : Int) (xs ys : List Int) (en : Ending) (w' : World) : Prop :=
  ∃ a c a' c', en = .returned (.agg #[.int .i64 L, .int .i64 P, .slice a xs.length c, .slice a' ys.length c']) ∧ Own (Value.int .i64) 2 w' w.heap.size a c xs ∧ Own (Value.int .i64) 2 w' w.heap.size a' c' ys ∧ Below w.heap.size w w'

/-- A window in new memory, its two slices apart. -/
def RetKS2 (w : World) (L P : Int) (xs ys : List Int) (en : Ending) (w' : World) : Prop :=
  ∃ a c a' c', en = .returned (.agg #[.int .i64 L, .int .i64 P, .slice a xs.length c, .slice a' ys.length c']) ∧ Own (Value.int .i64) 2 w' w.heap.size a c xs ∧ Own (Value.int .i64) 2 w' w.heap.size a' c' ys ∧ Sep a a' ∧ Below w.heap.size w w'

/-- The reference's window that is being made: its block, its lists. -/
structure OutW (w wx : World) (g : Nat) (L P : Int) (aT : Option Addr) (cT : Nat) (OT : List Int) (aS : Option Addr) (cS : Nat) (OS : List Int) : Prop where
  c0 : wx.cell? ⟨g, 0, none⟩ = some (.int .i64 L)
  c1 : wx.cell? ⟨g, 1, none⟩ = some (.int .i64 P)
  c2 : wx.cell? ⟨g, 2, none⟩ = some (.slice aT OT.length cT)
  c3 : wx.cell? ⟨g, 3, none⟩ = some (.slice aS OS.length cS)
  f : ∀ o, wx.frozen? ⟨g, o, none⟩ = false
  lo : w.heap.size < g
  hi : g < wx.heap.size
  oT : Own (Value.int .i64) 2 wx (w.heap.size + 1) aT cT OT
  oS : Own (Value.int .i64) 2 wx (w.heap.size + 1) aS cS OS
  nT : ∀ p, aT = some p → p.block ≠ g
  nS : ∀ p, aS = some p → p.block ≠ g
  nTS : ∀ p q, aT = some p → aS = some q → p.block ≠ q.block
  r0 : wx.cell? ⟨w.heap.size, 0, none⟩ = some (.int .i64 0)
  r1 : wx.cell? ⟨w.heap.size, 1, none⟩ = some (.int .i64 0)
  r2 : wx.cell? ⟨w.heap.size, 2, none⟩ = some (.slice none 0 0)
  r3 : wx.cell? ⟨w.heap.size, 3, none⟩ = some (.slice none 0 0)
  rf : ∀ o, wx.frozen? ⟨w.heap.size, o, none⟩ = false
  B : Below w.heap.size w wx
theorem OutW.drewN {w wx : World} {g : Nat} {L P : Int} {aT aS : Option Addr} {cT cS : Nat} {OT OS : List Int} (h : OutW w wx g L P aT cT OT aS cS OS) (n : Nat) : OutW w (wx.drewN n) g L P aT cT OT aS cS OS :=
  ⟨h.c0, h.c1, h.c2, h.c3, h.f, h.lo, h.hi, h.oT.drewN n, h.oS.drewN n, h.nT, h.nS, h.nTS, h.r0, h.r1, h.r2, h.r3, h.rf, h.B.trans (below_of_drewN _ _ _)⟩
def OutW1 (w wx : World) (g : Nat) (L P : Int) (OT OS : List Int) : Prop := ∃ aT cT aS cS, OutW w wx g L P aT cT OT aS cS OS

theorem outW_TT {w wq wd w3 : World} {g : Nat} {L P : Int} {aT aS a' : Option Addr} {cT cS c' : Nat} {OT OS : List Int} {x : Int} (h : OutW w wq g L P aT cT OT aS cS OS) (hb : Below wq.heap.size wq wd) (hg : wd.grownBy w3 (aT.map (·.block)))
    (ho : Own (Value.int .i64) 2 w3 (w.heap.size + 1) a' c' (OT ++ [x])) (hl : ∀ p, a' = some p → (∃ q, aT = some q ∧ q.block = p.block) ∨ p.block = wd.heap.size) :
    w3.cell? ⟨g, 2, none⟩ = some (.slice aT OT.length cT) ∧ w3.frozen? ⟨g, 2, none⟩ = false ∧ (∀ b o, b < w.heap.size → w3.cell? ⟨b, o, none⟩ = wq.cell? ⟨b, o, none⟩) ∧
      OutW w (w3.setCell ⟨g, 2, none⟩ (.slice a' (OT.length + 1) c')) g L P a' c' (OT ++ [x]) aS cS OS := by
  have hlo := h.lo
  have hhi := h.hi
  have hzd := hb.size
  have hz3 := hg.size
  have hzw := h.B.size
  have far : ∀ b o, b < wq.heap.size → (∀ p, aT = some p → p.block ≠ b) → w3.cell? ⟨b, o, none⟩ = wq.cell? ⟨b, o, none⟩ ∧ w3.frozen? ⟨b, o, none⟩ = wq.frozen? ⟨b, o, none⟩ := by
    intro b o hlt hne
    have hne' : some b ≠ aT.map (·.block) := by
      cases ha : aT with
      | none => simp
      | some p => have := hne p ha; simp; omega
    rw [hg.cell_far ⟨b, o, none⟩ (by simp; omega) hne', hg.frozen_far ⟨b, o, none⟩ (by simp; omega) hne']
    exact ⟨hb.cell (p := ⟨b, o, none⟩) hlt, hb.frozen (p := ⟨b, o, none⟩) hlt⟩
  have tb := h.oT.blk
  have sb := h.oS.blk
  have farG := fun o => far g o hhi h.nT
  have farR := fun o => far w.heap.size o (by omega) (fun p hp => by have := tb p hp; omega)
  have farO : ∀ b o, b < w.heap.size → w3.cell? ⟨b, o, none⟩ = wq.cell? ⟨b, o, none⟩ := fun b o hlt => (far b o (by omega) (fun p hp => by have := tb p hp; omega)).1
  have g0 : w3.cell? ⟨g, 0, none⟩ = some (.int .i64 L) := (farG 0).1.trans h.c0
  have g1 : w3.cell? ⟨g, 1, none⟩ = some (.int .i64 P) := (farG 1).1.trans h.c1
  have g2 : w3.cell? ⟨g, 2, none⟩ = some (.slice aT OT.length cT) := (farG 2).1.trans h.c2
  have g3 : w3.cell? ⟨g, 3, none⟩ = some (.slice aS OS.length cS) := (farG 3).1.trans h.c3
  have gf : ∀ o, w3.frozen? ⟨g, o, none⟩ = false := fun o => (farG o).2.trans (h.f o)
  have r0 := (farR 0).1.trans h.r0
  have r1 := (farR 1).1.trans h.r1
  have r2 := (farR 2).1.trans h.r2
  have r3 := (farR 3).1.trans h.r3
  have rf := fun o => (farR o).2.trans (h.rf o)
  have hgr : g ≠ w.heap.size := by omega
  have oS3 : Own (Value.int .i64) 2 w3 (w.heap.size + 1) aS cS OS := (h.oS.below hb (Nat.le_refl _)).kept hg (by
    intro q hq p hp hpq
    cases ha : aT with
    | none => rw [ha] at hq; simp at hq
    | some r => rw [ha] at hq; simp at hq; exact h.nTS r p ha hp (by omega))
  have gz : g < w3.heap.size := by omega
  have gs := grown_setCell w3 ⟨g, 2, none⟩ (.slice a' (OT.length + 1) c')
  have fz : ∀ q o, (w3.setCell ⟨g, 2, none⟩ (.slice a' (OT.length + 1) c')).frozen? ⟨q, o, none⟩ = w3.frozen? ⟨q, o, none⟩ := fun q o => by simp [go_sem]
  have Bd : Below w.heap.size w wd := h.B.trans (hb.mono h.B.size)
  have B3 : Below w.heap.size w w3 := Bd.trans (grown_belowOwn (h.oT.below hb (Nat.le_refl _)) hg (by omega) Bd.size)
  refine ⟨g2, gf 2, farO, ⟨?_, ?_, ?_, ?_, fun o => (fz g o).trans (gf o), hlo, by simp; omega, ?_, ?_, ?_, h.nS, ?_, ?_, ?_, ?_, ?_, fun o => (fz _ o).trans (rf o), B3.setCell (by simp; omega) _⟩⟩
  · simp [go_sem, g0, g2]
  · simp [go_sem, g1, g2]
  · simp [go_sem, g2]
  · simp [go_sem, g3, g2]
  · exact ho.kept gs (fun q hq p hp hpq => by
      simp at hq
      rcases hl p hp with ⟨r, hr, h5⟩ | h5
      · exact h.nT r hr (by omega)
      · omega)
  · exact oS3.kept gs (fun q hq p hp hpq => by simp at hq; exact h.nS p hp (by omega))
  · intro p hp hpg
    rcases hl p hp with ⟨r, hr, h5⟩ | h5
    · exact h.nT r hr (by omega)
    · omega
  · intro p q hp hq hpq
    have := sb q hq
    rcases hl p hp with ⟨r, hr, h5⟩ | h5
    · exact h.nTS r q hr hq (by omega)
    · omega
  · rw [World.cell?_setCell_far _ _ _ _ (by simpa using hgr)]; exact r0
  · rw [World.cell?_setCell_far _ _ _ _ (by simpa using hgr)]; exact r1
  · rw [World.cell?_setCell_far _ _ _ _ (by simpa using hgr)]; exact r2
  · rw [World.cell?_setCell_far _ _ _ _ (by simpa using hgr)]; exact r3

theorem outW_SS {w wq wd w3 : World} {g : Nat} {L P : Int} {aS aT a' : Option Addr} {cS cT c' : Nat} {OS OT : List Int} {x : Int} (h : OutW w wq g L P aT cT OT aS cS OS) (hb : Below wq.heap.size wq wd) (hg : wd.grownBy w3 (aS.map (·.block)))
    (ho : Own (Value.int .i64) 2 w3 (w.heap.size + 1) a' c' (OS ++ [x])) (hl : ∀ p, a' = some p → (∃ q, aS = some q ∧ q.block = p.block) ∨ p.block = wd.heap.size) :
    w3.cell? ⟨g, 3, none⟩ = some (.slice aS OS.length cS) ∧ w3.frozen? ⟨g, 3, none⟩ = false ∧ (∀ b o, b < w.heap.size → w3.cell? ⟨b, o, none⟩ = wq.cell? ⟨b, o, none⟩) ∧
      OutW w (w3.setCell ⟨g, 3, none⟩ (.slice a' (OS.length + 1) c')) g L P aT cT OT a' c' (OS ++ [x]) := by
  have hlo := h.lo
  have hhi := h.hi
  have hzd := hb.size
  have hz3 := hg.size
  have hzw := h.B.size
  have far : ∀ b o, b < wq.heap.size → (∀ p, aS = some p → p.block ≠ b) → w3.cell? ⟨b, o, none⟩ = wq.cell? ⟨b, o, none⟩ ∧ w3.frozen? ⟨b, o, none⟩ = wq.frozen? ⟨b, o, none⟩ := by
    intro b o hlt hne
    have hne' : some b ≠ aS.map (·.block) := by
      cases ha : aS with
      | none => simp
      | some p => have := hne p ha; simp; omega
    rw [hg.cell_far ⟨b, o, none⟩ (by simp; omega) hne', hg.frozen_far ⟨b, o, none⟩ (by simp; omega) hne']
    exact ⟨hb.cell (p := ⟨b, o, none⟩) hlt, hb.frozen (p := ⟨b, o, none⟩) hlt⟩
  have tb := h.oS.blk
  have sb := h.oT.blk
  have farG := fun o => far g o hhi h.nS
  have farR := fun o => far w.heap.size o (by omega) (fun p hp => by have := tb p hp; omega)
  have farO : ∀ b o, b < w.heap.size → w3.cell? ⟨b, o, none⟩ = wq.cell? ⟨b, o, none⟩ := fun b o hlt => (far b o (by omega) (fun p hp => by have := tb p hp; omega)).1
  have g0 : w3.cell? ⟨g, 0, none⟩ = some (.int .i64 L) := (farG 0).1.trans h.c0
  have g1 : w3.cell? ⟨g, 1, none⟩ = some (.int .i64 P) := (farG 1).1.trans h.c1
  have g2 : w3.cell? ⟨g, 2, none⟩ = some (.slice aT OT.length cT) := (farG 2).1.trans h.c2
  have g3 : w3.cell? ⟨g, 3, none⟩ = some (.slice aS OS.length cS) := (farG 3).1.trans h.c3
  have gf : ∀ o, w3.frozen? ⟨g, o, none⟩ = false := fun o => (farG o).2.trans (h.f o)
  have r0 := (farR 0).1.trans h.r0
  have r1 := (farR 1).1.trans h.r1
  have r2 := (farR 2).1.trans h.r2
  have r3 := (farR 3).1.trans h.r3
  have rf := fun o => (farR o).2.trans (h.rf o)
  have hgr : g ≠ w.heap.size := by omega
  have oS3 : Own (Value.int .i64) 2 w3 (w.heap.size + 1) aT cT OT := (h.oT.below hb (Nat.le_refl _)).kept hg (by
    intro q hq p hp hpq
    cases ha : aS with
    | none => rw [ha] at hq; simp at hq
    | some r => rw [ha] at hq; simp at hq; exact h.nTS p r hp ha (by omega))
  have gz : g < w3.heap.size := by omega
  have gs := grown_setCell w3 ⟨g, 3, none⟩ (.slice a' (OS.length + 1) c')
  have fz : ∀ q o, (w3.setCell ⟨g, 3, none⟩ (.slice a' (OS.length + 1) c')).frozen? ⟨q, o, none⟩ = w3.frozen? ⟨q, o, none⟩ := fun q o => by simp [go_sem]
  have Bd : Below w.heap.size w wd := h.B.trans (hb.mono h.B.size)
  have B3 : Below w.heap.size w w3 := Bd.trans (grown_belowOwn (h.oS.below hb (Nat.le_refl _)) hg (by omega) Bd.size)
  refine ⟨g3, gf 3, farO, ⟨?_, ?_, ?_, ?_, fun o => (fz g o).trans (gf o), hlo, by simp; omega, ?_, ?_, h.nT, ?_, ?_, ?_, ?_, ?_, ?_, fun o => (fz _ o).trans (rf o), B3.setCell (by simp; omega) _⟩⟩
  · simp [go_sem, g0, g3]
  · simp [go_sem, g1, g3]
  · simp [go_sem, g2, g3]
  · simp [go_sem, g3]
  · exact oS3.kept gs (fun q hq p hp hpq => by simp at hq; exact h.nT p hp (by omega))
  · exact ho.kept gs (fun q hq p hp hpq => by
      simp at hq
      rcases hl p hp with ⟨r, hr, h5⟩ | h5
      · exact h.nS r hr (by omega)
      · omega)
  · intro p hp hpg
    rcases hl p hp with ⟨r, hr, h5⟩ | h5
    · exact h.nS r hr (by omega)
    · omega
  · intro p q hp hq hpq
    have := sb p hp
    rcases hl q hq with ⟨r, hr, h5⟩ | h5
    · exact h.nTS p r hp hr (by omega)
    · omega
  · rw [World.cell?_setCell_far _ _ _ _ (by simpa using hgr)]; exact r0
  · rw [World.cell?_setCell_far _ _ _ _ (by simpa using hgr)]; exact r1
  · rw [World.cell?_setCell_far _ _ _ _ (by simpa using hgr)]; exact r2
  · rw [World.cell?_setCell_far _ _ _ _ (by simpa using hgr)]; exact r3

theorem outW_mk {w wx : World} {g k1 k2 : Nat} {L P : Int} (hr : wx.heap[w.heap.size]? = some (.cells #[.int .i64 0, .int .i64 0, .slice none 0 0, .slice none 0 0] 53 (0, 0)))
    (hg : wx.heap[g]? = some (.cells #[.int .i64 L, .int .i64 P, .slice (some ⟨k1, 0, none⟩) 0 0, .slice (some ⟨k2, 0, none⟩) 0 0] 53 (0, 0)))
    (h1 : wx.heap[k1]? = some (.cells #[] 2 (0, 0))) (h2 : wx.heap[k2]? = some (.cells #[] 2 (0, 0))) (l0 : w.heap.size < g) (l1 : w.heap.size < k1) (l2 : w.heap.size < k2) (n1 : k1 ≠ g) (n2 : k2 ≠ g) (n3 : k1 ≠ k2) (B : Below w.heap.size w wx) :
    OutW1 w wx g L P [] [] := by
  refine ⟨some ⟨k1, 0, none⟩, 0, some ⟨k2, 0, none⟩, 0, ⟨?_, ?_, ?_, ?_, fun o => frozen_of_row wx g o _ _ hg, l0, (Array.getElem?_eq_some_iff.1 hg).1, own_block0 h1 l1, own_block0 h2 l2, ?_, ?_, ?_, ?_, ?_, ?_, ?_, fun o => frozen_of_row wx _ o _ _ hr, B⟩⟩
  · rw [cell_of_row wx g 0 _ _ _ hg]; rfl
  · rw [cell_of_row wx g 1 _ _ _ hg]; rfl
  · rw [cell_of_row wx g 2 _ _ _ hg]; rfl
  · rw [cell_of_row wx g 3 _ _ _ hg]; rfl
  · intro p hp; simp at hp; subst hp; exact n1
  · intro p hp; simp at hp; subst hp; exact n2
  · intro p q hp hq; simp at hp hq; subst hp; subst hq; exact n3
  · rw [cell_of_row wx _ 0 _ _ _ hr]; rfl
  · rw [cell_of_row wx _ 1 _ _ _ hr]; rfl
  · rw [cell_of_row wx _ 2 _ _ _ hr]; rfl
  · rw [cell_of_row wx _ 3 _ _ _ hr]; rfl

set_option maxRecDepth 4000 in
set_option maxHeartbeats 4000000 in
theorem l06Kept_any2 {b : Nat} {ta sa : Option Addr} {tc sc : Nat} {ts ss : List Int} {L P t : Int} {w : World} (hw : WinAt w b 0 L P ta ts.length tc sa ss.length sc) (ht : Rd (Value.int .i64) w ta tc ts) (hs : Rd (Value.int .i64) w sa sc ss)
    (hl : ts.length ≤ 128) (h4 : ss.length = ts.length) (t0 : 0 ≤ t) (t1 : t ≤ 1000000) (l0 : 1 ≤ L) (l1 : L ≤ 1000000) :
    Calls Try.prog 142 #[.pointer (some ⟨b, 0, none⟩), .int .i64 t] w (RetKS2 w L P (keepK ts ts (t - L) ts.length) (keepK ts ss (t - L) ts.length)) := by
  have HW := Lib.hid hw
  have H4 := Lib.hid h4
  obtain ⟨d0, d1, d2, d3, hbl⟩ := hw
  simp only [Nat.zero_add] at d0 d1 d2 d3
  have e0 : w.heap.size ≠ b := by omega
  have e1 : w.heap.size + 1 ≠ b := by omega
  have e2 : w.heap.size + 1 + 1 ≠ b := by omega
  have e3 : w.heap.size + 1 + 1 + 1 ≠ b := by omega
  clear h4
  go_enter Try.func142, Try.ntmps142
  go_wp2_with fail
  go_upto_region 1 with (fail)
  go_cut [5] (fun s5 wx => ∃ g, s5 = .pointer (some ⟨g, 0, none⟩) ∧ OutW1 w wx g L P [] [])
  case first =>
    go_region_held3 (fun w' => w'.cell? ⟨b, 0, none⟩ = some (.int .i64 L) ∧ w'.cell? ⟨b, 1, none⟩ = some (.int .i64 P)) ((refine ⟨?_, ?_⟩ <;> (repeat (first | assumption | refine k_drew ?_ | refine k_alloc ?_ | refine k_set (by simp; omega) ?_)))) (fail)
    all_goals
      go_wp2_with fail
      go_meet
      have hBB : ∀ o1 o2 o3 o4, Below w.heap.size w ((((w.alloc o1).alloc o2).alloc o3).alloc o4).drew := fun o1 o2 o3 o4 => (((((Below.refl _ _).alloc (Nat.le_refl _) _).alloc (by simp) _).alloc (by simp; omega) _).alloc (by simp; omega) _).trans (below_of_drewN _ 1 _)
      first
        | (refine ⟨_, rfl, outW_mk (k1 := w.heap.size + 1) (k2 := w.heap.size + 1 + 1) ?_ ?_ ?_ ?_ ?_ ?_ ?_ ?_ ?_ ?_ ?_⟩ <;> (first | exact hBB _ _ _ _ | omega | (refine heap_drew' ?_; first | (refine heap_new' ?_; simp; done) | (refine heap_old' ?_ (heap_new' ?_) <;> (first | (simp; done) | (simp; omega))) | (refine heap_old' ?_ (heap_old' ?_ (heap_new' ?_)) <;> (first | (simp; done) | (simp; omega))) | (refine heap_old' ?_ (heap_old' ?_ (heap_old' ?_ (heap_new' ?_))) <;> (first | (simp; done) | (simp; omega))))))
        | (refine ⟨_, rfl, outW_mk (k1 := w.heap.size + 1) (k2 := w.heap.size + 1 + 1 + 1) ?_ ?_ ?_ ?_ ?_ ?_ ?_ ?_ ?_ ?_ ?_⟩ <;> (first | exact hBB _ _ _ _ | omega | (refine heap_drew' ?_; first | (refine heap_new' ?_; simp; done) | (refine heap_old' ?_ (heap_new' ?_) <;> (first | (simp; done) | (simp; omega))) | (refine heap_old' ?_ (heap_old' ?_ (heap_new' ?_)) <;> (first | (simp; done) | (simp; omega))) | (refine heap_old' ?_ (heap_old' ?_ (heap_old' ?_ (heap_new' ?_))) <;> (first | (simp; done) | (simp; omega))))))
        | (refine ⟨_, rfl, outW_mk (k1 := w.heap.size + 1 + 1) (k2 := w.heap.size + 1) ?_ ?_ ?_ ?_ ?_ ?_ ?_ ?_ ?_ ?_ ?_⟩ <;> (first | exact hBB _ _ _ _ | omega | (refine heap_drew' ?_; first | (refine heap_new' ?_; simp; done) | (refine heap_old' ?_ (heap_new' ?_) <;> (first | (simp; done) | (simp; omega))) | (refine heap_old' ?_ (heap_old' ?_ (heap_new' ?_)) <;> (first | (simp; done) | (simp; omega))) | (refine heap_old' ?_ (heap_old' ?_ (heap_old' ?_ (heap_new' ?_))) <;> (first | (simp; done) | (simp; omega))))))
        | (refine ⟨_, rfl, outW_mk (k1 := w.heap.size + 1 + 1) (k2 := w.heap.size + 1 + 1 + 1) ?_ ?_ ?_ ?_ ?_ ?_ ?_ ?_ ?_ ?_ ?_⟩ <;> (first | exact hBB _ _ _ _ | omega | (refine heap_drew' ?_; first | (refine heap_new' ?_; simp; done) | (refine heap_old' ?_ (heap_new' ?_) <;> (first | (simp; done) | (simp; omega))) | (refine heap_old' ?_ (heap_old' ?_ (heap_new' ?_)) <;> (first | (simp; done) | (simp; omega))) | (refine heap_old' ?_ (heap_old' ?_ (heap_old' ?_ (heap_new' ?_))) <;> (first | (simp; done) | (simp; omega))))))
        | (refine ⟨_, rfl, outW_mk (k1 := w.heap.size + 1 + 1 + 1) (k2 := w.heap.size + 1) ?_ ?_ ?_ ?_ ?_ ?_ ?_ ?_ ?_ ?_ ?_⟩ <;> (first | exact hBB _ _ _ _ | omega | (refine heap_drew' ?_; first | (refine heap_new' ?_; simp; done) | (refine heap_old' ?_ (heap_new' ?_) <;> (first | (simp; done) | (simp; omega))) | (refine heap_old' ?_ (heap_old' ?_ (heap_new' ?_)) <;> (first | (simp; done) | (simp; omega))) | (refine heap_old' ?_ (heap_old' ?_ (heap_old' ?_ (heap_new' ?_))) <;> (first | (simp; done) | (simp; omega))))))
        | (refine ⟨_, rfl, outW_mk (k1 := w.heap.size + 1 + 1 + 1) (k2 := w.heap.size + 1 + 1) ?_ ?_ ?_ ?_ ?_ ?_ ?_ ?_ ?_ ?_ ?_⟩ <;> (first | exact hBB _ _ _ _ | omega | (refine heap_drew' ?_; first | (refine heap_new' ?_; simp; done) | (refine heap_old' ?_ (heap_new' ?_) <;> (first | (simp; done) | (simp; omega))) | (refine heap_old' ?_ (heap_old' ?_ (heap_new' ?_)) <;> (first | (simp; done) | (simp; omega))) | (refine heap_old' ?_ (heap_old' ?_ (heap_old' ?_ (heap_new' ?_))) <;> (first | (simp; done) | (simp; omega))))))
  case rest =>
    obtain ⟨g, rfl, hO0⟩ := hcut
    have HO0 := Lib.hid hO0
    clear hO0 d0 d1 d2 d3 e0 e1 e2 e3
    obtain ⟨c, hc⟩ : ∃ c, t - L = c := ⟨_, rfl⟩
    have ew : IntKind.i64.wrap (t - L) = t - L := IntWalk.i64_in _ (by omega)
    have HC := Lib.hid hc
    clear hc
    go_wp2_with fail
    go_loopw [6] (fun i wr => ∃ k : Nat, k ≤ ts.length ∧ i = .int .i64 k ∧ Hid (OutW1 w wr g L P (keepK ts ts c k) (keepK ts ss c k))) (fun i _ => ts.length - (intOf i).toNat)
    case atStart => exact ⟨0, Nat.zero_le _, rfl, HO0⟩
    case round =>
      obtain ⟨k, hk, rfl, HO⟩ := hrel
      clear HO0
      obtain ⟨aT, cT, aS, cS, hO⟩ := HO.out
      have W := HW.out.below hO.B (Nat.le_refl _)
      have htr := ht.below hO.B (Nat.le_refl _)
      have hsr := hs.below hO.B (Nat.le_refl _)
      have d0 := W.c0
      have d2 := W.c2
      have d3 := W.c3
      simp only [Nat.zero_add] at d0 d2 d3
      by_cases hlt : k < ts.length
      · have hks : k < ss.length := by rw [H4.out]; exact hlt
        obtain ⟨x, hx⟩ : ∃ x, at0 ts k = x := ⟨_, rfl⟩
        obtain ⟨y, hy⟩ : ∃ x, at0 ss k = x := ⟨_, rfl⟩
        have hcx := at0_cell' htr hlt hx
        have hcy := at0_cell' hsr hks hy
        have hix := rd_idxAt htr und_is siz_is k hlt (k : Int) rfl
        have hiy := rd_idxAt hsr und_is siz_is k hks (k : Int) rfl
        have HSA := Lib.hid (hs.here (by omega))
        have HX := Lib.hid hx
        have HY := Lib.hid hy
        have HO2 := Lib.hid hO
        clear hx hy hO W htr hsr
        by_cases hcl : t - L < x
        · have HCL := Lib.hid hcl
          go_wp2_with fail
          go_quiet (fail)
          have hO3 := HO2.out.drewN nq
          have e2 : (wr.drewN nq).cell? ⟨b, 2, none⟩ = some (.slice ta ts.length tc) := d2
          have e3 : (wr.drewN nq).cell? ⟨b, 3, none⟩ = some (.slice sa ss.length sc) := d3
          have ex : (wr.drewN nq).cell? (elt ta k) = some (.int .i64 x) := hcx
          have ey : (wr.drewN nq).cell? (elt sa k) = some (.int .i64 y) := hcy
          clear d0 d2 d3 hcx hcy HO HO2
          generalize wr.drewN nq = wq at hO3 e2 e3 ex ey ⊢
          have HQ := Lib.hid hO3
          clear hO3
          go_upto_region 6 with (fail)
          go_cut [] (fun wx => OutW1 w wx g L P (keepK ts ts c (k + 1)) (keepK ts ss c k) ∧ wx.cell? (elt sa k) = some (.int .i64 y) ∧ wx.cell? ⟨b, 3, none⟩ = some (.slice sa ss.length sc))
          case first =>
            have o2 := HQ.out.c2
            have oT := HQ.out.oT
            have of2 := HQ.out.f 2
            have hz := HQ.out.B.size
            have hgs := HQ.out.hi
            have hgl := HQ.out.lo
            have n1 : wq.heap.size ≠ g := by omega
            have n2 : wq.heap.size ≠ b := by omega
            have n3 := World.new_ne wq _ ex
            have hkl := keepK_len ts ts c k
            have HT := Lib.hid oT
            clear oT
            go_region_law (first | (refine step_append1w (f := Value.int .i64) (d := 0) (base := w.heap.size + 1) und_ise info_i (fun _ => rfl) x ((HT.out.alloc _).drew) rfl _ _ rfl wq.heap.size rfl rfl (heap_alloc_new wq _) (by omega) (by omega) (by simp; omega) ?_; intro a3 c3 w3 ho3 hg3 hl3; have O3 := outW_TT HQ.out (((Below.refl _ _).alloc (Nat.le_refl _) _).trans (below_of_drewN _ 1 _)) hg3 ho3 hl3; have o3c := O3.1; have o3f := O3.2.1; have HO3 := Lib.hid O3.2.2; clear O3 ho3 hg3 hl3))
            all_goals
              go_wp2_with fail
              go_meet
              refine ⟨?_, ?_, ?_⟩
              · rw [keepK_yes (by rw [HX.out, ← HC.out]; exact HCL.out), HX.out]
                exact ⟨_, _, _, _, HO3.out.2⟩
              · obtain ⟨q, o, hq, hqb⟩ := HSA.out
                rw [hq, elt_some, World.cell?_setCell_far _ _ _ _ (by simp; omega), HO3.out.1 _ _ hqb, ← elt_some, ← hq]
                exact ey
              · rw [World.cell?_setCell_far _ _ _ _ (by simp; omega), HO3.out.1 _ _ hbl]
                exact e3
          case rest =>
            obtain ⟨⟨aT, cT, aS, cS, hO4⟩, ey, e3⟩ := hcut
            have HQ := Lib.hid hO4
            have hyr := HY.out
            clear hO4 e2 ex hix hyr
            obtain ⟨wq, rfl⟩ : ∃ wq : World, wq = wc := ⟨_, rfl⟩
            go_wp2_with fail
            have o2 := HQ.out.c3
            have oT := HQ.out.oS
            have of2 := HQ.out.f 3
            have hz := HQ.out.B.size
            have hgs := HQ.out.hi
            have hgl := HQ.out.lo
            have n1 : wq.heap.size ≠ g := by omega
            have n2 : wq.heap.size ≠ b := by omega
            have n3 := World.new_ne wq _ ey
            have hkl := keepK_len ts ss c k
            have HT := Lib.hid oT
            clear oT
            go_region_law (first | (refine step_append1w (f := Value.int .i64) (d := 0) (base := w.heap.size + 1) und_ise info_i (fun _ => rfl) y ((HT.out.alloc _).drew) rfl _ _ rfl wq.heap.size rfl rfl (heap_alloc_new wq _) (by omega) (by omega) (by simp; omega) ?_; intro a3 c3 w3 ho3 hg3 hl3; have O3 := outW_SS HQ.out (((Below.refl _ _).alloc (Nat.le_refl _) _).trans (below_of_drewN _ 1 _)) hg3 ho3 hl3; have o3c := O3.1; have o3f := O3.2.1; have HO3 := Lib.hid O3.2.2; clear O3 ho3 hg3 hl3))
            all_goals
              have h5 : OutW1 w (w3.setCell ⟨g, 3, none⟩ (.slice a3 ((keepK ts ss c k).length + 1) c3)) g L P (keepK ts ts c (k + 1)) (keepK ts ss c k ++ [y]) := ⟨_, _, _, _, HO3.out.2⟩
              have hy5 : keepK ts ss c k ++ [y] = keepK ts ss c (k + 1) := by
                rw [keepK_yes (xs := ss) (by rw [HX.out, ← HC.out]; exact HCL.out), HY.out]
              rw [hy5] at h5
              have HO5 := Lib.hid h5
              clear h5 hy5
              go_wp2
              go_roundw
              case rel => exact ⟨k + 1, by omega, by go_num, HO5⟩
              case measure => simp [intOf]; omega
        · have hcd : decide (t - L < x) = false := decide_eq_false hcl
          have HCL := Lib.hid hcl
          go_wp2_with fail
          go_quiet (fail)
          go_wp2
          go_roundw
          case rel =>
            refine ⟨k + 1, by omega, by go_num, ?_⟩
            show OutW1 _ _ _ _ _ _ _
            rw [keepK_no (by rw [HX.out, ← HC.out]; have := HCL.out; omega), keepK_no (by rw [HX.out, ← HC.out]; have := HCL.out; omega)]
            exact ⟨aT, cT, aS, cS, HO2.out.drewN _⟩
          case measure => simp [intOf]; omega
      · obtain rfl : k = ts.length := by omega
        have HB := Lib.hid hO.B
        have HSEP : Hid (Sep aT aS) := Lib.hid (fun p q hp hq => hO.nTS p q hp hq)
        have HT := Lib.hid hO.oT
        have HS := Lib.hid hO.oS
        have c0 := hO.c0
        have c1 := hO.c1
        have c2 := hO.c2
        have c3 := hO.c3
        have r0 := hO.r0
        have r1 := hO.r1
        have r2 := hO.r2
        have r3 := hO.r3
        have f0 := hO.rf 0
        have f1 := hO.rf 1
        have f2 := hO.rf 2
        have f3 := hO.rf 3
        have hgl := hO.lo
        have hz := hO.B.size
        have HCC := HC.out
        obtain ⟨KT, hKT⟩ : ∃ K, keepK ts ts c ts.length = K := ⟨_, rfl⟩
        obtain ⟨KS, hKS⟩ : ∃ K, keepK ts ss c ts.length = K := ⟨_, rfl⟩
        rw [hKT] at c2 HT
        rw [hKS] at c3 HS
        have HKT := Lib.hid hKT
        have HKS := Lib.hid hKS
        clear hO HO W htr hsr d0 d3 hKT hKS HCC
        go_wp2
        refine bodyPost_ret (v := .agg #[.int .i64 L, .int .i64 P, .slice aT KT.length cT, .slice aS KS.length cS]) (by simp [results, Try.results142, go_sem, r0, r1, r2, r3]) rfl ⟨aT, cT, aS, cS, ?_, ?_, ?_, HSEP.out, (((HB.out.setCell (by simp) _).setCell (by simp) _).setCell (by simp) _).setCell (by simp) _⟩
        · rw [HC.out, HKT.out, HKS.out]
        · rw [HC.out, HKT.out]
          exact ((((HT.out.setFar _ _ (by simp)).setFar _ _ (by simp)).setFar _ _ (by simp)).setFar _ _ (by simp)).mono (by omega)
        · rw [HC.out, HKS.out]
          exact ((((HS.out.setFar _ _ (by simp)).setFar _ _ (by simp)).setFar _ _ (by simp)).setFar _ _ (by simp)).mono (by omega)

theorem l06Kept_any {b : Nat} {ta sa : Option Addr} {tc sc : Nat} {ts ss : List Int} {L P t : Int} {w : World} (hw : WinAt w b 0 L P ta ts.length tc sa ss.length sc) (ht : Rd (Value.int .i64) w ta tc ts) (hs : Rd (Value.int .i64) w sa sc ss)
    (hl : ts.length ≤ 128) (h4 : ss.length = ts.length) (t0 : 0 ≤ t) (t1 : t ≤ 1000000) (l0 : 1 ≤ L) (l1 : L ≤ 1000000) :
    Calls Try.prog 142 #[.pointer (some ⟨b, 0, none⟩), .int .i64 t] w (RetKS w L P (keepK ts ts (t - L) ts.length) (keepK ts ss (t - L) ts.length)) :=
  (l06Kept_any2 hw ht hs hl h4 t0 t1 l0 l1).mono fun _ _ ⟨a, c, a', c', h1, h2, h3, _, h5⟩ => ⟨a, c, a', c', h1, h2, h3, h5⟩

end Go.Proofs.Ytofbnddmahjanaa
