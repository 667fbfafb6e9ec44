/- Lists of saved ones of the program's type, opened. -/
import Derived.Test.YtdpolaedfjljmaaQSo16
import Derived.Test.YtdpolaedfjljmaaQSo4
namespace Go.Proofs.Ytdpolaedfjljmaa
open Go.ChangeShapes Go.WideShapes Go.ChangeAt Go.RowKit Go.Deep

instance instInhSvI : Inhabited (SvH × Sv) := ⟨(⟨none, 0, none, 0, none, 0, none, 0⟩, ⟨⟨#[]⟩, 0, 0, 0, [], 0, [], [], []⟩)⟩

set_option maxRecDepth 100000 in
theorem cells_SavedI {H : Type} {enc : TypeId × Value → H} {w : World} {base : Nat} {spare : Nat → Bool} {held : Bool} {n : Nat} {cs : List Value} {y : DataW H × List MemPlace} (hl : cs.length = 9) (h : DataW.trod enc Try.prog w base spare held n 28 cs = some y) :
    ∃ q : SvH × Sv, cs = (svV q.1 q.2).toList ∧ SvRd w q.1 q.2 := by
  obtain ⟨c0, c1, c2, c3, c4, c5, c6, c7, c8, rfl⟩ := list9 cs hl
  have hn' := h
  obtain ⟨n0, y0, g0⟩ := sub_fld Try.underlying28 hn' 0 _ rfl 0 1 9 rfl rfl (by kernel_rfl)
  have g0 : DataW.trod enc Try.prog w base spare held n0 9 [c0] = some y0 := g0
  have e0 := g0
  obtain ⟨x0, rfl, r0⟩ := el_string Try.underlying9 _ _ _ e0
  obtain ⟨n1, y1, g1⟩ := sub_fld Try.underlying28 hn' 1 _ rfl 1 4 24 rfl rfl (by kernel_rfl)
  have g1 : DataW.trod enc Try.prog w base spare held n1 24 [c1, c2, c3, c4] = some y1 := g1
  obtain ⟨m1, z1, e1⟩ := sub_fld Try.underlying24 g1 0 _ rfl 0 1 2 rfl rfl (by kernel_rfl)
  have e1 : DataW.trod enc Try.prog w base spare held m1 2 [c1] = some z1 := e1
  obtain ⟨x1, rfl, _⟩ := el_int Try.underlying2 _ _ _ e1
  obtain ⟨m2, z2, e2⟩ := sub_fld Try.underlying24 g1 1 _ rfl 1 1 2 rfl rfl (by kernel_rfl)
  have e2 : DataW.trod enc Try.prog w base spare held m2 2 [c2] = some z2 := e2
  obtain ⟨x2, rfl, _⟩ := el_int Try.underlying2 _ _ _ e2
  obtain ⟨m3, z3, e3⟩ := sub_fld Try.underlying24 g1 2 _ rfl 2 1 2 rfl rfl (by kernel_rfl)
  have e3 : DataW.trod enc Try.prog w base spare held m3 2 [c3] = some z3 := e3
  obtain ⟨x3, rfl, _⟩ := el_int Try.underlying2 _ _ _ e3
  obtain ⟨m4, z4, e4⟩ := sub_fld Try.underlying24 g1 3 _ rfl 3 1 22 rfl rfl (by kernel_rfl)
  have e4 : DataW.trod enc Try.prog w base spare held m4 22 [c4] = some z4 := e4
  obtain ⟨a4, k4, x4, rfl, r4, _⟩ := fld_list Try.underlying22 (by kernel_rfl) (el_int Try.underlying2) e4
  obtain ⟨n2, y2, g2⟩ := sub_fld Try.underlying28 hn' 2 _ rfl 5 4 26 rfl rfl (by kernel_rfl)
  have g2 : DataW.trod enc Try.prog w base spare held n2 26 [c5, c6, c7, c8] = some y2 := g2
  obtain ⟨m5, z5, e5⟩ := sub_fld Try.underlying26 g2 0 _ rfl 0 1 2 rfl rfl (by kernel_rfl)
  have e5 : DataW.trod enc Try.prog w base spare held m5 2 [c5] = some z5 := e5
  obtain ⟨x5, rfl, _⟩ := el_int Try.underlying2 _ _ _ e5
  obtain ⟨m6, z6, e6⟩ := sub_fld Try.underlying26 g2 1 _ rfl 1 1 22 rfl rfl (by kernel_rfl)
  have e6 : DataW.trod enc Try.prog w base spare held m6 22 [c6] = some z6 := e6
  obtain ⟨a6, k6, x6, rfl, r6, _⟩ := fld_list Try.underlying22 (by kernel_rfl) (el_int Try.underlying2) e6
  obtain ⟨m7, z7, e7⟩ := sub_fld Try.underlying26 g2 2 _ rfl 2 1 22 rfl rfl (by kernel_rfl)
  have e7 : DataW.trod enc Try.prog w base spare held m7 22 [c7] = some z7 := e7
  obtain ⟨a7, k7, x7, rfl, r7, _⟩ := fld_list Try.underlying22 (by kernel_rfl) (el_int Try.underlying2) e7
  obtain ⟨m8, z8, e8⟩ := sub_fld Try.underlying26 g2 3 _ rfl 3 1 22 rfl rfl (by kernel_rfl)
  have e8 : DataW.trod enc Try.prog w base spare held m8 22 [c8] = some z8 := e8
  obtain ⟨a8, k8, x8, rfl, r8, _⟩ := fld_list Try.underlying22 (by kernel_rfl) (el_int Try.underlying2) e8
  exact ⟨(⟨a4, k4, a6, k6, a7, k7, a8, k8⟩, ⟨x0, x1, x2, x3, x4, x5, x6, x7, x8⟩), rfl, Nat.le_trans r0 (by unfold maxLen; omega), r4, r6, r7, r8⟩

theorem open_SvsI {H : Type} {enc : TypeId × Value → H} {w : World} {base : Nat} {spare : Nat → Bool} {held : Bool} {a : Option Addr} {len cap : Nat} {d : DataW H} {ps : List MemPlace} (h : DataW.Trod enc Try.prog w base spare held 34 (.slice a len cap) d ps) :
    ∃ (hs : List SvH) (ss : List Sv), len = ss.length ∧ Rd9 w a cap hs ss := by
  obtain ⟨fuel, hf⟩ := h
  have hcs : (Value.slice a len cap).cells.toList = [.slice a len cap] := rfl
  have hc9 : Try.prog.cellsOf 28 = 9 := by kernel_rfl
  rw [hcs] at hf
  rcases open_slice und_svie hf with ⟨h0, _⟩ | ⟨ad, l, c, m, n, D, Pl, h0, hb, hl, hm, hmm, hx, hcell⟩
  · simp at h0
    obtain ⟨rfl, rfl, rfl⟩ := h0
    exact ⟨[], [], rfl, by simp, by simp, by simp, by simp⟩
  · simp at h0
    obtain ⟨rfl, rfl, rfl⟩ := h0
    have hlm : len ≤ m := by rw [hmm]; split <;> omega
    rw [hc9] at hcell
    obtain ⟨g, hg⟩ := choose_lt (α := SvH × Sv) (n := len) (p := fun i q => SvRd w q.1 q.2 ∧ ∀ j, j < 9 → w.cell? ((ad.add (i * 9)).add j) = (svV q.1 q.2)[j]?) (fun i hi => by
      obtain ⟨cs', h1, h2⟩ := hcell i (by omega)
      obtain ⟨_, hlen, hcl⟩ := World.cells?_some h1
      obtain ⟨q, hq, hr⟩ := cells_SavedI hlen h2
      refine ⟨q, hr, fun j hj => ?_⟩
      rw [hcl j hj, hq, Array.getElem?_toList])
    have hplain : 0 < len → ∃ b o, ad = ⟨b, o, none⟩ ∧ b < w.heap.size := by
      intro h0
      have h1 := (hg 0 h0).2 0 (by omega)
      have hadd : (ad.add (0 * 9)).add 0 = ad := by simp [Addr.add]
      rw [hadd] at h1
      have h2 : w.cell? ad = some (.string (g 0).2.nm) := h1
      have hlt' := World.block_lt_of_cell? w ad h2
      obtain ⟨b, o, s⟩ := ad
      cases s with
      | none => exact ⟨b, o, rfl, hlt'⟩
      | some q =>
        exfalso
        unfold World.cell? at h2
        split at h2 <;> simp at h2
    refine ⟨(List.range len).map fun i => (g i).1, (List.range len).map fun i => (g i).2, by simp, by simpa using hl, by simpa [maxLen] using hm, ?_, ?_⟩
    · intro h0
      obtain ⟨b, o, e, hlt⟩ := hplain (by simpa using h0)
      exact ⟨b, o, by rw [e], hlt⟩
    · intro k hk
      have hk' : k < len := by simpa using hk
      obtain ⟨b, o, rfl, hlt⟩ := hplain (by omega)
      refine ⟨(g k).1, (g k).2, by simp [hk'], by simp [hk'], (hg k hk').1, fun j hj => ?_⟩
      rw [← (hg k hk').2 j hj, add_elt, add_elt]
      simp [Nat.add_assoc]

end Go.Proofs.Ytdpolaedfjljmaa
