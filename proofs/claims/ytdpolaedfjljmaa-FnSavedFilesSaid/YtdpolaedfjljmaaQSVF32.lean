/- A saved one in a box: its elements changed; what stays. -/
import Derived.Test.YtdpolaedfjljmaaQSVF30
import Derived.Test.YtdpolaedfjljmaaQSVF7
namespace Go.Proofs.Ytdpolaedfjljmaa
open Go.RowKit

theorem Src.keptB {w w' : World} {b : Nat} {a : Option Addr} {c : Nat} {xs : List Int} {k B : Nat} (h : Src w b a c xs k) (hb : Below B w w') (h1 : b < B) (h2 : 0 < xs.length → ∀ p, a = some p → p.block < B) : Src w' b a c xs k := by
  obtain ⟨j, sd, hj, hq⟩ := h.blk
  refine ⟨⟨j, sd, hj, ?_⟩, ⟨h.rd.cap, h.rd.max, h.rd.nil, fun h0 => ?_, fun k hk => ?_⟩, h.off, h.byt⟩
  · unfold Blk at *; rw [hb.block b h1]; exact hq
  · obtain ⟨g, o, e, hlt⟩ := h.rd.here h0; exact ⟨g, o, e, Nat.lt_of_lt_of_le hlt hb.size⟩
  · obtain ⟨g, o, e, hlt⟩ := h.rd.here (by omega)
    have h3 := h2 (by omega) _ e
    have e2 : w'.heap[(elt a k).block]? = w.heap[(elt a k).block]? := hb.block _ (by rw [e]; exact h3)
    rw [World.cell?_of_block e2]; exact h.rd.cell k hk
theorem grown_thenBelow {w w1 w2 : World} {row : Option Nat} {B : Nat} (h : w.grownBy w1 row) (hb : Below B w1 w2) (hB : w.heap.size ≤ B) : w.grownBy w2 row :=
  ⟨hb.os.trans h.os, hb.tape.trans h.tape, hb.output.trans h.output, Nat.le_trans h.size hb.size, fun k hk hr => by rw [hb.block k (by omega)]; exact h.block k hk hr⟩

section
variable {w w1 : World} {b : Nat} {h : SvH} {s : Sv}
theorem SvBx.drewN (q : SvBx w b h s) (n : Nat) : SvBx (w.drewN n) b h s := q.below (below_of_drewN w n _) (Nat.le_refl _)
theorem SvBx.keptO (q : SvBx w b h s) {g : Nat} (hg : w.grownBy w1 (some g)) (hb : g < b) : SvBx w1 b h s := by
  refine ⟨q.blk.grown hg (by simp; omega), q.own.kept hg (fun a ha p hp => ?_), q.sep⟩
  have := (q.own.lt a ha p hp).1
  simp; omega
theorem SvBx.elC (q : SvBx w b h s) {k : Nat} (hk : k < s.cs.length) (x : Int) : SvBx (w.setCell (elt h.a0 k) (.int .i64 x)) b h { s with cs := s.cs.set k x } ∧ Below b w (w.setCell (elt h.a0 k) (.int .i64 x)) := by
  have o := q.own.cs.set k hk x
  have e : svV h { s with cs := s.cs.set k x } = svV h s := by simp [svV]
  refine ⟨⟨by rw [e]; exact blk_grown_own q.blk q.own.cs o.2, ⟨q.own.nm, o.1, q.own.ks.keptS o.2 q.sep.s01.symm, q.own.ts.keptS o.2 q.sep.s02.symm, q.own.es.keptS o.2 q.sep.s03.symm⟩, q.sep⟩, ?_⟩
  exact grown_belowOwn q.own.cs o.2 (by omega) (Nat.le_of_lt q.blk.lt)
theorem SvBx.elK (q : SvBx w b h s) {k : Nat} (hk : k < s.ks.length) (x : Int) : SvBx (w.setCell (elt h.a1 k) (.int .i64 x)) b h { s with ks := s.ks.set k x } ∧ Below b w (w.setCell (elt h.a1 k) (.int .i64 x)) := by
  have o := q.own.ks.set k hk x
  have e : svV h { s with ks := s.ks.set k x } = svV h s := by simp [svV]
  refine ⟨⟨by rw [e]; exact blk_grown_own q.blk q.own.ks o.2, ⟨q.own.nm, q.own.cs.keptS o.2 q.sep.s01, o.1, q.own.ts.keptS o.2 q.sep.s12.symm, q.own.es.keptS o.2 q.sep.s13.symm⟩, q.sep⟩, ?_⟩
  exact grown_belowOwn q.own.ks o.2 (by omega) (Nat.le_of_lt q.blk.lt)
theorem SvBx.elT (q : SvBx w b h s) {k : Nat} (hk : k < s.ts.length) (x : Int) : SvBx (w.setCell (elt h.a2 k) (.int .i64 x)) b h { s with ts := s.ts.set k x } ∧ Below b w (w.setCell (elt h.a2 k) (.int .i64 x)) := by
  have o := q.own.ts.set k hk x
  have e : svV h { s with ts := s.ts.set k x } = svV h s := by simp [svV]
  refine ⟨⟨by rw [e]; exact blk_grown_own q.blk q.own.ts o.2, ⟨q.own.nm, q.own.cs.keptS o.2 q.sep.s02, q.own.ks.keptS o.2 q.sep.s12, o.1, q.own.es.keptS o.2 q.sep.s23.symm⟩, q.sep⟩, ?_⟩
  exact grown_belowOwn q.own.ts o.2 (by omega) (Nat.le_of_lt q.blk.lt)
theorem SvBx.elE (q : SvBx w b h s) {k : Nat} (hk : k < s.es.length) (x : Int) : SvBx (w.setCell (elt h.a3 k) (.int .i64 x)) b h { s with es := s.es.set k x } ∧ Below b w (w.setCell (elt h.a3 k) (.int .i64 x)) := by
  have o := q.own.es.set k hk x
  have e : svV h { s with es := s.es.set k x } = svV h s := by simp [svV]
  refine ⟨⟨by rw [e]; exact blk_grown_own q.blk q.own.es o.2, ⟨q.own.nm, q.own.cs.keptS o.2 q.sep.s03, q.own.ks.keptS o.2 q.sep.s13, q.own.ts.keptS o.2 q.sep.s23, o.1⟩, q.sep⟩, ?_⟩
  exact grown_belowOwn q.own.es o.2 (by omega) (Nat.le_of_lt q.blk.lt)
end

end Go.Proofs.Ytdpolaedfjljmaa
