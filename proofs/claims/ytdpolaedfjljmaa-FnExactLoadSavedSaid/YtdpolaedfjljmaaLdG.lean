/- What the reference's loading call holds: its result's box, the saved one's box. -/
import Derived.Test.YtdpolaedfjljmaaLdS
namespace Go.Proofs.Ytdpolaedfjljmaa
open Go.RowKit

structure BgSt (A : Nat) (w wr : World) (h : SvH) (x : Sv) : Prop where
  res : Blk wr A (svV hd0 sv0) 28
  bx : SvBx wr (A + 1) h x
  B : Below A w wr
section
variable {A : Nat} {w wr w1 : World} {h : SvH} {x : Sv}
theorem BgSt.drewN (q : BgSt A w wr h x) (n : Nat) : BgSt A w (wr.drewN n) h x := ⟨q.res, q.bx.below (below_of_drewN wr n _) (Nat.le_refl _), q.B.trans (below_of_drewN wr n _)⟩
theorem BgSt.below (q : BgSt A w wr h x) (hA : A ≤ wr.heap.size) (hb : Below wr.heap.size wr w1) : BgSt A w w1 h x := ⟨q.res.below hb (Nat.le_refl _), q.bx.below hb (Nat.le_refl _), q.B.trans (hb.mono hA)⟩
theorem BgSt.lt (q : BgSt A w wr h x) : A + 1 < wr.heap.size := q.bx.blk.lt
theorem BgSt.setR (q : BgSt A w wr h x) (y : Int) : BgSt A w (wr.setCell ⟨A + 1, 5, none⟩ (.int .i64 y)) h { x with R := y } :=
  ⟨q.res.far (by simp) _, q.bx.setR y, q.B.setCell (by simp) _⟩
theorem svBx_nil {b : Nat} (q : SvBx w b h x) (hc : x.cs = []) : SvBx (w.setCell ⟨b, 4, none⟩ (.slice none 0 0)) b { h with a0 := none, c0 := 0 } x := by
  refine ⟨?_, ⟨q.own.nm, ?_, q.own.ks.setFar _ _ (by simp), q.own.ts.setFar _ _ (by simp), q.own.es.setFar _ _ (by simp)⟩, ⟨sep_none _, sep_none _, sep_none _, q.sep.s12, q.sep.s13, q.sep.s23⟩⟩
  · have := q.blk.set 4 (.slice none 0 0)
    have e : (svV h x).setIfInBounds 4 (.slice none 0 0) = svV { h with a0 := none, c0 := 0 } x := by simp [svV, hc]
    rwa [e] at this
  · rw [hc]; exact own_nil _ _ _ _
/-- The four cells of the counts are stored. -/
theorem BgSt.setCells (q : BgSt A w wr hd0 x) (hc : x.cs = []) (W D S : Int) : BgSt A w ((((wr.setCell ⟨A + 1, 1, none⟩ (.int .i64 W)).setCell ⟨A + 1, 2, none⟩ (.int .i64 D)).setCell ⟨A + 1, 3, none⟩ (.int .i64 S)).setCell ⟨A + 1, 4, none⟩ (.slice none 0 0)) hd0 { x with W := W, D := D, S := S } :=
  ⟨(((q.res.far (by simp) _).far (by simp) _).far (by simp) _).far (by simp) _, svBx_nil (((q.bx.setW W).setD D).setS S) hc, (((q.B.setCell (by simp) _).setCell (by simp) _).setCell (by simp) _).setCell (by simp) _⟩
theorem bgSt_grown {a : Option Addr} {c : Nat} {ys : List Int} {o : Obj} (q : BgSt A w wr h x) (ho : Own (Value.int .i64) 2 wr (A + 1 + 1) a c ys) (g : (wr.alloc o).grownBy w1 (a.map (·.block))) :
    Blk w1 A (svV hd0 sv0) 28 ∧ Blk w1 (A + 1) (svV h x) 28 ∧ Below A w w1 ∧ wr.grownBy w1 (a.map (·.block)) := by
  have hg : wr.grownBy w1 (a.map (·.block)) := grown_trans (World.grownBy_alloc wr o _) g
  have hne : ∀ k, k ≤ A + 1 → some k ≠ a.map (·.block) := by
    intro k hk
    cases ha : a with
    | none => simp
    | some p => have := (ho.blk p ha).1; simp; omega
  have := q.lt
  exact ⟨q.res.grown hg (hne _ (by omega)), q.bx.blk.grown hg (hne _ (by omega)), q.B.trans (grown_belowOwn ho hg (by omega) (by omega)), hg⟩
theorem BgSt.pushC {a' : Option Addr} {c' : Nat} {y : Int} {o : Obj} (q : BgSt A w wr h x) (ho : Own (Value.int .i64) 2 w1 (A + 1 + 1) a' c' (x.cs ++ [y])) (g : (wr.alloc o).grownBy w1 (h.a0.map (·.block))) (hl : ∀ p, a' = some p → (∃ q, h.a0 = some q ∧ q.block = p.block) ∨ p.block = (wr.alloc o).heap.size) :
    w1.cell? ⟨A + 1, 4, none⟩ = some (.slice h.a0 x.cs.length h.c0) ∧ w1.frozen? ⟨A + 1, 4, none⟩ = false ∧ BgSt A w (w1.setCell ⟨A + 1, 4, none⟩ (.slice a' (x.cs.length + 1) c')) { h with a0 := a', c0 := c' } { x with cs := x.cs ++ [y] } := by
  obtain ⟨h1, h3, h4, h5⟩ := bgSt_grown q q.bx.own.cs g
  exact ⟨h3.cell rfl, h3.free 4, ⟨h1.far (by simp) _, q.bx.pushC ho h5 (lies_of hl), h4.setCell (by simp) _⟩⟩
theorem BgSt.pushK {a' : Option Addr} {c' : Nat} {y : Int} {o : Obj} (q : BgSt A w wr h x) (ho : Own (Value.int .i64) 2 w1 (A + 1 + 1) a' c' (x.ks ++ [y])) (g : (wr.alloc o).grownBy w1 (h.a1.map (·.block))) (hl : ∀ p, a' = some p → (∃ q, h.a1 = some q ∧ q.block = p.block) ∨ p.block = (wr.alloc o).heap.size) :
    w1.cell? ⟨A + 1, 6, none⟩ = some (.slice h.a1 x.ks.length h.c1) ∧ w1.frozen? ⟨A + 1, 6, none⟩ = false ∧ BgSt A w (w1.setCell ⟨A + 1, 6, none⟩ (.slice a' (x.ks.length + 1) c')) { h with a1 := a', c1 := c' } { x with ks := x.ks ++ [y] } := by
  obtain ⟨h1, h3, h4, h5⟩ := bgSt_grown q q.bx.own.ks g
  exact ⟨h3.cell rfl, h3.free 6, ⟨h1.far (by simp) _, q.bx.pushK ho h5 (lies_of hl), h4.setCell (by simp) _⟩⟩
theorem BgSt.pushT {a' : Option Addr} {c' : Nat} {y : Int} {o : Obj} (q : BgSt A w wr h x) (ho : Own (Value.int .i64) 2 w1 (A + 1 + 1) a' c' (x.ts ++ [y])) (g : (wr.alloc o).grownBy w1 (h.a2.map (·.block))) (hl : ∀ p, a' = some p → (∃ q, h.a2 = some q ∧ q.block = p.block) ∨ p.block = (wr.alloc o).heap.size) :
    w1.cell? ⟨A + 1, 7, none⟩ = some (.slice h.a2 x.ts.length h.c2) ∧ w1.frozen? ⟨A + 1, 7, none⟩ = false ∧ BgSt A w (w1.setCell ⟨A + 1, 7, none⟩ (.slice a' (x.ts.length + 1) c')) { h with a2 := a', c2 := c' } { x with ts := x.ts ++ [y] } := by
  obtain ⟨h1, h3, h4, h5⟩ := bgSt_grown q q.bx.own.ts g
  exact ⟨h3.cell rfl, h3.free 7, ⟨h1.far (by simp) _, q.bx.pushT ho h5 (lies_of hl), h4.setCell (by simp) _⟩⟩
theorem BgSt.pushE {a' : Option Addr} {c' : Nat} {y : Int} {o : Obj} (q : BgSt A w wr h x) (ho : Own (Value.int .i64) 2 w1 (A + 1 + 1) a' c' (x.es ++ [y])) (g : (wr.alloc o).grownBy w1 (h.a3.map (·.block))) (hl : ∀ p, a' = some p → (∃ q, h.a3 = some q ∧ q.block = p.block) ∨ p.block = (wr.alloc o).heap.size) :
    w1.cell? ⟨A + 1, 8, none⟩ = some (.slice h.a3 x.es.length h.c3) ∧ w1.frozen? ⟨A + 1, 8, none⟩ = false ∧ BgSt A w (w1.setCell ⟨A + 1, 8, none⟩ (.slice a' (x.es.length + 1) c')) { h with a3 := a', c3 := c' } { x with es := x.es ++ [y] } := by
  obtain ⟨h1, h3, h4, h5⟩ := bgSt_grown q q.bx.own.es g
  exact ⟨h3.cell rfl, h3.free 8, ⟨h1.far (by simp) _, q.bx.pushE ho h5 (lies_of hl), h4.setCell (by simp) _⟩⟩
/-- The cells of the saved one's box. -/
theorem BgSt.cells (q : BgSt A w wr h x) : wr.cell? ⟨A + 1, 0, none⟩ = some (.string x.nm) ∧ wr.cell? ⟨A + 1, 1, none⟩ = some (.int .i64 x.W) ∧ wr.cell? ⟨A + 1, 2, none⟩ = some (.int .i64 x.D) ∧ wr.cell? ⟨A + 1, 3, none⟩ = some (.int .i64 x.S) ∧ wr.cell? ⟨A + 1, 4, none⟩ = some (.slice h.a0 x.cs.length h.c0) ∧ wr.cell? ⟨A + 1, 5, none⟩ = some (.int .i64 x.R) ∧ wr.cell? ⟨A + 1, 6, none⟩ = some (.slice h.a1 x.ks.length h.c1) ∧ wr.cell? ⟨A + 1, 7, none⟩ = some (.slice h.a2 x.ts.length h.c2) ∧ wr.cell? ⟨A + 1, 8, none⟩ = some (.slice h.a3 x.es.length h.c3) :=
  ⟨q.bx.blk.cell rfl, q.bx.blk.cell rfl, q.bx.blk.cell rfl, q.bx.blk.cell rfl, q.bx.blk.cell rfl, q.bx.blk.cell rfl, q.bx.blk.cell rfl, q.bx.blk.cell rfl, q.bx.blk.cell rfl⟩
end
theorem BgSt.start (w : World) (nm : ByteArray) (hn : nm.size ≤ 9223372036854775807) : BgSt w.heap.size w ((w.alloc (.cells (svV hd0 sv0) 28)).alloc (.cells (svV hd0 { sv0 with nm := nm }) 28)) hd0 { sv0 with nm := nm } := by
  refine ⟨(Blk.new _ _ _).alloc _, ⟨Blk.new' (by simp), ⟨hn, own_nil _ _ _ _, own_nil _ _ _ _, own_nil _ _ _ _, own_nil _ _ _ _⟩, svSep0⟩, ((Below.refl _ _).alloc (Nat.le_refl _) _).alloc (by simp) _⟩
/-- The saved one that the reference begins with. -/
def RetBg (w : World) (x : Sv) (n : Nat) (e : Ending) (w' : World) : Prop :=
  ∃ h : SvH, e = .returned (.tuple #[.agg #[.string x.nm, .int .i64 x.W, .int .i64 x.D, .int .i64 x.S, .slice h.a0 x.cs.length h.c0, .int .i64 x.R, .slice h.a1 x.ks.length h.c1, .slice h.a2 x.ts.length h.c2, .slice h.a3 x.es.length h.c3], .int .i64 (n : Int)]) ∧ SvOwn w' w.heap.size h x ∧ SvSep h ∧ Below w.heap.size w w'

end Go.Proofs.Ytdpolaedfjljmaa
