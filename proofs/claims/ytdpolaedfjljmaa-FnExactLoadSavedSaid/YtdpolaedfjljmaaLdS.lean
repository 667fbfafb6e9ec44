/- What a loading call holds: its result's box, its bytes' box, the saved one's box. -/
import Derived.Test.YtdpolaedfjljmaaLdT
namespace Go.Proofs.Ytdpolaedfjljmaa
open Go.RowKit

structure LdSt (A : Nat) (w wr : World) (u : ByteArray) (f : Bool) (h : SvH) (x : Sv) : Prop where
  res : Blk wr A (svV hd0 sv0) 28
  src : Blk wr (A + 1) #[.string u, .bool f] 135
  bx : SvBx wr (A + 2) h x
  B : Below A w wr
section
variable {A : Nat} {w wr w1 : World} {u : ByteArray} {f : Bool} {h : SvH} {x : Sv}
theorem LdSt.drew (q : LdSt A w wr u f h x) : LdSt A w wr.drew u f h x := ⟨q.res, q.src, q.bx.below (below_of_drewN wr 1 _) (Nat.le_refl _), q.B.trans (below_of_drewN wr 1 _)⟩
theorem LdSt.below (q : LdSt A w wr u f h x) (hA : A ≤ wr.heap.size) (hb : Below wr.heap.size wr w1) : LdSt A w w1 u f h x := ⟨q.res.below hb (Nat.le_refl _), q.src.below hb (Nat.le_refl _), q.bx.below hb (Nat.le_refl _), q.B.trans (hb.mono hA)⟩
theorem LdSt.lt (q : LdSt A w wr u f h x) : A + 2 < wr.heap.size := q.bx.blk.lt
theorem LdSt.tk (q : LdSt A w wr u f h x) (n : Nat) : LdSt A w (wTk wr (A + 1) u n) (tkU u n) (tkF u n f) h x :=
  ⟨by unfold wTk; split <;> exact q.res.far (by simp) _, wTk_blk q.src n, wTk_bx q.bx (by omega), q.B.trans (wTk_below (by omega))⟩
theorem LdSt.setN (q : LdSt A w wr u f h x) {y : ByteArray} (hy : y.size ≤ 9223372036854775807) : LdSt A w (wr.setCell ⟨A + 2, 0, none⟩ (.string y)) u f h { x with nm := y } :=
  ⟨q.res.far (by simp) _, q.src.far (by simp) _, q.bx.setN hy, q.B.setCell (by simp) _⟩
theorem LdSt.setW (q : LdSt A w wr u f h x) (y : Int) : LdSt A w (wr.setCell ⟨A + 2, 1, none⟩ (.int .i64 y)) u f h { x with W := y } :=
  ⟨q.res.far (by simp) _, q.src.far (by simp) _, q.bx.setW y, q.B.setCell (by simp) _⟩
theorem LdSt.setD (q : LdSt A w wr u f h x) (y : Int) : LdSt A w (wr.setCell ⟨A + 2, 2, none⟩ (.int .i64 y)) u f h { x with D := y } :=
  ⟨q.res.far (by simp) _, q.src.far (by simp) _, q.bx.setD y, q.B.setCell (by simp) _⟩
theorem LdSt.setS (q : LdSt A w wr u f h x) (y : Int) : LdSt A w (wr.setCell ⟨A + 2, 3, none⟩ (.int .i64 y)) u f h { x with S := y } :=
  ⟨q.res.far (by simp) _, q.src.far (by simp) _, q.bx.setS y, q.B.setCell (by simp) _⟩
theorem LdSt.setR (q : LdSt A w wr u f h x) (y : Int) : LdSt A w (wr.setCell ⟨A + 2, 5, none⟩ (.int .i64 y)) u f h { x with R := y } :=
  ⟨q.res.far (by simp) _, q.src.far (by simp) _, q.bx.setR y, q.B.setCell (by simp) _⟩
/-- Behind an append to a list of the saved one. -/
theorem ldSt_grown {a : Option Addr} {c : Nat} {ys : List Int} {o : Obj} (q : LdSt A w wr u f h x) (ho : Own (Value.int .i64) 2 wr (A + 2 + 1) a c ys) (g : (wr.alloc o).grownBy w1 (a.map (·.block))) :
    Blk w1 A (svV hd0 sv0) 28 ∧ Blk w1 (A + 1) #[.string u, .bool f] 135 ∧ Blk w1 (A + 2) (svV h x) 28 ∧ Below A w w1 ∧ wr.grownBy w1 (a.map (·.block)) := by
  have hg : wr.grownBy w1 (a.map (·.block)) := grown_trans (World.grownBy_alloc wr o _) g
  have hne : ∀ k, k ≤ A + 2 → some k ≠ a.map (·.block) := by
    intro k hk
    cases ha : a with
    | none => simp
    | some p => have := (ho.blk p ha).1; simp; omega
  have := q.lt
  exact ⟨q.res.grown hg (hne _ (by omega)), q.src.grown hg (hne _ (by omega)), q.bx.blk.grown hg (hne _ (by omega)), q.B.trans (grown_belowOwn ho hg (by omega) (by omega)), hg⟩
theorem lies_of {a a' : Option Addr} {o : Obj} (hl : ∀ p, a' = some p → (∃ q, a = some q ∧ q.block = p.block) ∨ p.block = (wr.alloc o).heap.size) : Lies wr.heap.size a a' := by
  intro p hp
  rcases hl p hp with h | h
  · exact .inl h
  · right; simp at h; omega
theorem LdSt.pushC {a' : Option Addr} {c' : Nat} {y : Int} {o : Obj} (q : LdSt A w wr u f h x) (ho : Own (Value.int .i64) 2 w1 (A + 2 + 1) a' c' (x.cs ++ [y])) (g : (wr.alloc o).grownBy w1 (h.a0.map (·.block))) (hl : ∀ p, a' = some p → (∃ q, h.a0 = some q ∧ q.block = p.block) ∨ p.block = (wr.alloc o).heap.size) :
    w1.cell? ⟨A + 2, 4, none⟩ = some (.slice h.a0 x.cs.length h.c0) ∧ w1.frozen? ⟨A + 2, 4, none⟩ = false ∧ LdSt A w (w1.setCell ⟨A + 2, 4, none⟩ (.slice a' (x.cs.length + 1) c')) u f { h with a0 := a', c0 := c' } { x with cs := x.cs ++ [y] } := by
  obtain ⟨h1, h2, h3, h4, h5⟩ := ldSt_grown q q.bx.own.cs g
  exact ⟨h3.cell rfl, h3.free 4, ⟨h1.far (by simp) _, h2.far (by simp) _, q.bx.pushC ho h5 (lies_of hl), h4.setCell (by simp) _⟩⟩
theorem LdSt.pushK {a' : Option Addr} {c' : Nat} {y : Int} {o : Obj} (q : LdSt A w wr u f h x) (ho : Own (Value.int .i64) 2 w1 (A + 2 + 1) a' c' (x.ks ++ [y])) (g : (wr.alloc o).grownBy w1 (h.a1.map (·.block))) (hl : ∀ p, a' = some p → (∃ q, h.a1 = some q ∧ q.block = p.block) ∨ p.block = (wr.alloc o).heap.size) :
    w1.cell? ⟨A + 2, 6, none⟩ = some (.slice h.a1 x.ks.length h.c1) ∧ w1.frozen? ⟨A + 2, 6, none⟩ = false ∧ LdSt A w (w1.setCell ⟨A + 2, 6, none⟩ (.slice a' (x.ks.length + 1) c')) u f { h with a1 := a', c1 := c' } { x with ks := x.ks ++ [y] } := by
  obtain ⟨h1, h2, h3, h4, h5⟩ := ldSt_grown q q.bx.own.ks g
  exact ⟨h3.cell rfl, h3.free 6, ⟨h1.far (by simp) _, h2.far (by simp) _, q.bx.pushK ho h5 (lies_of hl), h4.setCell (by simp) _⟩⟩
theorem LdSt.pushT {a' : Option Addr} {c' : Nat} {y : Int} {o : Obj} (q : LdSt A w wr u f h x) (ho : Own (Value.int .i64) 2 w1 (A + 2 + 1) a' c' (x.ts ++ [y])) (g : (wr.alloc o).grownBy w1 (h.a2.map (·.block))) (hl : ∀ p, a' = some p → (∃ q, h.a2 = some q ∧ q.block = p.block) ∨ p.block = (wr.alloc o).heap.size) :
    w1.cell? ⟨A + 2, 7, none⟩ = some (.slice h.a2 x.ts.length h.c2) ∧ w1.frozen? ⟨A + 2, 7, none⟩ = false ∧ LdSt A w (w1.setCell ⟨A + 2, 7, none⟩ (.slice a' (x.ts.length + 1) c')) u f { h with a2 := a', c2 := c' } { x with ts := x.ts ++ [y] } := by
  obtain ⟨h1, h2, h3, h4, h5⟩ := ldSt_grown q q.bx.own.ts g
  exact ⟨h3.cell rfl, h3.free 7, ⟨h1.far (by simp) _, h2.far (by simp) _, q.bx.pushT ho h5 (lies_of hl), h4.setCell (by simp) _⟩⟩
theorem LdSt.pushE {a' : Option Addr} {c' : Nat} {y : Int} {o : Obj} (q : LdSt A w wr u f h x) (ho : Own (Value.int .i64) 2 w1 (A + 2 + 1) a' c' (x.es ++ [y])) (g : (wr.alloc o).grownBy w1 (h.a3.map (·.block))) (hl : ∀ p, a' = some p → (∃ q, h.a3 = some q ∧ q.block = p.block) ∨ p.block = (wr.alloc o).heap.size) :
    w1.cell? ⟨A + 2, 8, none⟩ = some (.slice h.a3 x.es.length h.c3) ∧ w1.frozen? ⟨A + 2, 8, none⟩ = false ∧ LdSt A w (w1.setCell ⟨A + 2, 8, none⟩ (.slice a' (x.es.length + 1) c')) u f { h with a3 := a', c3 := c' } { x with es := x.es ++ [y] } := by
  obtain ⟨h1, h2, h3, h4, h5⟩ := ldSt_grown q q.bx.own.es g
  exact ⟨h3.cell rfl, h3.free 8, ⟨h1.far (by simp) _, h2.far (by simp) _, q.bx.pushE ho h5 (lies_of hl), h4.setCell (by simp) _⟩⟩
/-- The cells of the saved one's box. -/
theorem LdSt.cells (q : LdSt A w wr u f h x) : wr.cell? ⟨A + 2, 0, none⟩ = some (.string x.nm) ∧ wr.cell? ⟨A + 2, 1, none⟩ = some (.int .i64 x.W) ∧ wr.cell? ⟨A + 2, 2, none⟩ = some (.int .i64 x.D) ∧ wr.cell? ⟨A + 2, 3, none⟩ = some (.int .i64 x.S) ∧ wr.cell? ⟨A + 2, 4, none⟩ = some (.slice h.a0 x.cs.length h.c0) ∧ wr.cell? ⟨A + 2, 5, none⟩ = some (.int .i64 x.R) ∧ wr.cell? ⟨A + 2, 6, none⟩ = some (.slice h.a1 x.ks.length h.c1) ∧ wr.cell? ⟨A + 2, 7, none⟩ = some (.slice h.a2 x.ts.length h.c2) ∧ wr.cell? ⟨A + 2, 8, none⟩ = some (.slice h.a3 x.es.length h.c3) :=
  ⟨q.bx.blk.cell rfl, q.bx.blk.cell rfl, q.bx.blk.cell rfl, q.bx.blk.cell rfl, q.bx.blk.cell rfl, q.bx.blk.cell rfl, q.bx.blk.cell rfl, q.bx.blk.cell rfl, q.bx.blk.cell rfl⟩
end
theorem LdSt.start (w : World) (s : ByteArray) : LdSt w.heap.size w (((w.alloc (.cells (svV hd0 sv0) 28)).alloc (.cells #[.string s, .bool false] 135)).alloc (.cells (svV hd0 sv0) 28)) s false hd0 sv0 := by
  refine ⟨((Blk.new _ _ _).alloc _).alloc _, (Blk.new' (by simp)).alloc _, ?_, (((Below.refl _ _).alloc (Nat.le_refl _) _).alloc (by simp) _).alloc (by simp; omega) _⟩
  have := SvBx.new ((w.alloc (.cells (svV hd0 sv0) 28)).alloc (.cells #[.string s, .bool false] 135))
  simpa using this

end Go.Proofs.Ytdpolaedfjljmaa
