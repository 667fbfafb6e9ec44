/- A saved one in a box, and what is appended to its lists. -/
import Derived.Test.YtdpolaedfjljmaaGrw
import Derived.Test.YtdpolaedfjljmaaSvD
namespace Go.Proofs.Ytdpolaedfjljmaa
open Go.RowKit

/-- Its four lists lie apart. -/
structure SvSep (h : SvH) : Prop where
  s01 : Sep h.a0 h.a1
  s02 : Sep h.a0 h.a2
  s03 : Sep h.a0 h.a3
  s12 : Sep h.a1 h.a2
  s13 : Sep h.a1 h.a3
  s23 : Sep h.a2 h.a3
/-- A saved one in block b, its lists behind it. -/
structure SvBx (w : World) (b : Nat) (h : SvH) (s : Sv) : Prop where
  blk : Blk w b (svV h s) 28
  own : SvOwn w (b + 1) h s
  sep : SvSep h
def hd0 : SvH := ⟨none, 0, none, 0, none, 0, none, 0⟩
def sv0 : Sv := ⟨⟨#[]⟩, 0, 0, 0, [], 0, [], [], []⟩
theorem sep_none (b : Option Addr) : Sep none b := fun p q hp => by simp at hp
theorem svSep0 : SvSep hd0 := ⟨sep_none _, sep_none _, sep_none _, sep_none _, sep_none _, sep_none _⟩
theorem svOwn0 (w : World) (base : Nat) : SvOwn w base hd0 sv0 := ⟨by decide, own_nil _ _ _ _, own_nil _ _ _ _, own_nil _ _ _ _, own_nil _ _ _ _⟩
theorem SvBx.new (w : World) : SvBx (w.alloc (.cells (svV hd0 sv0) 28)) w.heap.size hd0 sv0 := ⟨Blk.new _ _ _, svOwn0 _ _, svSep0⟩
section
variable {w w1 : World} {b : Nat} {h : SvH} {s : Sv}
theorem SvBx.below (q : SvBx w b h s) {B : Nat} (hb : Below B w w1) (hB : w.heap.size ≤ B) : SvBx w1 b h s := ⟨q.blk.below hb hB, q.own.below hb hB, q.sep⟩
theorem SvBx.far (q : SvBx w b h s) {p : Addr} (hp : p.block < b) (v : Value) : SvBx (w.setCell p v) b h s := ⟨q.blk.far (by omega) v, q.own.setFar p v (by omega), q.sep⟩
theorem SvBx.setN (q : SvBx w b h s) {x : ByteArray} (hx : x.size ≤ 9223372036854775807) : SvBx (w.setCell ⟨b, 0, none⟩ (.string x)) b h { s with nm := x } :=
  ⟨q.blk.set 0 _, ⟨hx, q.own.cs.setFar _ _ (by simp), q.own.ks.setFar _ _ (by simp), q.own.ts.setFar _ _ (by simp), q.own.es.setFar _ _ (by simp)⟩, q.sep⟩
theorem SvBx.setW (q : SvBx w b h s) (x : Int) : SvBx (w.setCell ⟨b, 1, none⟩ (.int .i64 x)) b h { s with W := x } :=
  ⟨q.blk.set 1 _, ⟨q.own.nm, q.own.cs.setFar _ _ (by simp), q.own.ks.setFar _ _ (by simp), q.own.ts.setFar _ _ (by simp), q.own.es.setFar _ _ (by simp)⟩, q.sep⟩
theorem SvBx.setD (q : SvBx w b h s) (x : Int) : SvBx (w.setCell ⟨b, 2, none⟩ (.int .i64 x)) b h { s with D := x } :=
  ⟨q.blk.set 2 _, ⟨q.own.nm, q.own.cs.setFar _ _ (by simp), q.own.ks.setFar _ _ (by simp), q.own.ts.setFar _ _ (by simp), q.own.es.setFar _ _ (by simp)⟩, q.sep⟩
theorem SvBx.setS (q : SvBx w b h s) (x : Int) : SvBx (w.setCell ⟨b, 3, none⟩ (.int .i64 x)) b h { s with S := x } :=
  ⟨q.blk.set 3 _, ⟨q.own.nm, q.own.cs.setFar _ _ (by simp), q.own.ks.setFar _ _ (by simp), q.own.ts.setFar _ _ (by simp), q.own.es.setFar _ _ (by simp)⟩, q.sep⟩
theorem SvBx.setR (q : SvBx w b h s) (x : Int) : SvBx (w.setCell ⟨b, 5, none⟩ (.int .i64 x)) b h { s with R := x } :=
  ⟨q.blk.set 5 _, ⟨q.own.nm, q.own.cs.setFar _ _ (by simp), q.own.ks.setFar _ _ (by simp), q.own.ts.setFar _ _ (by simp), q.own.es.setFar _ _ (by simp)⟩, q.sep⟩
theorem blk_grown_own {α : Type} {f : α → Value} {e : TypeId} {a : Option Addr} {c : Nat} {xs : List α} {cs : Array Value} {T : TypeId} (q : Blk w b cs T) (o : Own f e w (b + 1) a c xs) (g : w.grownBy w1 (a.map (·.block))) : Blk w1 b cs T := by
  refine q.grown g ?_
  cases ha : a with
  | none => simp
  | some p => have := (o.blk p ha).1; simp; omega
theorem SvBx.pushC (q : SvBx w b h s) {a' : Option Addr} {c' : Nat} {x : Int} (o : Own (Value.int .i64) 2 w1 (b + 1) a' c' (s.cs ++ [x])) (g : w.grownBy w1 (h.a0.map (·.block))) (l : Lies w.heap.size h.a0 a') :
    SvBx (w1.setCell ⟨b, 4, none⟩ (.slice a' (s.cs.length + 1) c')) b { h with a0 := a', c0 := c' } { s with cs := s.cs ++ [x] } := by
  refine ⟨?_, ⟨q.own.nm, o.setFar _ _ (by simp), (q.own.ks.keptS g q.sep.s01.symm).setFar _ _ (by simp), (q.own.ts.keptS g q.sep.s02.symm).setFar _ _ (by simp), (q.own.es.keptS g q.sep.s03.symm).setFar _ _ (by simp)⟩, ?_⟩
  · have := (blk_grown_own q.blk q.own.cs g).set 4 (.slice a' (s.cs.length + 1) c')
    have e : (svV h s).setIfInBounds 4 (.slice a' (s.cs.length + 1) c') = svV { h with a0 := a', c0 := c' } { s with cs := s.cs ++ [x] } := by simp [svV]
    rwa [e] at this
  · exact ⟨l.sep q.sep.s01 q.own.ks.lt, l.sep q.sep.s02 q.own.ts.lt, l.sep q.sep.s03 q.own.es.lt, q.sep.s12, q.sep.s13, q.sep.s23⟩
theorem SvBx.pushK (q : SvBx w b h s) {a' : Option Addr} {c' : Nat} {x : Int} (o : Own (Value.int .i64) 2 w1 (b + 1) a' c' (s.ks ++ [x])) (g : w.grownBy w1 (h.a1.map (·.block))) (l : Lies w.heap.size h.a1 a') :
    SvBx (w1.setCell ⟨b, 6, none⟩ (.slice a' (s.ks.length + 1) c')) b { h with a1 := a', c1 := c' } { s with ks := s.ks ++ [x] } := by
  refine ⟨?_, ⟨q.own.nm, (q.own.cs.keptS g q.sep.s01).setFar _ _ (by simp), o.setFar _ _ (by simp), (q.own.ts.keptS g q.sep.s12.symm).setFar _ _ (by simp), (q.own.es.keptS g q.sep.s13.symm).setFar _ _ (by simp)⟩, ?_⟩
  · have := (blk_grown_own q.blk q.own.ks g).set 6 (.slice a' (s.ks.length + 1) c')
    have e : (svV h s).setIfInBounds 6 (.slice a' (s.ks.length + 1) c') = svV { h with a1 := a', c1 := c' } { s with ks := s.ks ++ [x] } := by simp [svV]
    rwa [e] at this
  · exact ⟨(l.sep q.sep.s01.symm q.own.cs.lt).symm, q.sep.s02, q.sep.s03, l.sep q.sep.s12 q.own.ts.lt, l.sep q.sep.s13 q.own.es.lt, q.sep.s23⟩
theorem SvBx.pushT (q : SvBx w b h s) {a' : Option Addr} {c' : Nat} {x : Int} (o : Own (Value.int .i64) 2 w1 (b + 1) a' c' (s.ts ++ [x])) (g : w.grownBy w1 (h.a2.map (·.block))) (l : Lies w.heap.size h.a2 a') :
    SvBx (w1.setCell ⟨b, 7, none⟩ (.slice a' (s.ts.length + 1) c')) b { h with a2 := a', c2 := c' } { s with ts := s.ts ++ [x] } := by
  refine ⟨?_, ⟨q.own.nm, (q.own.cs.keptS g q.sep.s02).setFar _ _ (by simp), (q.own.ks.keptS g q.sep.s12).setFar _ _ (by simp), o.setFar _ _ (by simp), (q.own.es.keptS g q.sep.s23.symm).setFar _ _ (by simp)⟩, ?_⟩
  · have := (blk_grown_own q.blk q.own.ts g).set 7 (.slice a' (s.ts.length + 1) c')
    have e : (svV h s).setIfInBounds 7 (.slice a' (s.ts.length + 1) c') = svV { h with a2 := a', c2 := c' } { s with ts := s.ts ++ [x] } := by simp [svV]
    rwa [e] at this
  · exact ⟨q.sep.s01, (l.sep q.sep.s02.symm q.own.cs.lt).symm, q.sep.s03, (l.sep q.sep.s12.symm q.own.ks.lt).symm, q.sep.s13, l.sep q.sep.s23 q.own.es.lt⟩
theorem SvBx.pushE (q : SvBx w b h s) {a' : Option Addr} {c' : Nat} {x : Int} (o : Own (Value.int .i64) 2 w1 (b + 1) a' c' (s.es ++ [x])) (g : w.grownBy w1 (h.a3.map (·.block))) (l : Lies w.heap.size h.a3 a') :
    SvBx (w1.setCell ⟨b, 8, none⟩ (.slice a' (s.es.length + 1) c')) b { h with a3 := a', c3 := c' } { s with es := s.es ++ [x] } := by
  refine ⟨?_, ⟨q.own.nm, (q.own.cs.keptS g q.sep.s03).setFar _ _ (by simp), (q.own.ks.keptS g q.sep.s13).setFar _ _ (by simp), (q.own.ts.keptS g q.sep.s23).setFar _ _ (by simp), o.setFar _ _ (by simp)⟩, ?_⟩
  · have := (blk_grown_own q.blk q.own.es g).set 8 (.slice a' (s.es.length + 1) c')
    have e : (svV h s).setIfInBounds 8 (.slice a' (s.es.length + 1) c') = svV { h with a3 := a', c3 := c' } { s with es := s.es ++ [x] } := by simp [svV]
    rwa [e] at this
  · exact ⟨q.sep.s01, q.sep.s02, (l.sep q.sep.s03.symm q.own.cs.lt).symm, q.sep.s12, (l.sep q.sep.s13.symm q.own.ks.lt).symm, (l.sep q.sep.s23.symm q.own.ts.lt).symm⟩
end

end Go.Proofs.Ytdpolaedfjljmaa
