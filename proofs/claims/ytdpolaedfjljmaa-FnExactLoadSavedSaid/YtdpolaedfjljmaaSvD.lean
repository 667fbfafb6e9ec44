/- Lists of saved ones, plain. -/
import Derived.Test.YtdpolaedfjljmaaStSaved
namespace Go.Proofs.Ytdpolaedfjljmaa
open Go.RowKit

/-- What is saved. -/
structure Sv where
  nm : ByteArray
  W : Int
  D : Int
  S : Int
  cs : List Int
  R : Int
  ks : List Int
  ts : List Int
  es : List Int
/-- Where its four lists lie. -/
structure SvH where
  a0 : Option Addr
  c0 : Nat
  a1 : Option Addr
  c1 : Nat
  a2 : Option Addr
  c2 : Nat
  a3 : Option Addr
  c3 : Nat
def svV (h : SvH) (s : Sv) : Array Value := #[.string s.nm, .int .i64 s.W, .int .i64 s.D, .int .i64 s.S, .slice h.a0 s.cs.length h.c0, .int .i64 s.R, .slice h.a1 s.ks.length h.c1, .slice h.a2 s.ts.length h.c2, .slice h.a3 s.es.length h.c3]
/-- A saved one reads. -/
structure SvRd (w : World) (h : SvH) (s : Sv) : Prop where
  nm : s.nm.size ≤ 9223372036854775807
  cs : Rd (Value.int .i64) w h.a0 h.c0 s.cs
  ks : Rd (Value.int .i64) w h.a1 h.c1 s.ks
  ts : Rd (Value.int .i64) w h.a2 h.c2 s.ts
  es : Rd (Value.int .i64) w h.a3 h.c3 s.es
theorem SvRd.below {w w' : World} {h : SvH} {s : Sv} (g : SvRd w h s) {B : Nat} (hb : Below B w w') (hB : w.heap.size ≤ B) : SvRd w' h s :=
  ⟨g.nm, g.cs.below hb hB, g.ks.below hb hB, g.ts.below hb hB, g.es.below hb hB⟩
/-- A saved one in memory of its own. -/
structure SvOwn (w : World) (base : Nat) (h : SvH) (s : Sv) : Prop where
  nm : s.nm.size ≤ 9223372036854775807
  cs : Own (Value.int .i64) 2 w base h.a0 h.c0 s.cs
  ks : Own (Value.int .i64) 2 w base h.a1 h.c1 s.ks
  ts : Own (Value.int .i64) 2 w base h.a2 h.c2 s.ts
  es : Own (Value.int .i64) 2 w base h.a3 h.c3 s.es
theorem SvOwn.rd {w : World} {base : Nat} {h : SvH} {s : Sv} (g : SvOwn w base h s) : SvRd w h s := ⟨g.nm, g.cs.rd, g.ks.rd, g.ts.rd, g.es.rd⟩
theorem SvOwn.below {w w' : World} {base : Nat} {h : SvH} {s : Sv} (g : SvOwn w base h s) {B : Nat} (hb : Below B w w') (hB : w.heap.size ≤ B) : SvOwn w' base h s :=
  ⟨g.nm, g.cs.below hb hB, g.ks.below hb hB, g.ts.below hb hB, g.es.below hb hB⟩
theorem SvOwn.mono {w : World} {base b' : Nat} {h : SvH} {s : Sv} (g : SvOwn w base h s) (hb : b' ≤ base) : SvOwn w b' h s :=
  ⟨g.nm, g.cs.mono hb, g.ks.mono hb, g.ts.mono hb, g.es.mono hb⟩
theorem SvOwn.setFar {w : World} {base : Nat} {h : SvH} {s : Sv} (g : SvOwn w base h s) (p : Addr) (v : Value) (hp : p.block < base) : SvOwn (w.setCell p v) base h s :=
  ⟨g.nm, g.cs.setFar p v hp, g.ks.setFar p v hp, g.ts.setFar p v hp, g.es.setFar p v hp⟩

/-- A list of saved ones reads. -/
structure Rd9 (w : World) (a : Option Addr) (c : Nat) (hs : List SvH) (ss : List Sv) : Prop where
  cap : ss.length ≤ c
  max : c ≤ 9223372036854775807
  here : 0 < ss.length → ∃ b o, a = some ⟨b, o, none⟩ ∧ b < w.heap.size
  row : ∀ k, k < ss.length → ∃ h s, hs[k]? = some h ∧ ss[k]? = some s ∧ SvRd w h s ∧ ∀ j, j < 9 → w.cell? ⟨(a.getD ⟨0, 0, none⟩).block, (a.getD ⟨0, 0, none⟩).off + (k * 9 + j), none⟩ = (svV h s)[j]?
section
variable {w w' : World} {a : Option Addr} {c : Nat} {hs : List SvH} {ss : List Sv}
theorem Rd9.below (h : Rd9 w a c hs ss) {B : Nat} (hb : Below B w w') (hB : w.heap.size ≤ B) : Rd9 w' a c hs ss := by
  refine ⟨h.cap, h.max, fun h0 => ?_, fun k hk => ?_⟩
  · obtain ⟨b, o, e, hlt⟩ := h.here h0; exact ⟨b, o, e, Nat.lt_of_lt_of_le hlt hb.size⟩
  · obtain ⟨b, o, e, hlt⟩ := h.here (by omega)
    subst e
    obtain ⟨hd, s, e1, e2, hr, hc⟩ := h.row k hk
    refine ⟨hd, s, e1, e2, hr.below hb hB, fun j hj => ?_⟩
    rw [← hc j hj]
    exact hb.cell (p := ⟨b, o + (k * 9 + j), none⟩) (Nat.lt_of_lt_of_le hlt hB)
theorem Rd9.len (h : Rd9 w a c hs ss) : ss.length ≤ 9223372036854775807 := Nat.le_trans h.cap h.max
/-- Row k of a list at a place. -/
theorem Rd9.at {b o : Nat} (h : Rd9 w (some ⟨b, o, none⟩) c hs ss) {k : Nat} (hk : k < ss.length) : ∃ hd, SvRd w hd ss[k] ∧
    w.cell? ⟨b, o + k * 9, none⟩ = some (.string ss[k].nm) ∧ w.cell? ⟨b, o + k * 9 + 1, none⟩ = some (.int .i64 ss[k].W) ∧ w.cell? ⟨b, o + k * 9 + 2, none⟩ = some (.int .i64 ss[k].D) ∧ w.cell? ⟨b, o + k * 9 + 3, none⟩ = some (.int .i64 ss[k].S) ∧ w.cell? ⟨b, o + k * 9 + 4, none⟩ = some (.slice hd.a0 ss[k].cs.length hd.c0) ∧ w.cell? ⟨b, o + k * 9 + 5, none⟩ = some (.int .i64 ss[k].R) ∧ w.cell? ⟨b, o + k * 9 + 6, none⟩ = some (.slice hd.a1 ss[k].ks.length hd.c1) ∧ w.cell? ⟨b, o + k * 9 + 7, none⟩ = some (.slice hd.a2 ss[k].ts.length hd.c2) ∧ w.cell? ⟨b, o + k * 9 + 8, none⟩ = some (.slice hd.a3 ss[k].es.length hd.c3) := by
  obtain ⟨hd, s, e1, e2, hr, hc⟩ := h.row k hk
  have hs' : ss[k] = s := by rw [List.getElem?_eq_getElem hk] at e2; simpa using e2
  rw [hs']
  exact ⟨hd, hr, hc 0 (by omega), hc 1 (by omega), hc 2 (by omega), hc 3 (by omega), hc 4 (by omega), hc 5 (by omega), hc 6 (by omega), hc 7 (by omega), hc 8 (by omega)⟩
end
theorem idx9 {P : Program} {T : TypeId} {b o n c : Nat} (hT : P.underlying T = some (.slice (P.elem T))) (hs : ∀ w, (sizeOf (P.elem T)).run P w = .ok 9 w) :
    ∀ (w' : World) (k : Nat), k < n → (Instr.indexAt T (.slice (some ⟨b, o, none⟩) n c) (.int .i64 (k : Int))).run P w' = .ok (.pointer (some ⟨b, o + k * 9, none⟩)) w' := by
  intro w' k hk
  rw [run_indexAt_slice (h := hT), if_pos (by omega), hs]
  simp [Result.andThen, add_elt]

/-- Its size. -/
def svSize (s : Sv) : Int := (s.nm.size : Int) + ((s.cs.length : Int)) + ((s.ks.length : Int) + (s.ts.length : Int) + (s.es.length : Int))
theorem svSize_nn (s : Sv) : 0 ≤ svSize s := by unfold svSize; omega
def svSum : List Sv → Int
  | [] => 0
  | s :: ss => svSize s + svSum ss
theorem svSum_nn (ss : List Sv) : 0 ≤ svSum ss := by
  induction ss with
  | nil => exact Int.le_refl _
  | cons s ss ih => have := svSize_nn s; unfold svSum; omega
theorem svSum_app (xs ys : List Sv) : svSum (xs ++ ys) = svSum xs + svSum ys := by
  induction xs with
  | nil => simp [svSum]
  | cons s ss ih => simp only [List.cons_append, svSum, ih]; omega
theorem svSum_succ {ss : List Sv} {k : Nat} (h : k < ss.length) : svSum (ss.take (k + 1)) = svSum (ss.take k) + svSize ss[k] := by
  rw [List.take_add_one, List.getElem?_eq_getElem h, svSum_app]
  simp [svSum]
theorem svSum_le (ss : List Sv) (k : Nat) : svSum (ss.take k) ≤ svSum ss := by
  have h : svSum ss = svSum (ss.take k) + svSum (ss.drop k) := by rw [← svSum_app, List.take_append_drop]
  have := svSum_nn (ss.drop k)
  omega
def svsSize (ss : List Sv) : Int := (ss.length : Int) + svSum ss
theorem svsSize_row {ss : List Sv} {k : Nat} (h : k < ss.length) {n : Int} (hn : svsSize ss ≤ n) : svSize ss[k] ≤ n := by
  have h1 := svSum_succ h
  have h2 := svSum_le ss (k + 1)
  have h3 := svSum_nn (ss.take k)
  unfold svsSize at hn
  omega

/-- Nine stores. -/
def put9 (w : World) (g o : Nat) (v0 v1 v2 v3 v4 v5 v6 v7 v8 : Value) : World :=
  ((((((((w.setCell ⟨g, o, none⟩ v0).setCell ⟨g, o + 1, none⟩ v1).setCell ⟨g, o + 2, none⟩ v2).setCell ⟨g, o + 3, none⟩ v3).setCell ⟨g, o + 4, none⟩ v4).setCell ⟨g, o + 5, none⟩ v5).setCell ⟨g, o + 6, none⟩ v6).setCell ⟨g, o + 7, none⟩ v7).setCell ⟨g, o + 8, none⟩ v8
theorem Blk.put9 {w : World} {g o : Nat} {arr : Array Value} {T : TypeId} (h : Blk w g arr T) (hs : o + 9 ≤ arr.size) (v0 v1 v2 v3 v4 v5 v6 v7 v8 : Value) :
    ∃ arr', Blk (put9 w g o v0 v1 v2 v3 v4 v5 v6 v7 v8) g arr' T ∧ arr'.size = arr.size ∧ (∀ i, (i < o ∨ o + 9 ≤ i) → arr'[i]? = arr[i]?) ∧ ∀ j, j < 9 → arr'[o + j]? = (#[v0, v1, v2, v3, v4, v5, v6, v7, v8] : Array Value)[j]? := by
  refine ⟨_, ((((((((h.set o v0).set (o + 1) v1).set (o + 2) v2).set (o + 3) v3).set (o + 4) v4).set (o + 5) v5).set (o + 6) v6).set (o + 7) v7).set (o + 8) v8, by simp, fun i hi => ?_, fun j hj => ?_⟩
  · simp only [Array.getElem?_setIfInBounds]
    rw [if_neg (by omega), if_neg (by omega), if_neg (by omega), if_neg (by omega), if_neg (by omega), if_neg (by omega), if_neg (by omega), if_neg (by omega), if_neg (by omega)]
  · match j, hj with
    | 0, _ => simp [Array.getElem?_setIfInBounds, Array.size_setIfInBounds]; omega
    | 1, _ => simp [Array.getElem?_setIfInBounds, Array.size_setIfInBounds]; omega
    | 2, _ => simp [Array.getElem?_setIfInBounds, Array.size_setIfInBounds]; omega
    | 3, _ => simp [Array.getElem?_setIfInBounds, Array.size_setIfInBounds]; omega
    | 4, _ => simp [Array.getElem?_setIfInBounds, Array.size_setIfInBounds]; omega
    | 5, _ => simp [Array.getElem?_setIfInBounds, Array.size_setIfInBounds]; omega
    | 6, _ => simp [Array.getElem?_setIfInBounds, Array.size_setIfInBounds]; omega
    | 7, _ => simp [Array.getElem?_setIfInBounds, Array.size_setIfInBounds]; omega
    | 8, _ => simp [Array.getElem?_setIfInBounds, Array.size_setIfInBounds]; omega
theorem put9_below {w0 w : World} {B g o : Nat} {v0 v1 v2 v3 v4 v5 v6 v7 v8 : Value} (h : Below B w0 w) (hg : B ≤ g) : Below B w0 (put9 w g o v0 v1 v2 v3 v4 v5 v6 v7 v8) :=
  ((((((((h.setCell hg _).setCell hg _).setCell hg _).setCell hg _).setCell hg _).setCell hg _).setCell hg _).setCell hg _).setCell hg _
theorem SvOwn.put9 {w : World} {base : Nat} {h : SvH} {s : Sv} (q : SvOwn w base h s) {g o : Nat} (hg : g < base) {v0 v1 v2 v3 v4 v5 v6 v7 v8 : Value} : SvOwn (put9 w g o v0 v1 v2 v3 v4 v5 v6 v7 v8) base h s :=
  ((((((((q.setFar _ _ hg).setFar _ _ hg).setFar _ _ hg).setFar _ _ hg).setFar _ _ hg).setFar _ _ hg).setFar _ _ hg).setFar _ _ hg).setFar _ _ hg

/-- Up to k, records lie in block g. -/
structure Fill9 (T : TypeId) (w wr : World) (hs : List SvH) (ss : List Sv) (k : Nat) : Prop where
  blk : ∃ arr, Blk wr w.heap.size arr T ∧ arr.size = ss.length * 9 ∧ ∀ i, i < k → ∃ h s, hs[i]? = some h ∧ ss[i]? = some s ∧ ∀ j, j < 9 → arr[i * 9 + j]? = (svV h s)[j]?
  own : ∀ i, i < k → ∃ h s, hs[i]? = some h ∧ ss[i]? = some s ∧ SvOwn wr (w.heap.size + 1) h s
  len : hs.length = k
  B : Below w.heap.size w wr
theorem Fill9.step {T : TypeId} {w wr w1 : World} {hs : List SvH} {ss : List Sv} {k : Nat} (f : Fill9 T w wr hs ss k) (hk : k < ss.length) (hb : Below wr.heap.size wr w1) {h : SvH} (ho : SvOwn w1 wr.heap.size h ss[k]) :
    Fill9 T w (put9 w1 w.heap.size (k * 9) (.string ss[k].nm) (.int .i64 ss[k].W) (.int .i64 ss[k].D) (.int .i64 ss[k].S) (.slice h.a0 ss[k].cs.length h.c0) (.int .i64 ss[k].R) (.slice h.a1 ss[k].ks.length h.c1) (.slice h.a2 ss[k].ts.length h.c2) (.slice h.a3 ss[k].es.length h.c3)) (hs ++ [h]) ss (k + 1) := by
  obtain ⟨arr, hB, hsz, hrows⟩ := f.blk
  obtain ⟨arr', hB', hsz', hfar, hnear⟩ := (hB.below hb (Nat.le_refl _)).put9 (o := k * 9) (by rw [hsz]; omega) (.string ss[k].nm) (.int .i64 ss[k].W) (.int .i64 ss[k].D) (.int .i64 ss[k].S) (.slice h.a0 ss[k].cs.length h.c0) (.int .i64 ss[k].R) (.slice h.a1 ss[k].ks.length h.c1) (.slice h.a2 ss[k].ts.length h.c2) (.slice h.a3 ss[k].es.length h.c3)
  have hlt := hB.lt
  refine ⟨⟨arr', hB', hsz'.trans hsz, fun i hi => ?_⟩, fun i hi => ?_, by simp [f.len], put9_below (f.B.trans (hb.mono f.B.size)) (Nat.le_refl _)⟩
  · by_cases hik : i = k
    · subst hik
      exact ⟨h, ss[i], by rw [List.getElem?_append_right (by rw [f.len]; exact Nat.le_refl _), f.len]; simp, List.getElem?_eq_getElem hk, hnear⟩
    · obtain ⟨h', s', e1, e2, hc⟩ := hrows i (by omega)
      refine ⟨h', s', by rw [List.getElem?_append_left (by rw [f.len]; omega)]; exact e1, e2, fun j hj => ?_⟩
      rw [hfar _ (by omega)]
      exact hc j hj
  · by_cases hik : i = k
    · subst hik
      exact ⟨h, ss[i], by rw [List.getElem?_append_right (by rw [f.len]; exact Nat.le_refl _), f.len]; simp, List.getElem?_eq_getElem hk, (ho.mono (by omega)).put9 (by omega)⟩
    · obtain ⟨h', s', e1, e2, hc⟩ := f.own i (by omega)
      exact ⟨h', s', by rw [List.getElem?_append_left (by rw [f.len]; omega)]; exact e1, e2, (hc.below hb (Nat.le_refl _)).put9 (by omega)⟩
theorem Fill9.cells {T : TypeId} {w wr : World} {hs : List SvH} {ss : List Sv} {k : Nat} (f : Fill9 T w wr hs ss k) (hk : k < ss.length) : ∀ j, j < 9 → ∃ v, wr.cell? ⟨w.heap.size, k * 9 + j, none⟩ = some v := by
  obtain ⟨arr, hB, hsz, hrows⟩ := f.blk
  intro j hj
  exact ⟨arr[k * 9 + j]'(by rw [hsz]; omega), hB.cell (Array.getElem?_eq_getElem (by rw [hsz]; omega))⟩
theorem Fill9.free {T : TypeId} {w wr : World} {hs : List SvH} {ss : List Sv} {k : Nat} (f : Fill9 T w wr hs ss k) (i : Nat) : wr.frozen? ⟨w.heap.size, i, none⟩ = false := by
  obtain ⟨arr, hB, hsz, hrows⟩ := f.blk
  exact hB.free i
theorem Fill9.lt {T : TypeId} {w wr : World} {hs : List SvH} {ss : List Sv} {k : Nat} (f : Fill9 T w wr hs ss k) : w.heap.size < wr.heap.size := by
  obtain ⟨arr, hB, hsz, hrows⟩ := f.blk
  exact hB.lt

/-- A list of saved ones in new memory. -/
structure Own9 (T : TypeId) (w : World) (base g : Nat) (hs : List SvH) (ss : List Sv) : Prop where
  ge : base ≤ g
  max : ss.length ≤ 9223372036854775807
  blk : ∃ arr, Blk w g arr T ∧ arr.size = ss.length * 9 ∧ ∀ i, i < ss.length → ∃ h s, hs[i]? = some h ∧ ss[i]? = some s ∧ ∀ j, j < 9 → arr[i * 9 + j]? = (svV h s)[j]?
  own : ∀ i, i < ss.length → ∃ h s, hs[i]? = some h ∧ ss[i]? = some s ∧ SvOwn w (g + 1) h s
theorem Fill9.done {T : TypeId} {w wr : World} {hs : List SvH} {ss : List Sv} (f : Fill9 T w wr hs ss ss.length) (hm : ss.length ≤ 9223372036854775807) : Own9 T wr w.heap.size w.heap.size hs ss := ⟨Nat.le_refl _, hm, f.blk, f.own⟩
theorem Own9.rd {T : TypeId} {w : World} {base g : Nat} {hs : List SvH} {ss : List Sv} (o : Own9 T w base g hs ss) : Rd9 w (some ⟨g, 0, none⟩) ss.length hs ss := by
  obtain ⟨arr, hB, hsz, hrows⟩ := o.blk
  refine ⟨Nat.le_refl _, o.max, fun _ => ⟨g, 0, rfl, hB.lt⟩, fun k hk => ?_⟩
  obtain ⟨h, s, e1, e2, hc⟩ := hrows k hk
  obtain ⟨h', s', e1', e2', hw⟩ := o.own k hk
  rw [e1] at e1'
  rw [e2] at e2'
  simp only [Option.some.injEq] at e1' e2'
  subst e1' e2'
  refine ⟨h, s, e1, e2, hw.rd, fun j hj => ?_⟩
  show w.cell? ⟨g, 0 + (k * 9 + j), none⟩ = _
  rw [Nat.zero_add, cell_of_row w g _ arr T (0, 0) hB]
  exact hc j hj

end Go.Proofs.Ytdpolaedfjljmaa
