/- Marks on a list of saved ones: plain. -/
import Derived.Test.YtdpolaedfjljmaaQSVF31
import Derived.Test.YtdpolaedfjljmaaQSVF25
namespace Go.Proofs.Ytdpolaedfjljmaa
open Go.RowKit

/-- A saved one all of whose fields are marked. -/
def fmk (k : Nat) (x : Sv) : Sv where
  nm := mkT k
  W := ((k + 1 : Nat) : Int)
  D := ((k + 2 : Nat) : Int)
  S := ((k + 3 : Nat) : Int)
  cs := marks intM (k + 4) x.cs.length
  R := ((k + 4 + x.cs.length : Nat) : Int)
  ks := marks intM (k + 5 + x.cs.length) x.ks.length
  ts := marks intM (k + 5 + x.cs.length + x.ks.length) x.ts.length
  es := marks intM (k + 5 + x.cs.length + x.ks.length + x.ts.length) x.es.length
def fsz (x : Sv) : Nat := 5 + x.cs.length + x.ks.length + x.ts.length + x.es.length
def fmks : Nat → List Sv → List Sv
  | _, [] => []
  | k, x :: xs => fmk k x :: fmks (k + fsz x) xs
def fsum : List Sv → Nat
  | [] => 0
  | x :: xs => fsz x + fsum xs
theorem fmks_len : ∀ (k : Nat) (xs : List Sv), (fmks k xs).length = xs.length
  | _, [] => rfl
  | k, x :: xs => by show (fmks (k + fsz x) xs).length + 1 = _; rw [fmks_len]; rfl
theorem fmks_get : ∀ {k : Nat} {xs : List Sv} {i : Nat} {x : Sv}, xs[i]? = some x → (fmks k xs)[i]? = some (fmk (k + fsum (xs.take i)) x)
  | k, x0 :: xs, 0, x, h => by simp at h; subst h; simp [fmks, fsum]
  | k, x0 :: xs, i + 1, x, h => by
    have h' : xs[i]? = some x := by simpa using h
    show (fmks (k + fsz x0) xs)[i]? = _
    rw [fmks_get h']
    show _ = some (fmk (k + (fsz x0 + fsum (xs.take i))) x)
    rw [Nat.add_assoc]
  | _, [], _, _, h => by simp at h
theorem fsum_succ : ∀ {xs : List Sv} {i : Nat} {x : Sv}, xs[i]? = some x → fsum (xs.take (i + 1)) = fsum (xs.take i) + fsz x
  | x0 :: xs, 0, x, h => by simp at h; subst h; simp [fsum]
  | x0 :: xs, i + 1, x, h => by
    have h' : xs[i]? = some x := by simpa using h
    show fsz x0 + fsum (xs.take (i + 1)) = fsz x0 + fsum (xs.take i) + fsz x
    rw [fsum_succ h']; omega
  | [], _, _, h => by simp at h
theorem fsum_le : ∀ (xs : List Sv) (i : Nat), fsum (xs.take i) ≤ fsum xs
  | [], i => by simp
  | x :: xs, 0 => by simp [fsum]
  | x :: xs, i + 1 => by
    show fsz x + fsum (xs.take i) ≤ fsz x + fsum xs
    have := fsum_le xs i; omega
/-- The list with its first i rows marked. -/
def mkAt (k : Nat) (xs : List Sv) (i : Nat) : List Sv := (fmks k xs).take i ++ xs.drop i
theorem mkAt_zero (k : Nat) (xs : List Sv) : mkAt k xs 0 = xs := by simp [mkAt]
theorem mkAt_all (k : Nat) (xs : List Sv) : mkAt k xs xs.length = fmks k xs := by
  unfold mkAt; rw [List.take_of_length_le (by rw [fmks_len]; exact Nat.le_refl _), List.drop_length, List.append_nil]
theorem mkAt_len (k : Nat) (xs : List Sv) (i : Nat) : (mkAt k xs i).length = xs.length := by
  unfold mkAt; rw [List.length_append, List.length_take, List.length_drop, fmks_len]; omega
theorem mkAt_get {k : Nat} {xs : List Sv} {i : Nat} {x : Sv} (h : xs[i]? = some x) : (mkAt k xs i)[i]? = some x := by
  have hi := (List.getElem?_eq_some_iff.1 h).1
  unfold mkAt
  rw [List.getElem?_append_right (by rw [List.length_take]; omega), List.length_take, fmks_len, List.getElem?_drop]
  have e : i + (i - min i xs.length) = i := by omega
  rw [e]; exact h
theorem mkAt_set {k : Nat} {xs : List Sv} {i : Nat} {x : Sv} (h : xs[i]? = some x) : (mkAt k xs i).set i (fmk (k + fsum (xs.take i)) x) = mkAt k xs (i + 1) := by
  have hi := (List.getElem?_eq_some_iff.1 h).1
  unfold mkAt
  rw [List.set_append_right _ _ (by rw [List.length_take]; omega), List.length_take, fmks_len]
  have e : i - min i xs.length = 0 := by omega
  rw [e, List.take_add_one, fmks_get h]
  have ed : xs.drop i = x :: xs.drop (i + 1) := by
    rw [List.drop_eq_getElem_cons hi]
    have := (List.getElem?_eq_some_iff.1 h).2
    rw [this]
  rw [ed]
  simp

section
variable {w w' : World} {base : Nat} {a : Option Addr} {c : Nat} {hs : List SvH} {ss : List Sv}
theorem Lst9.setF {g i j : Nat} {h : SvH} {s s' : Sv} {v : Value} (l : Lst9 w base (some ⟨g, 0, none⟩) c hs ss) (e1 : hs[i]? = some h) (e2 : ss[i]? = some s) (hj : j < 9) (hv : (svV h s').toList = (svV h s).toList.set j v) (hown : ∀ w'', SvOwn w'' base h s → SvOwn w'' base h s') :
    Lst9 (w.setCell ⟨g, i * 9 + j, none⟩ v) base (some ⟨g, 0, none⟩) c hs (ss.set i s') := by
  have hst := World.ownsRow.stored l.top (i * 9 + j) v
  have hg := grown_setCell w ⟨g, i * 9 + j, none⟩ v
  refine ⟨?_, by rw [List.length_set]; exact l.len, fun k h1 s1 q1 q2 => ?_, l.sep⟩
  · rw [rowsC_set hj hv e1 e2, List.length_set]; exact hst.1
  · by_cases hk : k = i
    · subst hk
      rw [e1] at q1
      have hlt := (List.getElem?_eq_some_iff.1 e2).1
      rw [List.getElem?_set_self hlt] at q2
      simp only [Option.some.injEq] at q1 q2
      subst q1 q2
      obtain ⟨o, sp⟩ := l.own k _ _ e1 e2
      exact ⟨hown _ (o.kept hg (l.offTop e1)), sp⟩
    · rw [List.getElem?_set_ne (by omega)] at q2
      obtain ⟨o, sp⟩ := l.own k _ _ q1 q2
      exact ⟨o.kept hg (l.offTop q1), sp⟩
theorem Lst9.setS {i : Nat} {h : SvH} {s s' : Sv} {ad : Option Addr} (l : Lst9 w base a c hs ss) (e1 : hs[i]? = some h) (e2 : ss[i]? = some s) (had : ad ∈ h.ads) (hg : w.grownBy w' (ad.map (·.block))) (hv : svV h s' = svV h s) (hown : SvOwn w' base h s') :
    Lst9 w' base a c hs (ss.set i s') := by
  refine ⟨?_, by rw [List.length_set]; exact l.len, fun k h1 s1 q1 q2 => ?_, l.sep⟩
  · rw [rowsC_same hv e1 e2, List.length_set]
    refine l.top.kept hg ?_
    cases ha : a with
    | none => exact .inl rfl
    | some p =>
      right
      show some p.block ≠ _
      intro he
      cases hd : ad with
      | none => rw [hd] at he; simp at he
      | some q =>
        have := l.offTop e1 ad had q hd
        rw [ha] at this
        rw [hd] at he
        simp at he this
        exact this he.symm
  · by_cases hk : k = i
    · subst hk
      rw [e1] at q1
      have hlt := (List.getElem?_eq_some_iff.1 e2).1
      rw [List.getElem?_set_self hlt] at q2
      simp only [Option.some.injEq] at q1 q2
      subst q1 q2
      exact ⟨hown, (l.own k _ _ e1 e2).2⟩
    · rw [List.getElem?_set_ne (by omega)] at q2
      obtain ⟨o, sp⟩ := l.own k _ _ q1 q2
      refine ⟨o.kept hg (fun a' ha' p hp he => ?_), sp⟩
      cases hd : ad with
      | none => rw [hd] at he; simp at he
      | some q =>
        rw [hd] at he
        simp at he
        exact l.sep k i _ _ hk q1 e1 a' ha' ad had p q hp hd he
theorem Lst9.put4 {g i : Nat} {h : SvH} {s : Sv} (l : Lst9 w base (some ⟨g, 0, none⟩) c hs ss) (e1 : hs[i]? = some h) (e2 : ss[i]? = some s) {nm : ByteArray} (hnm : nm.size ≤ 9223372036854775807) (W D S : Int) :
    Lst9 ((((w.setCell ⟨g, i * 9, none⟩ (.string nm)).setCell ⟨g, i * 9 + 1, none⟩ (.int .i64 W)).setCell ⟨g, i * 9 + 2, none⟩ (.int .i64 D)).setCell ⟨g, i * 9 + 3, none⟩ (.int .i64 S)) base (some ⟨g, 0, none⟩) c hs (ss.set i { s with nm := nm, W := W, D := D, S := S }) := by
  have hlt := (List.getElem?_eq_some_iff.1 e2).1
  have l1 := l.setF (j := 0) (s' := { s with nm := nm }) (v := .string nm) e1 e2 (by omega) rfl (fun w'' o => ⟨hnm, o.cs, o.ks, o.ts, o.es⟩)
  have l2 := l1.setF (j := 1) (s' := { s with nm := nm, W := W }) (v := .int .i64 W) e1 (List.getElem?_set_self hlt) (by omega) rfl (fun w'' o => ⟨hnm, o.cs, o.ks, o.ts, o.es⟩)
  rw [List.set_set] at l2
  have l3 := l2.setF (j := 2) (s' := { s with nm := nm, W := W, D := D }) (v := .int .i64 D) e1 (List.getElem?_set_self hlt) (by omega) rfl (fun w'' o => ⟨hnm, o.cs, o.ks, o.ts, o.es⟩)
  rw [List.set_set] at l3
  have l4 := l3.setF (j := 3) (s' := { s with nm := nm, W := W, D := D, S := S }) (v := .int .i64 S) e1 (List.getElem?_set_self hlt) (by omega) rfl (fun w'' o => ⟨hnm, o.cs, o.ks, o.ts, o.es⟩)
  rw [List.set_set] at l4
  exact l4
theorem Lst9.putR {g i : Nat} {h : SvH} {s : Sv} (l : Lst9 w base (some ⟨g, 0, none⟩) c hs ss) (e1 : hs[i]? = some h) (e2 : ss[i]? = some s) (R : Int) :
    Lst9 (w.setCell ⟨g, i * 9 + 5, none⟩ (.int .i64 R)) base (some ⟨g, 0, none⟩) c hs (ss.set i { s with R := R }) :=
  l.setF (j := 5) (s' := { s with R := R }) (v := .int .i64 R) e1 e2 (by omega) rfl (fun w'' o => ⟨o.nm, o.cs, o.ks, o.ts, o.es⟩)
end
theorem SvOwn.markC {w w' : World} {base : Nat} {h : SvH} {s : Sv} {ys : List Int} (o : SvOwn w base h s) (sp : SvSep h) (hm : Own (Value.int .i64) 2 w' base h.a0 h.c0 ys) (hg : w.grownBy w' (h.a0.map (·.block))) : SvOwn w' base h { s with cs := ys } :=
  ⟨o.nm, hm, o.ks.keptS hg sp.s01.symm, o.ts.keptS hg sp.s02.symm, o.es.keptS hg sp.s03.symm⟩
theorem SvOwn.markK {w w' : World} {base : Nat} {h : SvH} {s : Sv} {ys : List Int} (o : SvOwn w base h s) (sp : SvSep h) (hm : Own (Value.int .i64) 2 w' base h.a1 h.c1 ys) (hg : w.grownBy w' (h.a1.map (·.block))) : SvOwn w' base h { s with ks := ys } :=
  ⟨o.nm, o.cs.keptS hg sp.s01, hm, o.ts.keptS hg sp.s12.symm, o.es.keptS hg sp.s13.symm⟩
theorem SvOwn.markT {w w' : World} {base : Nat} {h : SvH} {s : Sv} {ys : List Int} (o : SvOwn w base h s) (sp : SvSep h) (hm : Own (Value.int .i64) 2 w' base h.a2 h.c2 ys) (hg : w.grownBy w' (h.a2.map (·.block))) : SvOwn w' base h { s with ts := ys } :=
  ⟨o.nm, o.cs.keptS hg sp.s02, o.ks.keptS hg sp.s12, hm, o.es.keptS hg sp.s23.symm⟩
theorem SvOwn.markE {w w' : World} {base : Nat} {h : SvH} {s : Sv} {ys : List Int} (o : SvOwn w base h s) (sp : SvSep h) (hm : Own (Value.int .i64) 2 w' base h.a3 h.c3 ys) (hg : w.grownBy w' (h.a3.map (·.block))) : SvOwn w' base h { s with es := ys } :=
  ⟨o.nm, o.cs.keptS hg sp.s03, o.ks.keptS hg sp.s13, o.ts.keptS hg sp.s23, hm⟩

section
variable {w w' : World} {base i : Nat} {a : Option Addr} {c : Nat} {hs : List SvH} {L : List Sv} {h : SvH} {x : Sv} {ys : List Int}
theorem Lst9.stepC (l : Lst9 w base a c hs L) (e1 : hs[i]? = some h) (e2 : L[i]? = some x) (hm : Own (Value.int .i64) 2 w' base h.a0 h.c0 ys) (hy : ys.length = x.cs.length) (hg : w.grownBy w' (h.a0.map (·.block))) : Lst9 w' base a c hs (L.set i { x with cs := ys }) :=
  l.setS e1 e2 (by simp [SvH.ads]) hg (by unfold svV; show (#[_, _, _, _, Value.slice h.a0 ys.length h.c0, _, _, _, _] : Array Value) = _; rw [hy]) ((l.own i _ _ e1 e2).1.markC (l.own i _ _ e1 e2).2 hm hg)
theorem Lst9.stepK (l : Lst9 w base a c hs L) (e1 : hs[i]? = some h) (e2 : L[i]? = some x) (hm : Own (Value.int .i64) 2 w' base h.a1 h.c1 ys) (hy : ys.length = x.ks.length) (hg : w.grownBy w' (h.a1.map (·.block))) : Lst9 w' base a c hs (L.set i { x with ks := ys }) :=
  l.setS e1 e2 (by simp [SvH.ads]) hg (by unfold svV; show (#[_, _, _, _, _, _, Value.slice h.a1 ys.length h.c1, _, _] : Array Value) = _; rw [hy]) ((l.own i _ _ e1 e2).1.markK (l.own i _ _ e1 e2).2 hm hg)
theorem Lst9.stepT (l : Lst9 w base a c hs L) (e1 : hs[i]? = some h) (e2 : L[i]? = some x) (hm : Own (Value.int .i64) 2 w' base h.a2 h.c2 ys) (hy : ys.length = x.ts.length) (hg : w.grownBy w' (h.a2.map (·.block))) : Lst9 w' base a c hs (L.set i { x with ts := ys }) :=
  l.setS e1 e2 (by simp [SvH.ads]) hg (by unfold svV; show (#[_, _, _, _, _, _, _, Value.slice h.a2 ys.length h.c2, _] : Array Value) = _; rw [hy]) ((l.own i _ _ e1 e2).1.markT (l.own i _ _ e1 e2).2 hm hg)
theorem Lst9.stepE (l : Lst9 w base a c hs L) (e1 : hs[i]? = some h) (e2 : L[i]? = some x) (hm : Own (Value.int .i64) 2 w' base h.a3 h.c3 ys) (hy : ys.length = x.es.length) (hg : w.grownBy w' (h.a3.map (·.block))) : Lst9 w' base a c hs (L.set i { x with es := ys }) :=
  l.setS e1 e2 (by simp [SvH.ads]) hg (by unfold svV; show (#[_, _, _, _, _, _, _, _, Value.slice h.a3 ys.length h.c3] : Array Value) = _; rw [hy]) ((l.own i _ _ e1 e2).1.markE (l.own i _ _ e1 e2).2 hm hg)
theorem set_self_of {y : Sv} (h : L[i]? = some y) : L.set i y = L := by
  obtain ⟨hlt, e⟩ := List.getElem?_eq_some_iff.1 h
  rw [← e]; exact List.set_getElem_self hlt
theorem setPack {y z : Sv} {M : List Sv} (e2 : L[i]? = some x) (hs : L.set i z = M) : (L.set i y)[i]? = some y ∧ (L.set i y).set i z = M := by
  have hlt := (List.getElem?_eq_some_iff.1 e2).1
  exact ⟨List.getElem?_set_self hlt, by rw [List.set_set]; exact hs⟩
theorem Lst9.belowOf (l : Lst9 w base a c hs L) (e1 : hs[i]? = some h) (e2 : L[i]? = some x) {ad : Option Addr} (had : ad ∈ h.ads) (hg : w.grownBy w' (ad.map (·.block))) (hb : base ≤ w.heap.size) : Below base w w' :=
  ⟨hg.os, hg.tape, hg.output, hg.size, fun k hk => hg.block k (by omega) (by
    intro he
    cases hd : ad with
    | none => rw [hd] at he; simp at he
    | some q =>
      have := ((l.own i _ _ e1 e2).1.lt ad had q hd).1
      rw [hd] at he; simp at he; omega)⟩
end

theorem ldS_len (s : ByteArray) : (ldS s).cs.length ≤ 65025 ∧ (ldS s).ks.length ≤ 255 ∧ (ldS s).ts.length ≤ 255 ∧ (ldS s).es.length ≤ 255 := by
  have h := ldE_bd s
  refine ⟨?_, ?_, ?_, ?_⟩
  · show (nums4 _ _ _ _).length ≤ _; rw [nums4_len]; exact h.1
  · show (nums4 _ _ _ _).length ≤ _; rw [nums4_len]; exact h.2.1
  · show (nums4 _ _ _ _).length ≤ _; rw [nums4_len]; exact h.2.1
  · show (nums4 _ _ _ _).length ≤ _; rw [nums4_len]; exact h.2.1
theorem raGo_bd : ∀ (f : Nat) (s : ByteArray), (raGo f s).1.length ≤ f ∧ fsum (raGo f s).1 ≤ f * 65795
  | 0, s => by simp [raGo, fsum]
  | f + 1, s => by
    cases hk : ldOk s with
    | false => rw [raGo_no hk]; simp [fsum]
    | true =>
      rw [raGo_yes hk]
      obtain ⟨h1, h2⟩ := raGo_bd f (s.extract (ldE s) s.size)
      obtain ⟨k1, k2, k3, k4⟩ := ldS_len s
      refine ⟨by simp; omega, ?_⟩
      show fsz (ldS s) + fsum _ ≤ _
      unfold fsz; omega
theorem raL_len (s : ByteArray) : (raL s).length ≤ 8 := (raGo_bd 8 s).1
theorem raL_sum (s : ByteArray) : fsum (raL s) ≤ 526360 := (raGo_bd 8 s).2

end Go.Proofs.Ytdpolaedfjljmaa
