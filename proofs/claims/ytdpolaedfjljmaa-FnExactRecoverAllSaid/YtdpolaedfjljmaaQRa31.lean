/- Marks on a list of saved ones: plain. markSavedS, heldSavedS. -/
import Derived.Test.YtdpolaedfjljmaaQRa27
import Derived.Test.YtdpolaedfjljmaaQRa24
import Derived.Test.YtdpolaedfjljmaaQRa4
import Derived.Deep.DrawnRows
namespace Go.Proofs.Ytdpolaedfjljmaa
open Go.RowKit

/-- A saved one all of whose fields are marked. -/
def fmk (k : Nat) (x : Sv) : Sv where
  nm := mkT k
  W := ((k + 1 : Nat) : Int)
  D := ((k + 2 : Nat) : Int)
  S := ((k + 3 : Nat) : Int)
  cs := marks intM (k + 4) x.cs.length
  R := ((k + 4 + x.cs.length : Nat) : Int)
  ks := marks intM (k + 5 + x.cs.length) x.ks.length
  ts := marks intM (k + 5 + x.cs.length + x.ks.length) x.ts.length
  es := marks intM (k + 5 + x.cs.length + x.ks.length + x.ts.length) x.es.length
def fsz (x : Sv) : Nat := 5 + x.cs.length + x.ks.length + x.ts.length + x.es.length
def fmks : Nat → List Sv → List Sv
  | _, [] => []
  | k, x :: xs => fmk k x :: fmks (k + fsz x) xs
def fsum : List Sv → Nat
  | [] => 0
  | x :: xs => fsz x + fsum xs
theorem fmks_len : ∀ (k : Nat) (xs : List Sv), (fmks k xs).length = xs.length
  | _, [] => rfl
  | k, x :: xs => by show (fmks (k + fsz x) xs).length + 1 = _; rw [fmks_len]; rfl
theorem fmks_get : ∀ {k : Nat} {xs : List Sv} {i : Nat} {x : Sv}, xs[i]? = some x → (fmks k xs)[i]? = some (fmk (k + fsum (xs.take i)) x)
  | k, x0 :: xs, 0, x, h => by simp at h; subst h; simp [fmks, fsum]
  | k, x0 :: xs, i + 1, x, h => by
    have h' : xs[i]? = some x := by simpa using h
    show (fmks (k + fsz x0) xs)[i]? = _
    rw [fmks_get h']
    show _ = some (fmk (k + (fsz x0 + fsum (xs.take i))) x)
    rw [Nat.add_assoc]
  | _, [], _, _, h => by simp at h
theorem fsum_succ : ∀ {xs : List Sv} {i : Nat} {x : Sv}, xs[i]? = some x → fsum (xs.take (i + 1)) = fsum (xs.take i) + fsz x
  | x0 :: xs, 0, x, h => by simp at h; subst h; simp [fsum]
  | x0 :: xs, i + 1, x, h => by
    have h' : xs[i]? = some x := by simpa using h
    show fsz x0 + fsum (xs.take (i + 1)) = fsz x0 + fsum (xs.take i) + fsz x
    rw [fsum_succ h']; omega
  | [], _, _, h => by simp at h
theorem fsum_le : ∀ (xs : List Sv) (i : Nat), fsum (xs.take i) ≤ fsum xs
  | [], i => by simp
  | x :: xs, 0 => by simp [fsum]
  | x :: xs, i + 1 => by
    show fsz x + fsum (xs.take i) ≤ fsz x + fsum xs
    have := fsum_le xs i; omega
/-- The list with its first i rows marked. -/
def mkAt (k : Nat) (xs : List Sv) (i : Nat) : List Sv := (fmks k xs).take i ++ xs.drop i
theorem mkAt_zero (k : Nat) (xs : List Sv) : mkAt k xs 0 = xs := by simp [mkAt]
theorem mkAt_all (k : Nat) (xs : List Sv) : mkAt k xs xs.length = fmks k xs := by
  unfold mkAt; rw [List.take_of_length_le (by rw [fmks_len]; exact Nat.le_refl _), List.drop_length, List.append_nil]
theorem mkAt_len (k : Nat) (xs : List Sv) (i : Nat) : (mkAt k xs i).length = xs.length := by
  unfold mkAt; rw [List.length_append, List.length_take, List.length_drop, fmks_len]; omega
theorem mkAt_get {k : Nat} {xs : List Sv} {i : Nat} {x : Sv} (h : xs[i]? = some x) : (mkAt k xs i)[i]? = some x := by
  have hi := (List.getElem?_eq_some_iff.1 h).1
  unfold mkAt
  rw [List.getElem?_append_right (by rw [List.length_take]; omega), List.length_take, fmks_len, List.getElem?_drop]
  have e : i + (i - min i xs.length) = i := by omega
  rw [e]; exact h
theorem mkAt_set {k : Nat} {xs : List Sv} {i : Nat} {x : Sv} (h : xs[i]? = some x) : (mkAt k xs i).set i (fmk (k + fsum (xs.take i)) x) = mkAt k xs (i + 1) := by
  have hi := (List.getElem?_eq_some_iff.1 h).1
  unfold mkAt
  rw [List.set_append_right _ _ (by rw [List.length_take]; omega), List.length_take, fmks_len]
  have e : i - min i xs.length = 0 := by omega
  rw [e, List.take_add_one, fmks_get h]
  have ed : xs.drop i = x :: xs.drop (i + 1) := by
    rw [List.drop_eq_getElem_cons hi]
    have := (List.getElem?_eq_some_iff.1 h).2
    rw [this]
  rw [ed]
  simp

section
variable {w w' : World} {base : Nat} {a : Option Addr} {c : Nat} {hs : List SvH} {ss : List Sv}
theorem Lst9.setF {g i j : Nat} {h : SvH} {s s' : Sv} {v : Value} (l : Lst9 w base (some ⟨g, 0, none⟩) c hs ss) (e1 : hs[i]? = some h) (e2 : ss[i]? = some s) (hj : j < 9) (hv : (svV h s').toList = (svV h s).toList.set j v) (hown : ∀ w'', SvOwn w'' base h s → SvOwn w'' base h s') :
    Lst9 (w.setCell ⟨g, i * 9 + j, none⟩ v) base (some ⟨g, 0, none⟩) c hs (ss.set i s') := by
  have hst := World.ownsRow.stored l.top (i * 9 + j) v
  have hg := grown_setCell w ⟨g, i * 9 + j, none⟩ v
  refine ⟨?_, by rw [List.length_set]; exact l.len, fun k h1 s1 q1 q2 => ?_, l.sep⟩
  · rw [rowsC_set hj hv e1 e2, List.length_set]; exact hst.1
  · by_cases hk : k = i
    · subst hk
      rw [e1] at q1
      have hlt := (List.getElem?_eq_some_iff.1 e2).1
      rw [List.getElem?_set_self hlt] at q2
      simp only [Option.some.injEq] at q1 q2
      subst q1 q2
      obtain ⟨o, sp⟩ := l.own k _ _ e1 e2
      exact ⟨hown _ (o.kept hg (l.offTop e1)), sp⟩
    · rw [List.getElem?_set_ne (by omega)] at q2
      obtain ⟨o, sp⟩ := l.own k _ _ q1 q2
      exact ⟨o.kept hg (l.offTop q1), sp⟩
theorem Lst9.setS {i : Nat} {h : SvH} {s s' : Sv} {ad : Option Addr} (l : Lst9 w base a c hs ss) (e1 : hs[i]? = some h) (e2 : ss[i]? = some s) (had : ad ∈ h.ads) (hg : w.grownBy w' (ad.map (·.block))) (hv : svV h s' = svV h s) (hown : SvOwn w' base h s') :
    Lst9 w' base a c hs (ss.set i s') := by
  refine ⟨?_, by rw [List.length_set]; exact l.len, fun k h1 s1 q1 q2 => ?_, l.sep⟩
  · rw [rowsC_same hv e1 e2, List.length_set]
    refine l.top.kept hg ?_
    cases ha : a with
    | none => exact .inl rfl
    | some p =>
      right
      show some p.block ≠ _
      intro he
      cases hd : ad with
      | none => rw [hd] at he; simp at he
      | some q =>
        have := l.offTop e1 ad had q hd
        rw [ha] at this
        rw [hd] at he
        simp at he this
        exact this he.symm
  · by_cases hk : k = i
    · subst hk
      rw [e1] at q1
      have hlt := (List.getElem?_eq_some_iff.1 e2).1
      rw [List.getElem?_set_self hlt] at q2
      simp only [Option.some.injEq] at q1 q2
      subst q1 q2
      exact ⟨hown, (l.own k _ _ e1 e2).2⟩
    · rw [List.getElem?_set_ne (by omega)] at q2
      obtain ⟨o, sp⟩ := l.own k _ _ q1 q2
      refine ⟨o.kept hg (fun a' ha' p hp he => ?_), sp⟩
      cases hd : ad with
      | none => rw [hd] at he; simp at he
      | some q =>
        rw [hd] at he
        simp at he
        exact l.sep k i _ _ hk q1 e1 a' ha' ad had p q hp hd he
theorem Lst9.put4 {g i : Nat} {h : SvH} {s : Sv} (l : Lst9 w base (some ⟨g, 0, none⟩) c hs ss) (e1 : hs[i]? = some h) (e2 : ss[i]? = some s) {nm : ByteArray} (hnm : nm.size ≤ 9223372036854775807) (W D S : Int) :
    Lst9 ((((w.setCell ⟨g, i * 9, none⟩ (.string nm)).setCell ⟨g, i * 9 + 1, none⟩ (.int .i64 W)).setCell ⟨g, i * 9 + 2, none⟩ (.int .i64 D)).setCell ⟨g, i * 9 + 3, none⟩ (.int .i64 S)) base (some ⟨g, 0, none⟩) c hs (ss.set i { s with nm := nm, W := W, D := D, S := S }) := by
  have hlt := (List.getElem?_eq_some_iff.1 e2).1
  have l1 := l.setF (j := 0) (s' := { s with nm := nm }) (v := .string nm) e1 e2 (by omega) rfl (fun w'' o => ⟨hnm, o.cs, o.ks, o.ts, o.es⟩)
  have l2 := l1.setF (j := 1) (s' := { s with nm := nm, W := W }) (v := .int .i64 W) e1 (List.getElem?_set_self hlt) (by omega) rfl (fun w'' o => ⟨hnm, o.cs, o.ks, o.ts, o.es⟩)
  rw [List.set_set] at l2
  have l3 := l2.setF (j := 2) (s' := { s with nm := nm, W := W, D := D }) (v := .int .i64 D) e1 (List.getElem?_set_self hlt) (by omega) rfl (fun w'' o => ⟨hnm, o.cs, o.ks, o.ts, o.es⟩)
  rw [List.set_set] at l3
  have l4 := l3.setF (j := 3) (s' := { s with nm := nm, W := W, D := D, S := S }) (v := .int .i64 S) e1 (List.getElem?_set_self hlt) (by omega) rfl (fun w'' o => ⟨hnm, o.cs, o.ks, o.ts, o.es⟩)
  rw [List.set_set] at l4
  exact l4
theorem Lst9.putR {g i : Nat} {h : SvH} {s : Sv} (l : Lst9 w base (some ⟨g, 0, none⟩) c hs ss) (e1 : hs[i]? = some h) (e2 : ss[i]? = some s) (R : Int) :
    Lst9 (w.setCell ⟨g, i * 9 + 5, none⟩ (.int .i64 R)) base (some ⟨g, 0, none⟩) c hs (ss.set i { s with R := R }) :=
  l.setF (j := 5) (s' := { s with R := R }) (v := .int .i64 R) e1 e2 (by omega) rfl (fun w'' o => ⟨o.nm, o.cs, o.ks, o.ts, o.es⟩)
end
theorem SvOwn.markC {w w' : World} {base : Nat} {h : SvH} {s : Sv} {ys : List Int} (o : SvOwn w base h s) (sp : SvSep h) (hm : Own (Value.int .i64) 2 w' base h.a0 h.c0 ys) (hg : w.grownBy w' (h.a0.map (·.block))) : SvOwn w' base h { s with cs := ys } :=
  ⟨o.nm, hm, o.ks.keptS hg sp.s01.symm, o.ts.keptS hg sp.s02.symm, o.es.keptS hg sp.s03.symm⟩
theorem SvOwn.markK {w w' : World} {base : Nat} {h : SvH} {s : Sv} {ys : List Int} (o : SvOwn w base h s) (sp : SvSep h) (hm : Own (Value.int .i64) 2 w' base h.a1 h.c1 ys) (hg : w.grownBy w' (h.a1.map (·.block))) : SvOwn w' base h { s with ks := ys } :=
  ⟨o.nm, o.cs.keptS hg sp.s01, hm, o.ts.keptS hg sp.s12.symm, o.es.keptS hg sp.s13.symm⟩
theorem SvOwn.markT {w w' : World} {base : Nat} {h : SvH} {s : Sv} {ys : List Int} (o : SvOwn w base h s) (sp : SvSep h) (hm : Own (Value.int .i64) 2 w' base h.a2 h.c2 ys) (hg : w.grownBy w' (h.a2.map (·.block))) : SvOwn w' base h { s with ts := ys } :=
  ⟨o.nm, o.cs.keptS hg sp.s02, o.ks.keptS hg sp.s12, hm, o.es.keptS hg sp.s23.symm⟩
theorem SvOwn.markE {w w' : World} {base : Nat} {h : SvH} {s : Sv} {ys : List Int} (o : SvOwn w base h s) (sp : SvSep h) (hm : Own (Value.int .i64) 2 w' base h.a3 h.c3 ys) (hg : w.grownBy w' (h.a3.map (·.block))) : SvOwn w' base h { s with es := ys } :=
  ⟨o.nm, o.cs.keptS hg sp.s03, o.ks.keptS hg sp.s13, o.ts.keptS hg sp.s23, hm⟩

section
variable {w w' : World} {base i : Nat} {a : Option Addr} {c : Nat} {hs : List SvH} {L : List Sv} {h : SvH} {x : Sv} {ys : List Int}
theorem Lst9.stepC (l : Lst9 w base a c hs L) (e1 : hs[i]? = some h) (e2 : L[i]? = some x) (hm : Own (Value.int .i64) 2 w' base h.a0 h.c0 ys) (hy : ys.length = x.cs.length) (hg : w.grownBy w' (h.a0.map (·.block))) : Lst9 w' base a c hs (L.set i { x with cs := ys }) :=
  l.setS e1 e2 (by simp [SvH.ads]) hg (by unfold svV; show (#[_, _, _, _, Value.slice h.a0 ys.length h.c0, _, _, _, _] : Array Value) = _; rw [hy]) ((l.own i _ _ e1 e2).1.markC (l.own i _ _ e1 e2).2 hm hg)
theorem Lst9.stepK (l : Lst9 w base a c hs L) (e1 : hs[i]? = some h) (e2 : L[i]? = some x) (hm : Own (Value.int .i64) 2 w' base h.a1 h.c1 ys) (hy : ys.length = x.ks.length) (hg : w.grownBy w' (h.a1.map (·.block))) : Lst9 w' base a c hs (L.set i { x with ks := ys }) :=
  l.setS e1 e2 (by simp [SvH.ads]) hg (by unfold svV; show (#[_, _, _, _, _, _, Value.slice h.a1 ys.length h.c1, _, _] : Array Value) = _; rw [hy]) ((l.own i _ _ e1 e2).1.markK (l.own i _ _ e1 e2).2 hm hg)
theorem Lst9.stepT (l : Lst9 w base a c hs L) (e1 : hs[i]? = some h) (e2 : L[i]? = some x) (hm : Own (Value.int .i64) 2 w' base h.a2 h.c2 ys) (hy : ys.length = x.ts.length) (hg : w.grownBy w' (h.a2.map (·.block))) : Lst9 w' base a c hs (L.set i { x with ts := ys }) :=
  l.setS e1 e2 (by simp [SvH.ads]) hg (by unfold svV; show (#[_, _, _, _, _, _, _, Value.slice h.a2 ys.length h.c2, _] : Array Value) = _; rw [hy]) ((l.own i _ _ e1 e2).1.markT (l.own i _ _ e1 e2).2 hm hg)
theorem Lst9.stepE (l : Lst9 w base a c hs L) (e1 : hs[i]? = some h) (e2 : L[i]? = some x) (hm : Own (Value.int .i64) 2 w' base h.a3 h.c3 ys) (hy : ys.length = x.es.length) (hg : w.grownBy w' (h.a3.map (·.block))) : Lst9 w' base a c hs (L.set i { x with es := ys }) :=
  l.setS e1 e2 (by simp [SvH.ads]) hg (by unfold svV; show (#[_, _, _, _, _, _, _, _, Value.slice h.a3 ys.length h.c3] : Array Value) = _; rw [hy]) ((l.own i _ _ e1 e2).1.markE (l.own i _ _ e1 e2).2 hm hg)
theorem set_self_of {y : Sv} (h : L[i]? = some y) : L.set i y = L := by
  obtain ⟨hlt, e⟩ := List.getElem?_eq_some_iff.1 h
  rw [← e]; exact List.set_getElem_self hlt
theorem setPack {y z : Sv} {M : List Sv} (e2 : L[i]? = some x) (hs : L.set i z = M) : (L.set i y)[i]? = some y ∧ (L.set i y).set i z = M := by
  have hlt := (List.getElem?_eq_some_iff.1 e2).1
  exact ⟨List.getElem?_set_self hlt, by rw [List.set_set]; exact hs⟩
theorem Lst9.belowOf (l : Lst9 w base a c hs L) (e1 : hs[i]? = some h) (e2 : L[i]? = some x) {ad : Option Addr} (had : ad ∈ h.ads) (hg : w.grownBy w' (ad.map (·.block))) (hb : base ≤ w.heap.size) : Below base w w' :=
  ⟨hg.os, hg.tape, hg.output, hg.size, fun k hk => hg.block k (by omega) (by
    intro he
    cases hd : ad with
    | none => rw [hd] at he; simp at he
    | some q =>
      have := ((l.own i _ _ e1 e2).1.lt ad had q hd).1
      rw [hd] at he; simp at he; omega)⟩
end

theorem ldS_len (s : ByteArray) : (ldS s).cs.length ≤ 65025 ∧ (ldS s).ks.length ≤ 255 ∧ (ldS s).ts.length ≤ 255 ∧ (ldS s).es.length ≤ 255 := by
  have h := ldE_bd s
  refine ⟨?_, ?_, ?_, ?_⟩
  · show (nums4 _ _ _ _).length ≤ _; rw [nums4_len]; exact h.1
  · show (nums4 _ _ _ _).length ≤ _; rw [nums4_len]; exact h.2.1
  · show (nums4 _ _ _ _).length ≤ _; rw [nums4_len]; exact h.2.1
  · show (nums4 _ _ _ _).length ≤ _; rw [nums4_len]; exact h.2.1
theorem raGo_bd : ∀ (f : Nat) (s : ByteArray), (raGo f s).1.length ≤ f ∧ fsum (raGo f s).1 ≤ f * 65795
  | 0, s => by simp [raGo, fsum]
  | f + 1, s => by
    cases hk : ldOk s with
    | false => rw [raGo_no hk]; simp [fsum]
    | true =>
      rw [raGo_yes hk]
      obtain ⟨h1, h2⟩ := raGo_bd f (s.extract (ldE s) s.size)
      obtain ⟨k1, k2, k3, k4⟩ := ldS_len s
      refine ⟨by simp; omega, ?_⟩
      show fsz (ldS s) + fsum _ ≤ _
      unfold fsz; omega
theorem raL_len (s : ByteArray) : (raL s).length ≤ 8 := (raGo_bd 8 s).1
theorem raL_sum (s : ByteArray) : fsum (raL s) ≤ 526360 := (raGo_bd 8 s).2

end Go.Proofs.Ytdpolaedfjljmaa

namespace Go.Proofs.Ytdpolaedfjljmaa
open Go.RowKit
attribute [local go_sem ↓] Go.wp_at_zero Go.wp_at_succ

theorem mkT_ok {n : Nat} (h0 : 1 ≤ n) (h1 : n ≤ 4611686018427387904) : (mkT n).size ≤ 9223372036854775807 := by
  have h3 := decT_size (n := (n : Int)) (by omega) (by omega)
  unfold mkT
  rw [ByteArray.size_append]
  have e : (⟨#[109]⟩ : ByteArray).size = 1 := rfl
  omega

set_option maxRecDepth 20000 in
set_option maxHeartbeats 4000000 in
theorem markSavedS_any {a : Option Addr} {c : Nat} {hs : List SvH} {ss : List Sv} {base k0 : Nat} {w : World} (l : Lst9 w base a c hs ss) (hb : base ≤ w.heap.size) (hl : ss.length ≤ 1048576) (h1 : 1 ≤ k0) (hk : k0 + fsum ss ≤ 4611686018427387904) :
    Calls Try.prog 19 #[.slice a ss.length c, .int .i64 k0] w fun e w' => e = .returned (.int .i64 ((k0 + fsum ss : Nat) : Int)) ∧ Lst9 w' base a c hs (fmks k0 ss) ∧ Below base w w' := by
  have HL := Lib.hid l
  clear l
  go_enter Try.func19, Try.ntmps19
  go_wp2
  go_loopw [1, 5] (fun ki ii wr => ∃ i : Nat, i ≤ ss.length ∧ ii = .int .i64 (i : Int) ∧ ki = .int .i64 ((k0 + fsum (ss.take i) : Nat) : Int) ∧ Hid (Lst9 wr base a c hs (mkAt k0 ss i)) ∧ Hid (Below base w wr)) (fun _ ii _ => ss.length - (intOf ii).toNat)
  case atStart => exact ⟨0, Nat.zero_le _, rfl, by simp [fsum], by rw [mkAt_zero]; exact HL, Lib.hid (Below.refl _ _)⟩
  case round =>
    obtain ⟨i, hi, rfl, rfl, HI, HB⟩ := hrel
    clear HL
    by_cases hlt : i < ss.length
    · have hltz : (i : Int) < (ss.length : Int) := by omega
      have ewi : IntKind.i64.wrap ((i : Int) + 1) = (i : Int) + 1 := IntWalk.i64_in _ (by omega)
      obtain ⟨x, hx⟩ : ∃ x, ss[i]? = some x := ⟨ss[i], List.getElem?_eq_getElem hlt⟩
      obtain ⟨hd, hh⟩ : ∃ hd, hs[i]? = some hd := ⟨hs[i]'(by have := HI.out.len; rw [mkAt_len] at this; omega), List.getElem?_eq_getElem _⟩
      have hsu := fsum_succ hx
      have hle := fsum_le ss (i + 1)
      obtain ⟨n, hn⟩ : ∃ n, k0 + fsum (ss.take i) = n := ⟨_, rfl⟩
      have hnn : n + fsz x ≤ 4611686018427387904 := by omega
      have hn1 : 1 ≤ n := by omega
      have HX := Lib.hid (mkAt_get (k := k0) hx)
      have HS := Lib.hid (mkAt_set (k := k0) hx)
      rw [hn] at HS ⊢
      have HH := Lib.hid hh
      have HN := Lib.hid (show k0 + fsum (ss.take (i + 1)) = n + fsz x by omega)
      clear hx hh hsu hle hn
      have hnl := mkAt_len k0 ss i
      obtain ⟨g, rfl⟩ : ∃ g, a = some ⟨g, 0, none⟩ := by
        rcases HI.out.shape with ⟨_, _, e⟩ | ⟨g, e, _⟩
        · rw [e] at hnl; simp at hnl; omega
        · exact ⟨g, e⟩
      have hix := idx9 (b := g) (o := 0) (n := ss.length) (c := c) und_svi siz_svi
      simp only [Nat.zero_add] at hix
      go_wp2_with fail
      refine (markText_any hn1 (by unfold fsz at hnn; omega)).mono ?_
      rintro e w1 ⟨rfl, hb1⟩
      have HI1 := Lib.hid (HI.out.below hb1 (Nat.le_refl _))
      have HB1 := Lib.hid (HB.out.trans (hb1.mono (Nat.le_trans hb HB.out.size)))
      clear hb1 HI HB
      have c0 : w1.cell? ⟨g, i * 9, none⟩ = some (.string x.nm) := HI1.out.cell rfl (i := i) (j := 0) (by omega) HH.out HX.out
      have c1 : w1.cell? ⟨g, i * 9 + 1, none⟩ = some (.int .i64 x.W) := HI1.out.cell rfl (i := i) (j := 1) (by omega) HH.out HX.out
      have c2 : w1.cell? ⟨g, i * 9 + 2, none⟩ = some (.int .i64 x.D) := HI1.out.cell rfl (i := i) (j := 2) (by omega) HH.out HX.out
      have c3 : w1.cell? ⟨g, i * 9 + 3, none⟩ = some (.int .i64 x.S) := HI1.out.cell rfl (i := i) (j := 3) (by omega) HH.out HX.out
      have c4 : w1.cell? ⟨g, i * 9 + 4, none⟩ = some (.slice hd.a0 x.cs.length hd.c0) := HI1.out.cell rfl (i := i) (j := 4) (by omega) HH.out HX.out
      have hfr := HI1.out.free rfl
      go_wp2_with fail
      obtain ⟨w2, hw2⟩ : ∃ z, (((w1.setCell ⟨g, i * 9, none⟩ (.string (mkT n))).setCell ⟨g, i * 9 + 1, none⟩ (.int .i64 ((n : Int) + 1))).setCell ⟨g, i * 9 + 1 + 1, none⟩ (.int .i64 ((n : Int) + 1 + 1))).setCell ⟨g, i * 9 + 1 + 2, none⟩ (.int .i64 ((n : Int) + 1 + 1 + 1)) = z := ⟨_, rfl⟩
      have HL2 := Lib.hid (HI1.out.put4 HH.out HX.out (mkT_ok hn1 (by unfold fsz at hnn; omega)) ((n : Int) + 1) ((n : Int) + 1 + 1) ((n : Int) + 1 + 1 + 1))
      have HB2 := Lib.hid ((((HB1.out.setCell (p := ⟨g, i * 9, none⟩) (HI1.out.blk _ rfl).1 (.string (mkT n))).setCell (p := ⟨g, i * 9 + 1, none⟩) (HI1.out.blk _ rfl).1 (.int .i64 ((n : Int) + 1))).setCell (p := ⟨g, i * 9 + 1 + 1, none⟩) (HI1.out.blk _ rfl).1 (.int .i64 ((n : Int) + 1 + 1))).setCell (p := ⟨g, i * 9 + 1 + 2, none⟩) (HI1.out.blk _ rfl).1 (.int .i64 ((n : Int) + 1 + 1 + 1)))
      rw [hw2] at HB2 ⊢
      change Hid (Lst9 ((((w1.setCell ⟨g, i * 9, none⟩ (.string (mkT n))).setCell ⟨g, i * 9 + 1, none⟩ (.int .i64 ((n : Int) + 1))).setCell ⟨g, i * 9 + 1 + 1, none⟩ (.int .i64 ((n : Int) + 1 + 1))).setCell ⟨g, i * 9 + 1 + 2, none⟩ (.int .i64 ((n : Int) + 1 + 1 + 1))) _ _ _ _ _) at HL2
      rw [hw2] at HL2
      clear hw2 c0 c1 c2 c3 c4 hfr HI1 HB1
      have hnu : n + 5 + x.cs.length + x.ks.length + x.ts.length + x.es.length ≤ 4611686018427387904 := by unfold fsz at hnn; omega
      have HXa := HX
      have HSa := HS
      clear HX HS
      obtain ⟨hx2, hs2⟩ := setPack (y := { x with nm := mkT n, W := (n : Int) + 1, D := (n : Int) + 1 + 1, S := (n : Int) + 1 + 1 + 1 }) HXa.out HSa.out
      have HX2 := Lib.hid hx2
      have HS2 := Lib.hid hs2
      clear hx2 hs2 HXa HSa
      generalize (mkAt k0 ss i).set i { x with nm := mkT n, W := (n : Int) + 1, D := (n : Int) + 1 + 1, S := (n : Int) + 1 + 1 + 1 } = L2 at HL2 HX2 HS2
      have e4 : (n : Int) + 1 + 1 + 1 + 1 = ((n + 4 : Nat) : Int) := by omega
      rw [e4]
      clear e4
      refine (markI_any (k0 := n + 4) (xs := x.cs) (HL2.out.own i _ _ HH.out HX2.out).1.cs (by omega)).mono ?_
      rintro e w3 ⟨rfl, hm, hg⟩
      have hln2 := HL2.out.top.1
      have HB3 := Lib.hid (HB2.out.trans (HL2.out.belowOf HH.out HX2.out (by simp [SvH.ads]) hg (Nat.le_trans hb HB2.out.size)))
      have HL3 := Lib.hid (HL2.out.stepC HH.out HX2.out hm (by rw [marks_length]) hg)
      obtain ⟨hx3, hs3⟩ := setPack (y := { x with nm := mkT n, W := (n : Int) + 1, D := (n : Int) + 1 + 1, S := (n : Int) + 1 + 1 + 1, cs := marks intM (n + 4) x.cs.length }) HX2.out HS2.out
      have HX3 := Lib.hid hx3
      have HS3 := Lib.hid hs3
      change Hid (Lst9 w3 base (some ⟨g, 0, none⟩) c hs (L2.set i { x with nm := mkT n, W := (n : Int) + 1, D := (n : Int) + 1 + 1, S := (n : Int) + 1 + 1 + 1, cs := marks intM (n + 4) x.cs.length })) at HL3
      generalize L2.set i { x with nm := mkT n, W := (n : Int) + 1, D := (n : Int) + 1 + 1, S := (n : Int) + 1 + 1 + 1, cs := marks intM (n + 4) x.cs.length } = L3 at HL3 HX3 HS3
      clear hx3 hs3 hm hg HL2 HX2 HS2 HB2 hln2
      have c5 : w3.cell? ⟨g, i * 9 + 5, none⟩ = some (.int .i64 x.R) := (by have q := HL3.out.cell rfl (i := i) (j := 5) (by omega) HH.out HX3.out; exact q)
      have c6 : w3.cell? ⟨g, i * 9 + 6, none⟩ = some (.slice hd.a1 x.ks.length hd.c1) := (by have q := HL3.out.cell rfl (i := i) (j := 6) (by omega) HH.out HX3.out; exact q)
      have hfr := HL3.out.free rfl
      go_wp2_with fail
      have hbt := (HL3.out.blk _ rfl).1
      have HL4 := Lib.hid (HL3.out.putR HH.out HX3.out ((n : Int) + 4 + (x.cs.length : Int)))
      have HB4 := Lib.hid (HB3.out.setCell (p := ⟨g, i * 9 + 5, none⟩) hbt (.int .i64 ((n : Int) + 4 + (x.cs.length : Int))))
      obtain ⟨hx4, hs4⟩ := setPack (y := { x with nm := mkT n, W := (n : Int) + 1, D := (n : Int) + 1 + 1, S := (n : Int) + 1 + 1 + 1, cs := marks intM (n + 4) x.cs.length, R := (n : Int) + 4 + (x.cs.length : Int) }) HX3.out HS3.out
      have HX4 := Lib.hid hx4
      have HS4 := Lib.hid hs4
      change Hid (Lst9 _ base (some ⟨g, 0, none⟩) c hs (L3.set i { x with nm := mkT n, W := (n : Int) + 1, D := (n : Int) + 1 + 1, S := (n : Int) + 1 + 1 + 1, cs := marks intM (n + 4) x.cs.length, R := (n : Int) + 4 + (x.cs.length : Int) })) at HL4
      generalize L3.set i { x with nm := mkT n, W := (n : Int) + 1, D := (n : Int) + 1 + 1, S := (n : Int) + 1 + 1 + 1, cs := marks intM (n + 4) x.cs.length, R := (n : Int) + 4 + (x.cs.length : Int) } = L4 at HL4 HX4 HS4
      generalize w3.setCell ⟨g, i * 9 + 5, none⟩ (.int .i64 ((n : Int) + 4 + (x.cs.length : Int))) = w4 at HL4 HB4 ⊢
      clear hx4 hs4 HL3 HX3 HS3 HB3 c5 c6 hfr hbt
      have e4 : (n : Int) + 4 + (x.cs.length : Int) + 1 = ((n + 5 + x.cs.length : Nat) : Int) := by omega
      rw [e4]
      clear e4
      refine (markI_any (k0 := n + 5 + x.cs.length) (xs := x.ks) (HL4.out.own i _ _ HH.out HX4.out).1.ks (by omega)).mono ?_
      rintro e w5 ⟨rfl, hm, hg⟩
      have HB5 := Lib.hid (HB4.out.trans (HL4.out.belowOf HH.out HX4.out (by simp [SvH.ads]) hg (Nat.le_trans hb HB4.out.size)))
      have HL5 := Lib.hid (HL4.out.stepK HH.out HX4.out hm (by rw [marks_length]) hg)
      obtain ⟨hx5, hs5⟩ := setPack (y := { x with nm := mkT n, W := (n : Int) + 1, D := (n : Int) + 1 + 1, S := (n : Int) + 1 + 1 + 1, cs := marks intM (n + 4) x.cs.length, R := (n : Int) + 4 + (x.cs.length : Int), ks := marks intM (n + 5 + x.cs.length) x.ks.length }) HX4.out HS4.out
      have HX5 := Lib.hid hx5
      have HS5 := Lib.hid hs5
      change Hid (Lst9 _ base (some ⟨g, 0, none⟩) c hs (L4.set i { x with nm := mkT n, W := (n : Int) + 1, D := (n : Int) + 1 + 1, S := (n : Int) + 1 + 1 + 1, cs := marks intM (n + 4) x.cs.length, R := (n : Int) + 4 + (x.cs.length : Int), ks := marks intM (n + 5 + x.cs.length) x.ks.length })) at HL5
      generalize L4.set i { x with nm := mkT n, W := (n : Int) + 1, D := (n : Int) + 1 + 1, S := (n : Int) + 1 + 1 + 1, cs := marks intM (n + 4) x.cs.length, R := (n : Int) + 4 + (x.cs.length : Int), ks := marks intM (n + 5 + x.cs.length) x.ks.length } = L5 at HL5 HX5 HS5
      clear hx5 hs5 hm hg HL4 HX4 HS4 HB4
      have c7 : w5.cell? ⟨g, i * 9 + 7, none⟩ = some (.slice hd.a2 x.ts.length hd.c2) := (by have q := HL5.out.cell rfl (i := i) (j := 7) (by omega) HH.out HX5.out; exact q)
      go_wp2_with fail
      clear c7
      refine (markI_any (k0 := n + 5 + x.cs.length + x.ks.length) (xs := x.ts) (HL5.out.own i _ _ HH.out HX5.out).1.ts (by omega)).mono ?_
      rintro e w6 ⟨rfl, hm, hg⟩
      have HB6 := Lib.hid (HB5.out.trans (HL5.out.belowOf HH.out HX5.out (by simp [SvH.ads]) hg (Nat.le_trans hb HB5.out.size)))
      have HL6 := Lib.hid (HL5.out.stepT HH.out HX5.out hm (by rw [marks_length]) hg)
      obtain ⟨hx6, hs6⟩ := setPack (y := { x with nm := mkT n, W := (n : Int) + 1, D := (n : Int) + 1 + 1, S := (n : Int) + 1 + 1 + 1, cs := marks intM (n + 4) x.cs.length, R := (n : Int) + 4 + (x.cs.length : Int), ks := marks intM (n + 5 + x.cs.length) x.ks.length, ts := marks intM (n + 5 + x.cs.length + x.ks.length) x.ts.length }) HX5.out HS5.out
      have HX6 := Lib.hid hx6
      have HS6 := Lib.hid hs6
      change Hid (Lst9 _ base (some ⟨g, 0, none⟩) c hs (L5.set i { x with nm := mkT n, W := (n : Int) + 1, D := (n : Int) + 1 + 1, S := (n : Int) + 1 + 1 + 1, cs := marks intM (n + 4) x.cs.length, R := (n : Int) + 4 + (x.cs.length : Int), ks := marks intM (n + 5 + x.cs.length) x.ks.length, ts := marks intM (n + 5 + x.cs.length + x.ks.length) x.ts.length })) at HL6
      generalize L5.set i { x with nm := mkT n, W := (n : Int) + 1, D := (n : Int) + 1 + 1, S := (n : Int) + 1 + 1 + 1, cs := marks intM (n + 4) x.cs.length, R := (n : Int) + 4 + (x.cs.length : Int), ks := marks intM (n + 5 + x.cs.length) x.ks.length, ts := marks intM (n + 5 + x.cs.length + x.ks.length) x.ts.length } = L6 at HL6 HX6 HS6
      clear hx6 hs6 hm hg HL5 HX5 HS5 HB5
      have c8 : w6.cell? ⟨g, i * 9 + 8, none⟩ = some (.slice hd.a3 x.es.length hd.c3) := (by have q := HL6.out.cell rfl (i := i) (j := 8) (by omega) HH.out HX6.out; exact q)
      go_wp2_with fail
      clear c8
      refine (markI_any (k0 := n + 5 + x.cs.length + x.ks.length + x.ts.length) (xs := x.es) (HL6.out.own i _ _ HH.out HX6.out).1.es (by omega)).mono ?_
      rintro e w7 ⟨rfl, hm, hg⟩
      have HB7 := Lib.hid (HB6.out.trans (HL6.out.belowOf HH.out HX6.out (by simp [SvH.ads]) hg (Nat.le_trans hb HB6.out.size)))
      have HL7 := Lib.hid (HL6.out.stepE HH.out HX6.out hm (by rw [marks_length]) hg)
      obtain ⟨hx7, hs7⟩ := setPack (y := { x with nm := mkT n, W := (n : Int) + 1, D := (n : Int) + 1 + 1, S := (n : Int) + 1 + 1 + 1, cs := marks intM (n + 4) x.cs.length, R := (n : Int) + 4 + (x.cs.length : Int), ks := marks intM (n + 5 + x.cs.length) x.ks.length, ts := marks intM (n + 5 + x.cs.length + x.ks.length) x.ts.length, es := marks intM (n + 5 + x.cs.length + x.ks.length + x.ts.length) x.es.length }) HX6.out HS6.out
      have HX7 := Lib.hid hx7
      have HS7 := Lib.hid hs7
      change Hid (Lst9 _ base (some ⟨g, 0, none⟩) c hs (L6.set i { x with nm := mkT n, W := (n : Int) + 1, D := (n : Int) + 1 + 1, S := (n : Int) + 1 + 1 + 1, cs := marks intM (n + 4) x.cs.length, R := (n : Int) + 4 + (x.cs.length : Int), ks := marks intM (n + 5 + x.cs.length) x.ks.length, ts := marks intM (n + 5 + x.cs.length + x.ks.length) x.ts.length, es := marks intM (n + 5 + x.cs.length + x.ks.length + x.ts.length) x.es.length })) at HL7
      generalize L6.set i { x with nm := mkT n, W := (n : Int) + 1, D := (n : Int) + 1 + 1, S := (n : Int) + 1 + 1 + 1, cs := marks intM (n + 4) x.cs.length, R := (n : Int) + 4 + (x.cs.length : Int), ks := marks intM (n + 5 + x.cs.length) x.ks.length, ts := marks intM (n + 5 + x.cs.length + x.ks.length) x.ts.length, es := marks intM (n + 5 + x.cs.length + x.ks.length + x.ts.length) x.es.length } = L7 at HL7 HX7 HS7
      clear hx7 hs7 hm hg HL6 HX6 HS6 HB6
      have HF : Hid (Lst9 w7 base (some ⟨g, 0, none⟩) c hs (mkAt k0 ss (i + 1))) := Lib.hid (by
        have q : L7[i]? = some (fmk n x) := HX7.out
        have q2 := set_self_of q
        rw [HS7.out] at q2
        rw [q2]; exact HL7.out)
      go_wp2
      go_roundw
      case rel => exact ⟨i + 1, by omega, by go_num, by rw [HN.out]; unfold fsz; go_num, HF, HB7⟩
      case measure => simp [intOf]; omega
    · obtain rfl : i = ss.length := by omega
      have hltz : ¬ (ss.length : Int) < (ss.length : Int) := by omega
      rw [List.take_length]
      have HI2 : Hid (Lst9 wr base a c hs (fmks k0 ss)) := Lib.hid (by rw [← mkAt_all]; exact HI.out)
      go_wp2
      go_ret
      exact ⟨rfl, HI2.out, HB.out⟩

set_option maxRecDepth 20000 in
set_option maxHeartbeats 4000000 in
theorem heldSavedS_any {a : Option Addr} {c : Nat} {hs : List SvH} {ss : List Sv} {k0 : Nat} {w : World} (r : Rd9 w a c hs (fmks k0 ss)) (hl : ss.length ≤ 1048576) (h1 : 1 ≤ k0) (hk : k0 + fsum ss ≤ 4611686018427387904) :
    Calls Try.prog 20 #[.slice a ss.length c, .int .i64 k0] w fun e w' => e = .returned (.int .i64 ((k0 + fsum ss : Nat) : Int)) ∧ Below w.heap.size w w' := by
  have HR := Lib.hid r
  clear r
  go_enter Try.func20, Try.ntmps20
  go_wp2
  go_loopw [1, 5] (fun ki ii wr => ∃ i : Nat, i ≤ ss.length ∧ ii = .int .i64 (i : Int) ∧ ki = .int .i64 ((k0 + fsum (ss.take i) : Nat) : Int) ∧ Hid (Below w.heap.size w wr)) (fun _ ii _ => ss.length - (intOf ii).toNat)
  case atStart => exact ⟨0, Nat.zero_le _, rfl, by simp [fsum], Lib.hid (Below.refl _ _)⟩
  case round =>
    obtain ⟨i, hi, rfl, rfl, HB⟩ := hrel
    by_cases hlt : i < ss.length
    · have hltz : (i : Int) < (ss.length : Int) := by omega
      have ewi : IntKind.i64.wrap ((i : Int) + 1) = (i : Int) + 1 := IntWalk.i64_in _ (by omega)
      obtain ⟨x, hx⟩ : ∃ x, ss[i]? = some x := ⟨ss[i], List.getElem?_eq_getElem hlt⟩
      have hsu := fsum_succ hx
      have hle := fsum_le ss (i + 1)
      obtain ⟨n, hn⟩ : ∃ n, k0 + fsum (ss.take i) = n := ⟨_, rfl⟩
      have hnn : n + fsz x ≤ 4611686018427387904 := by omega
      have hnu : n + 5 + x.cs.length + x.ks.length + x.ts.length + x.es.length ≤ 4611686018427387904 := by unfold fsz at hnn; omega
      have hn1 : 1 ≤ n := by omega
      have HN := Lib.hid (show k0 + fsum (ss.take (i + 1)) = n + fsz x by omega)
      have hfl : i < (fmks k0 ss).length := by rw [fmks_len]; exact hlt
      obtain ⟨g, o, rfl, _⟩ := HR.out.here (by omega)
      obtain ⟨hd, hsr, r0, r1, r2, r3, r4, r5, r6, r7, r8⟩ := (HR.out.below HB.out (Nat.le_refl _)).at hfl
      have efx : (fmks k0 ss)[i] = fmk n x := by
        have q := fmks_get (k := k0) hx
        rw [List.getElem?_eq_getElem hfl, hn] at q
        simpa using q
      rw [efx] at hsr r0 r1 r2 r3 r4 r5 r6 r7 r8
      rw [hn]
      have e6 : (fmk n x).cs.length = x.cs.length := marks_length _ _ _
      have e7 : (fmk n x).ks.length = x.ks.length := marks_length _ _ _
      have e8 : (fmk n x).ts.length = x.ts.length := marks_length _ _ _
      have e9 : (fmk n x).es.length = x.es.length := marks_length _ _ _
      rw [e6] at r4
      rw [e7] at r6
      rw [e8] at r7
      rw [e9] at r8
      have HS := Lib.hid hsr
      clear hsu hle hn hnn hfl hsr efx e6 e7 e8 e9 hx
      have eW : (fmk n x).W = (n : Int) + 1 := rfl
      have eD : (fmk n x).D = (n : Int) + 1 + 1 := by show ((n + 2 : Nat) : Int) = _; omega
      have eS : (fmk n x).S = (n : Int) + 1 + 1 + 1 := by show ((n + 3 : Nat) : Int) = _; omega
      have eR : (fmk n x).R = (n : Int) + 4 + (x.cs.length : Int) := by show ((n + 4 + x.cs.length : Nat) : Int) = _; omega
      rw [eW] at r1
      rw [eD] at r2
      rw [eS] at r3
      rw [eR] at r5
      clear eW eD eS eR
      have HW := Lib.hid (And.intro r1 (And.intro r2 (And.intro r3 (And.intro r4 (And.intro r5 (And.intro r6 (And.intro r7 r8)))))))
      clear r1 r2 r3 r4 r5 r6 r7 r8
      change wr.cell? _ = some (.string (mkT n)) at r0
      have hix := idx9 (b := g) (o := o) (n := ss.length) (c := c) und_svi siz_svi
      have hnm : ((mkT n).toList == (mkT n).toList) = true := by simp
      have hnm2 : ((mkT n).toList != (mkT n).toList) = false := by simp
      obtain ⟨ι, hne, G, hG, hS⟩ := calm_family wr
      have r0' := fun i => k_at (hG i) r0
      have HG := Lib.hid hG
      have HSU := Lib.hid hS
      clear hG hS r0
      go_wp2_with fail
      refine wp_region_calm (G := G) (by kernel_rfl) (by kernel_rfl) HSU.out ?_
      repeat (go_big_quiet_step ((go_at_call 58; exact calm_call HG.out HSU.out (markText_any hn1 (by omega)))))
      refine wpQuiet_nil ?_
      intro _ hw'
      obtain ⟨j, hw''⟩ := hw'
      subst hw''
      have HB2 := Lib.hid (HB.out.trans ((HG.out j).mono HB.out.size))
      have HS2 := Lib.hid (HS.out.below (HG.out j) (Nat.le_refl _))
      obtain ⟨r1, r2, r3, r4, r5, r6, r7, r8⟩ := HW.out
      have r1 := k_at (HG.out j) r1
      have r2 := k_at (HG.out j) r2
      have r3 := k_at (HG.out j) r3
      have r4 := k_at (HG.out j) r4
      have r5 := k_at (HG.out j) r5
      have r6 := k_at (HG.out j) r6
      have r7 := k_at (HG.out j) r7
      have r8 := k_at (HG.out j) r8
      clear HW r0' HS HB
      generalize G j = w2 at HB2 HS2 r1 r2 r3 r4 r5 r6 r7 r8 ⊢
      have HW := Lib.hid (And.intro r5 (And.intro r6 (And.intro r7 r8)))
      clear r5 r6 r7 r8 HG HSU
      have n1 : ((n : Int) + 1 != (n : Int) + 1) = false := by simp
      have n2 : ((n : Int) + 1 + 1 != (n : Int) + 1 + 1) = false := by simp
      have n3 : ((n : Int) + 1 + 1 + 1 != (n : Int) + 1 + 1 + 1) = false := by simp
      go_wp2_with fail
      have e4 : (n : Int) + 1 + 1 + 1 + 1 = ((n + 4 : Nat) : Int) := by omega
      rw [e4]
      clear e4 n1 n2 n3
      refine (heldI_any (k0 := n + 4) (n := x.cs.length) HS2.out.cs (by omega)).mono ?_
      rintro e w3 ⟨rfl, hb3⟩
      have HB3 := Lib.hid (HB2.out.trans (hb3.mono HB2.out.size))
      have HS3 := Lib.hid (HS2.out.below hb3 (Nat.le_refl _))
      obtain ⟨r5, r6, r7, r8⟩ := HW.out
      have r5 := k_at hb3 r5
      have r6 := k_at hb3 r6
      have r7 := k_at hb3 r7
      have r8 := k_at hb3 r8
      clear hb3 HB2 HS2 HW r1 r2 r3 r4
      have n5 : ((n : Int) + 4 + (x.cs.length : Int) != (n : Int) + 4 + (x.cs.length : Int)) = false := by simp
      have l5 : ¬ ((n : Int) + 4 + (x.cs.length : Int) < 0) := by omega
      go_wp2_with fail
      have e5 : (n : Int) + 4 + (x.cs.length : Int) + 1 = ((n + 5 + x.cs.length : Nat) : Int) := by omega
      rw [e5]
      clear e5 n5 l5
      refine (heldI_any (k0 := n + 5 + x.cs.length) (n := x.ks.length) HS3.out.ks (by omega)).mono ?_
      rintro e w4 ⟨rfl, hb4⟩
      have HB4 := Lib.hid (HB3.out.trans (hb4.mono HB3.out.size))
      have HS4 := Lib.hid (HS3.out.below hb4 (Nat.le_refl _))
      have r7 := k_at hb4 r7
      have r8 := k_at hb4 r8
      clear hb4 HB3 HS3 r5 r6
      have l6 : ¬ (((n + 5 + x.cs.length + x.ks.length : Nat) : Int) < 0) := by omega
      have l7 : ¬ (((n + 5 + x.cs.length + x.ks.length + x.ts.length : Nat) : Int) < 0) := by omega
      have l8 : ¬ (((n + 5 + x.cs.length + x.ks.length + x.ts.length + x.es.length : Nat) : Int) < 0) := by omega
      obtain ⟨m6, hm6⟩ : ∃ m, n + 5 + x.cs.length + x.ks.length = m := ⟨_, rfl⟩
      rw [hm6] at l6 ⊢
      have HM6 := Lib.hid hm6
      clear hm6
      go_wp2_with fail
      refine (heldI_any (k0 := m6) (n := x.ts.length) (by have q := HS4.out.ts; rw [← HM6.out]; exact q) (by have := HM6.out; omega)).mono ?_
      rintro e w5 ⟨rfl, hb5⟩
      have HB5 := Lib.hid (HB4.out.trans (hb5.mono HB4.out.size))
      have HS5 := Lib.hid (HS4.out.below hb5 (Nat.le_refl _))
      have r8 := k_at hb5 r8
      clear hb5 HB4 HS4 r7
      obtain ⟨m7, hm7⟩ : ∃ m, m6 + x.ts.length = m := ⟨_, rfl⟩
      have l7' : ¬ ((m7 : Int) < 0) := by omega
      rw [hm7]
      have HM7 := Lib.hid hm7
      clear hm7 l7 l6
      go_wp2_with fail
      refine (heldI_any (k0 := m7) (n := x.es.length) (by have q := HS5.out.es; rw [← HM7.out, ← HM6.out]; exact q) (by have := HM6.out; have := HM7.out; omega)).mono ?_
      rintro e w6 ⟨rfl, hb6⟩
      have HB6 := Lib.hid (HB5.out.trans (hb6.mono HB5.out.size))
      clear hb6 HB5 HS5 r8 l7' l8
      obtain ⟨m8, hm8⟩ : ∃ m, m7 + x.es.length = m := ⟨_, rfl⟩
      have l8' : ¬ ((m8 : Int) < 0) := by omega
      rw [hm8]
      have HM8 := Lib.hid hm8
      clear hm8
      go_wp2
      go_roundw
      case rel => exact ⟨i + 1, by omega, by go_num, by rw [HN.out]; have := HM6.out; have := HM7.out; have := HM8.out; unfold fsz; congr 1; omega, HB6⟩
      case measure => simp [intOf]; omega
    · obtain rfl : i = ss.length := by omega
      have hltz : ¬ (ss.length : Int) < (ss.length : Int) := by omega
      rw [List.take_length]
      go_wp2
      go_ret
      exact ⟨rfl, HB.out⟩

end Go.Proofs.Ytdpolaedfjljmaa
