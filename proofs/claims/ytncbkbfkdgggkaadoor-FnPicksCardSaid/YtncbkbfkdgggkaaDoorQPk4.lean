/- The walks of the laws' small helpers on slices of int64. slices.IndexFunc and slices.ContainsFunc at []int64, for whatever closure. within, l00In; numbers of a list within bounds. Names: letters of a text, in both texts. slices.Clone at []int64. mark.., held.. on lists of bools. Slices of slices. mark.., held.. on sieves, zeros, windows, desks. held.. on sieves, zeros, windows, desks. The laws' helpers on lists of lists of float32. slices.IndexFunc and slices.ContainsFunc at [][]float32, for whatever closure. Near pairs: what both texts say, in plain words; the program's closure. The laws' helpers on lists of lists of bool. slices.IndexFunc and slices.ContainsFunc at [][]bool, for whatever closure. Bands: the program's text. Bands: the program's text at every input. Pairs of equal bands, near vectors of small whole numbers: plain. What the law FnBanded is told of its pairs: plain. Sizes: the room that is left. The laws' helpers on Cells. The laws' helpers on Tops. The laws' helpers on saved ones. Lists of saved ones, plain. A saved one in a box, and what is appended to its lists. -/
import Derived.Test.YtncbkbfkdgggkaaDoorRows
import Derived.Test.YtncbkbfkdgggkaaDoorQPk2
import Derived.IntWalk
import Derived.Test.YtncbkbfkdgggkaaDoorQPk3
set_option linter.unusedVariables false
set_option linter.unusedSimpArgs false
namespace Go.Proofs.YtncbkbfkdgggkaaDoor
open Go.RowKit

theorem und_is : Tryd.prog.underlying 25 = some (.slice (Tryd.prog.elem 25)) := by kernel_rfl
theorem siz_is (w : World) : (sizeOf (Tryd.prog.elem 25)).run Tryd.prog w = .ok 1 w := by kernel_rfl
theorem und_ise : Tryd.prog.underlying 25 = some (.slice 2) := by kernel_rfl
theorem info_i : (Tryd.prog.info? 2).map (fun i => (i.zero, i.size, i.bytes)) = some (some (.int .i64 0), 1, 8) := by kernel_rfl

theorem int_ne {a b : Int} (h : (a != b) = true) : ¬ a = b := by simpa using h

end Go.Proofs.YtncbkbfkdgggkaaDoor

namespace Go.Proofs.YtncbkbfkdgggkaaDoor
open Go.RowKit

set_option maxHeartbeats 400000 in
theorem indexFunci_any (a : Option Addr) (c : Nat) (xs : List Int) (w : World) (F : Nat) (caps : Array Value) (p : Int → Bool) (hF : ∀ (vs : Array Value) (w : World), (callFunc F vs).run Tryd.prog w = .ok (.enter F vs) w) (hr : Rd (Value.int .i64) w a c xs)
    (hclo : ∀ k (h : k < xs.length) wr, Below w.heap.size w wr → Calls Tryd.prog F (#[(Value.int .i64) xs[k]] ++ caps) wr fun e w' => e = .returned (.bool (p xs[k])) ∧ Below wr.heap.size wr w') :
    Calls Tryd.prog 75 #[.slice a xs.length c, .func (.func F) #[] caps] w fun e w' => e = .returned (.int .i64 (idxOf p xs)) ∧ Below w.heap.size w w' := by
  have hln := hr.len
  go_enter Tryd.func75, Tryd.ntmps75
  go_wp2
  go_loopw [5, 8] (fun _ i wr => ∃ k : Nat, k ≤ xs.length ∧ i = .int .i64 k ∧ (∀ x ∈ xs.take k, p x = false) ∧ Below w.heap.size w wr) (fun _ i _ => xs.length - (intOf i).toNat)
  case atStart => exact ⟨0, Nat.zero_le _, rfl, by simp, Below.refl _ _⟩
  case round =>
    obtain ⟨k, hk, rfl, hp, hb⟩ := hrel
    have HP : Hid (∀ x ∈ xs.take k, p x = false) := hp
    clear hp
    by_cases hlt : k < xs.length
    · have hr' := hr.below hb (Nat.le_refl _)
      have hix := hr'.idx und_is siz_is
      have hcx := hr'.cell k hlt
      have HC : Hid (∀ k (h : k < xs.length) wr, Below w.heap.size w wr → Calls Tryd.prog F (#[(Value.int .i64) xs[k]] ++ caps) wr fun e w' => e = .returned (.bool (p xs[k])) ∧ Below wr.heap.size wr w') := hclo
      clear hclo
      simp only [List.getElem?_eq_getElem hlt, Option.getD_some] at hcx
      go_wp2_with fail
      refine (HC.out k hlt wr hb).mono ?_
      rintro e w1 ⟨rfl, hb1⟩
      by_cases hpx : p xs[k] = true
      · have HX : Hid (p xs[k] = true) := hpx
        rw [hpx]
        clear hpx
        go_wp2
        go_ret
        refine ⟨ret_int ?_, hb.trans (hb1.mono hb.size)⟩
        rw [idxOf_here HX.out HP.out]
      · have hpx' : p xs[k] = false := by simpa using hpx
        have HX : Hid (p xs[k] = false) := hpx'
        rw [hpx']
        clear hpx hpx'
        go_wp2
        go_roundw
        case rel => exact ⟨k + 1, by omega, by go_num, snoc_none hlt HP.out HX.out, hb.trans (hb1.mono hb.size)⟩
        case measure => simp [intOf]; omega
    · obtain rfl : k = xs.length := by omega
      have HC : Hid (∀ k (h : k < xs.length) wr, Below w.heap.size w wr → Calls Tryd.prog F (#[(Value.int .i64) xs[k]] ++ caps) wr fun e w' => e = .returned (.bool (p xs[k])) ∧ Below wr.heap.size wr w') := hclo
      clear hclo
      go_wp2
      go_ret
      refine ⟨ret_int ?_, hb⟩
      rw [idxOf_none (by simpa using HP.out)]

set_option maxHeartbeats 400000 in
theorem containsFunci_any (a : Option Addr) (c : Nat) (xs : List Int) (w : World) (F : Nat) (caps : Array Value) (p : Int → Bool) (hF : ∀ (vs : Array Value) (w : World), (callFunc F vs).run Tryd.prog w = .ok (.enter F vs) w) (hr : Rd (Value.int .i64) w a c xs)
    (hclo : ∀ k (h : k < xs.length) wr, Below w.heap.size w wr → Calls Tryd.prog F (#[(Value.int .i64) xs[k]] ++ caps) wr fun e w' => e = .returned (.bool (p xs[k])) ∧ Below wr.heap.size wr w') :
    Calls Tryd.prog 60 #[.slice a xs.length c, .func (.func F) #[] caps] w fun e w' => e = .returned (.bool (xs.any p)) ∧ Below w.heap.size w w' := by
  have HC := Lib.hid (indexFunci_any a c xs w F caps p hF hr hclo)
  clear hclo
  go_enter Tryd.func60, Tryd.ntmps60
  go_wp2_with fail
  refine HC.out.mono ?_
  rintro e w1 ⟨rfl, hb1⟩
  have HB := Lib.hid (idxOf_any p xs)
  go_wp2
  go_ret
  exact ⟨ret_bool (by simpa using HB.out), hb1⟩

end Go.Proofs.YtncbkbfkdgggkaaDoor

namespace Go.Proofs.YtncbkbfkdgggkaaDoor
open Go.RowKit

def inR (n lo hi : Int) : Bool := decide (lo ≤ n ∧ n ≤ hi)
theorem inR_eq (n lo hi : Int) : inR n lo hi = true ↔ lo ≤ n ∧ n ≤ hi := by simp [inR]

theorem within_any (n lo hi : Int) (w : World) : Calls Tryd.prog 44 #[.int .i64 n, .int .i64 lo, .int .i64 hi] w fun e w' => e = .returned (.bool (inR n lo hi)) ∧ w = w' := by
  by_cases h1 : lo ≤ n
  · go_enter Tryd.func44, Tryd.ntmps44
    go_wp2
    go_ret
    exact ⟨ret_bool (by simp [inR]; omega), rfl⟩
  · have h2 : decide (lo ≤ n) = false := by simpa using h1
    go_enter Tryd.func44, Tryd.ntmps44
    go_wp2
    go_ret
    exact ⟨ret_bool (by simp [inR]; omega), rfl⟩

theorem areWithin1_any (x lo hi : Int) (p1 p2 : Addr) (w : World) (h1 : w.cell? p1 = some (.int .i64 lo)) (h2 : w.cell? p2 = some (.int .i64 hi)) :
    Calls Tryd.prog 61 #[.int .i64 x, .pointer (some p1), .pointer (some p2)] w fun e w' => e = .returned (.bool (!inR x lo hi)) ∧ w = w' := by
  go_enter Tryd.func61, Tryd.ntmps61
  go_wp2_with (go_at_call 44; refine (within_any _ _ _ _).mono ?_; rintro e w1 ⟨rfl, rfl⟩)
  go_ret
  exact ⟨rfl, rfl⟩

theorem call_areWithin1 (vs : Array Value) (w : World) : (callFunc 61 vs).run Tryd.prog w = .ok (.enter 61 vs) w := by kernel_rfl

theorem areWithin_any (a : Option Addr) (c : Nat) (xs : List Int) (lo hi : Int) (w : World) (hr : Rd (Value.int .i64) w a c xs) :
    Calls Tryd.prog 40 #[.slice a xs.length c, .int .i64 lo, .int .i64 hi] w fun e w' => e = .returned (.bool (xs.all (fun x => inR x lo hi))) ∧ Below w.heap.size w w' := by
  have hb : Below w.heap.size w ((w.alloc (.cells #[.int .i64 lo] 2)).alloc (.cells #[.int .i64 hi] 2)) := ((Below.refl _ _).alloc (Nat.le_refl _) _).alloc (by simp) _
  have hc := containsFunci_any a c xs ((w.alloc (.cells #[.int .i64 lo] 2)).alloc (.cells #[.int .i64 hi] 2)) 61 #[.pointer (some ⟨w.heap.size, 0, none⟩), .pointer (some ⟨w.heap.size + 1, 0, none⟩)] (fun x => !inR x lo hi) call_areWithin1 (hr.below hb (Nat.le_refl _)) (by
    intro k h wr hbr
    refine (areWithin1_any _ lo hi _ _ wr ?_ ?_).mono ?_
    · rw [hbr.cell (by simp; omega)]; rw [World.cell?_alloc_past _ _ _ (by simp), World.cell?_alloc_at _ _ _ _ rfl]; rfl
    · rw [hbr.cell (by simp)]; rw [World.cell?_alloc_at _ _ _ _ (by simp)]; rfl
    · rintro e w1 ⟨rfl, rfl⟩; exact ⟨rfl, Below.refl _ _⟩)
  have HC := Lib.hid hc
  have HB := Lib.hid hb
  clear hc hb
  go_enter Tryd.func40, Tryd.ntmps40
  go_wp2_with fail
  refine HC.out.mono ?_
  rintro e w1 ⟨rfl, hb1⟩
  go_wp2
  go_ret
  refine ⟨ret_bool ?_, HB.out.trans (hb1.mono (by simp; omega))⟩
  rw [Bool.eq_iff_iff]; simp [List.all_eq_true, List.any_eq_true]

theorem rd_idxAt {α : Type} [Inhabited α] {f : α → Value} {w : World} {a : Option Addr} {c : Nat} {xs : List α} (h : Rd f w a c xs) {P : Program} {T : TypeId} (hT : P.underlying T = some (.slice (P.elem T))) (hs : ∀ w, (sizeOf (P.elem T)).run P w = .ok 1 w) (k : Nat) (hk : k < xs.length) (i : Int) (hi : i = (k : Int)) :
    ∀ w' : World, (Instr.indexAt T (.slice a xs.length c) (.int .i64 i)).run P w' = .ok (.pointer (some (elt a k))) w' := by
  subst hi; exact fun w' => h.idx hT hs w' k hk

end Go.Proofs.YtncbkbfkdgggkaaDoor

namespace Go.Proofs.YtncbkbfkdgggkaaDoor
open Go.RowKit

/-- A text's byte. -/
def byt (s : ByteArray) (k : Nat) : Nat := (s.get! k).toNat
theorem byt_eq {s : ByteArray} {k : Nat} (h : k < s.size) : (s[k]'h).toNat = byt s k := by
  unfold byt
  cases s with
  | mk d =>
    have hd : k < d.size := h
    simp [ByteArray.get!, hd]
    rfl
theorem byt_lt (s : ByteArray) (k : Nat) : byt s k < 256 := UInt8.toNat_lt _

def lowB (s : ByteArray) (k : Nat) : Bool := decide (97 ≤ byt s k) && decide (byt s k ≤ 122)
def nameB (s : ByteArray) : Bool := decide (1 ≤ s.size) && decide (s.size ≤ 8) && (List.range s.size).all (lowB s)
theorem nameB_no {s : ByteArray} {k : Nat} (hk : k < s.size) (h : lowB s k = false) : nameB s = false := by
  unfold nameB
  have : (List.range s.size).all (lowB s) = false := by rw [List.all_eq_false]; exact ⟨k, List.mem_range.2 hk, by rw [h]; simp⟩
  rw [this]; simp
theorem nameB_yes {s : ByteArray} (h : ∀ k, k < s.size → lowB s k = true) : nameB s = (decide (1 ≤ s.size) && decide (s.size ≤ 8)) := by
  unfold nameB
  have : (List.range s.size).all (lowB s) = true := by rw [List.all_eq_true]; intro k hk; exact h k (List.mem_range.1 hk)
  rw [this]; simp

end Go.Proofs.YtncbkbfkdgggkaaDoor

namespace Go.Proofs.YtncbkbfkdgggkaaDoor
open Go.RowKit

theorem clonei_any (a : Option Addr) (c : Nat) (xs : List Int) (w : World) (hr : Rd (Value.int .i64) w a c xs) (hn : xs.length ≤ 1048576) :
    Calls Tryd.prog 54 #[.slice a xs.length c] w (RetS (Value.int .i64) 2 w xs) := by
  cases ha : a with
  | none =>
    obtain ⟨rfl, rfl⟩ := rd_none hr ha
    subst ha
    have hq := fun w' => Lib.run_eql_slice_nil (P := Tryd.prog) w' 25 2 none 0 0 0 0 und_ise
    go_enter Tryd.func54, Tryd.ntmps54
    go_wp2
    go_ret
    exact ⟨none, 0, rfl, World.ownsRow_nil _ _ _ _, Below.refl _ _⟩
  | some p =>
    rw [ha] at hr
    clear ha
    have hq := fun w' => Lib.run_eql_slice_nil (P := Tryd.prog) w' 25 2 (some p) xs.length c 0 0 und_ise
    go_enter Tryd.func54, Tryd.ntmps54
    have HE := Lib.hid (own_empty (f := Value.int .i64) (e := 2) (α := Int) w (by_ := 0) w.heap.size (Nat.le_refl _) rfl)
    have HR := Lib.hid (hr.below ((Below.refl w.heap.size w).alloc (Nat.le_refl _) (.cells #[] 2)) (Nat.le_refl _))
    go_wp2_with (at_builtin; refine wpl_appendN (f := Value.int .i64) (d := 0) und_ise info_i (fun _ => rfl) HE.out HR.out rfl _ _ rfl rfl rfl (by simp) (by omega) (by omega) (by simp) ?_; intro a1 c1 w1 ho1 hg1)
    go_ret
    refine ⟨a1, c1, by simp, ho1, ?_⟩
    exact ((Below.refl w.heap.size w).alloc (Nat.le_refl _) (.cells #[] 2)).trans (grown_belowOwn HE.out hg1 (Nat.le_refl _) (by simp))

end Go.Proofs.YtncbkbfkdgggkaaDoor

namespace Go.Proofs.YtncbkbfkdgggkaaDoor
open Go.RowKit

theorem mod3 (k0 k : Nat) : (((k0 : Int) + (k : Int)) % 3 == 0) = decide ((k0 + k) % 3 = 0) := by
  rw [Bool.eq_iff_iff]; simp; omega

end Go.Proofs.YtncbkbfkdgggkaaDoor

namespace Go.Proofs.YtncbkbfkdgggkaaDoor
open Go.RowKit

/-- A slice's value: its address, its length, its capacity. -/
abbrev Hd := Option Addr × Nat × Nat
def hdV (h : Hd) : Value := .slice h.1 h.2.1 h.2.2
theorem hdV_one (h : Hd) : (hdV h).oneCell' = true := rfl

/-- A slice of slices reads as a list of lists. -/
structure Rd2 {α : Type} [Inhabited α] (f : α → Value) (w : World) (a : Option Addr) (c : Nat) (hs : List Hd) (xss : List (List α)) : Prop where
  top : Rd hdV w a c hs
  len : hs.length = xss.length
  row : ∀ i, i < xss.length → ∃ (hd : Hd) (xs : List α), hs[i]? = some hd ∧ xss[i]? = some xs ∧ hd.2.1 = xs.length ∧ Rd f w hd.1 hd.2.2 xs

section
variable {α : Type} [Inhabited α] {f : α → Value} {w w' : World} {a : Option Addr} {c : Nat} {hs : List Hd} {xss : List (List α)}
theorem Rd2.below (h : Rd2 f w a c hs xss) {B : Nat} (hb : Below B w w') (hB : w.heap.size ≤ B) : Rd2 f w' a c hs xss :=
  ⟨h.top.below hb hB, h.len, fun i hi => let ⟨hd, xs, h1, h2, h3, h4⟩ := h.row i hi; ⟨hd, xs, h1, h2, h3, h4.below hb hB⟩⟩
/-- Row i. -/
theorem Rd2.at (h : Rd2 f w a c hs xss) {i : Nat} (hi : i < xss.length) : ∃ a2 c2, w.cell? (elt a i) = some (.slice a2 xss[i].length c2) ∧ Rd f w a2 c2 xss[i] := by
  obtain ⟨hd, xs, h1, h2, h3, h4⟩ := h.row i hi
  have hx : xss[i] = xs := by
    rw [List.getElem?_eq_getElem hi] at h2; simpa using h2
  rw [hx]
  refine ⟨hd.1, hd.2.2, ?_, h4⟩
  rw [h.top.cell i (by rw [h.len]; exact hi), h1, Option.getD_some, ← h3]
  rfl
theorem Rd2.lens (h : Rd2 f w a c hs xss) : xss.length ≤ 9223372036854775807 := by rw [← h.len]; exact h.top.len
end

/-- A slice of slices that a call has made: all in rows of their own. -/
structure Own2 {α : Type} (f : α → Value) (e ee : TypeId) (w : World) (base : Nat) (a : Option Addr) (c : Nat) (hs : List Hd) (xss : List (List α)) : Prop where
  top : Own hdV ee w base a c hs
  len : hs.length = xss.length
  row : ∀ i, i < xss.length → ∃ (hd : Hd) (xs : List α), hs[i]? = some hd ∧ xss[i]? = some xs ∧ hd.2.1 = xs.length ∧ Own f e w base hd.1 hd.2.2 xs ∧ ∀ p q : Addr, a = some p → hd.1 = some q → p.block ≠ q.block
  apart : ∀ (i j : Nat) (hd hd' : Hd), i ≠ j → hs[i]? = some hd → hs[j]? = some hd' → ∀ p q : Addr, hd.1 = some p → hd'.1 = some q → p.block ≠ q.block

section
variable {α : Type} {f : α → Value} {e ee : TypeId} {w w' : World} {base : Nat} {a : Option Addr} {c : Nat} {hs : List Hd} {xss : List (List α)}
theorem Own2.rd [Inhabited α] (h : Own2 f e ee w base a c hs xss) : Rd2 f w a c hs xss :=
  ⟨h.top.rd, h.len, fun i hi => let ⟨hd, xs, h1, h2, h3, h4, _⟩ := h.row i hi; ⟨hd, xs, h1, h2, h3, h4.rd⟩⟩
theorem Own2.below (h : Own2 f e ee w base a c hs xss) {B : Nat} (hb : Below B w w') (hB : w.heap.size ≤ B) : Own2 f e ee w' base a c hs xss :=
  ⟨h.top.below hb hB, h.len, fun i hi => let ⟨hd, xs, h1, h2, h3, h4, h5⟩ := h.row i hi; ⟨hd, xs, h1, h2, h3, h4.below hb hB, h5⟩, h.apart⟩
theorem Own2.mono (h : Own2 f e ee w base a c hs xss) {b' : Nat} (hb : b' ≤ base) : Own2 f e ee w b' a c hs xss :=
  ⟨h.top.mono hb, h.len, fun i hi => let ⟨hd, xs, h1, h2, h3, h4, h5⟩ := h.row i hi; ⟨hd, xs, h1, h2, h3, h4.mono hb, h5⟩, h.apart⟩
end

/-- A slice of slices in new memory. -/
def RetSS {α : Type} (f : α → Value) (e ee : TypeId) (w : World) (xss : List (List α)) (en : Ending) (w' : World) : Prop :=
  ∃ a c hs, en = .returned (.slice a xss.length c) ∧ Own2 f e ee w' w.heap.size a c hs xss ∧ Below w.heap.size w w'

/-- Only blocks from lo to hi have turned. -/
structure TurnB (lo hi : Nat) (w w' : World) : Prop where
  os : w'.os = w.os
  tape : w'.tape = w.tape
  output : w'.output = w.output
  size : w.heap.size ≤ w'.heap.size
  block : ∀ k, k < w.heap.size → (k < lo ∨ hi ≤ k) → w'.heap[k]? = w.heap[k]?
theorem TurnB.refl (lo hi : Nat) (w : World) : TurnB lo hi w w := ⟨rfl, rfl, rfl, Nat.le_refl _, fun _ _ _ => rfl⟩
theorem TurnB.trans {lo hi : Nat} {w w1 w2 : World} (h : TurnB lo hi w w1) (h2 : TurnB lo hi w1 w2) : TurnB lo hi w w2 :=
  ⟨h2.os.trans h.os, h2.tape.trans h.tape, h2.output.trans h.output, Nat.le_trans h.size h2.size, fun k hk hr => (h2.block k (Nat.lt_of_lt_of_le hk h.size) hr).trans (h.block k hk hr)⟩
theorem TurnB.of_grown {lo hi : Nat} {w w' : World} {a : Option Addr} (h : w.grownBy w' (a.map (·.block))) (ha : ∀ p, a = some p → lo ≤ p.block ∧ p.block < hi) : TurnB lo hi w w' :=
  ⟨h.os, h.tape, h.output, h.size, fun k hk hr => h.block k hk (by
    cases a with
    | none => simp
    | some p => have := ha p rfl; simp; omega)⟩
theorem TurnB.below {lo hi : Nat} {w w' : World} (h : TurnB lo hi w w') {B : Nat} (hB : B ≤ lo) (hs : B ≤ w.heap.size) : Below B w w' :=
  ⟨h.os, h.tape, h.output, h.size, fun k hk => h.block k (by omega) (by omega)⟩
theorem Own.heap {α : Type} {f : α → Value} {e : TypeId} {w w' : World} {base : Nat} {a : Option Addr} {c : Nat} {xs : List α} (h : Own f e w base a c xs) (hk : ∀ p, a = some p → w'.heap[p.block]? = w.heap[p.block]?) : Own f e w' base a c xs := by
  refine ⟨h.1, ?_⟩
  rcases h.2 with h2 | ⟨g, cap, cur, h1, h2, h3, h4⟩
  · exact .inl h2
  · refine .inr ⟨g, cap, cur, h1, h2, ?_, h4⟩
    simp only [Value.slice.injEq] at h1
    rw [hk _ h1.1]; exact h3
theorem Own.turned {α : Type} {f : α → Value} {e : TypeId} {w w' : World} {base : Nat} {a : Option Addr} {c : Nat} {xs : List α} (h : Own f e w base a c xs) {lo hi : Nat} (ht : TurnB lo hi w w') (hd : ∀ p, a = some p → p.block < lo ∨ hi ≤ p.block) : Own f e w' base a c xs :=
  h.heap fun p hp => ht.block p.block (h.blk p hp).2 (hd p hp)

/-- How many elements there are. -/
def size2 {α : Type} (xss : List (List α)) : Nat := xss.length + (xss.map List.length).foldl (· + ·) 0
theorem foldl_add (l : List Nat) (z : Nat) : l.foldl (· + ·) z = z + l.foldl (· + ·) 0 := by
  induction l generalizing z with
  | nil => simp
  | cons x l ih => simp only [List.foldl_cons]; rw [ih (z + x), ih (0 + x)]; omega
theorem sum_take_succ {α : Type} {xss : List (List α)} {k : Nat} (h : k < xss.length) : ((xss.take (k + 1)).map List.length).foldl (· + ·) 0 = ((xss.take k).map List.length).foldl (· + ·) 0 + xss[k].length := by
  rw [List.take_add_one, List.getElem?_eq_getElem h, List.map_append, List.foldl_append]; rfl
theorem sum_take_le {α : Type} (xss : List (List α)) (k : Nat) : ((xss.take k).map List.length).foldl (· + ·) 0 ≤ (xss.map List.length).foldl (· + ·) 0 := by
  have h : xss.map List.length = (xss.take k).map List.length ++ (xss.drop k).map List.length := by rw [← List.map_append, List.take_append_drop]
  rw [h, List.foldl_append, foldl_add _ (List.foldl _ _ _)]
  omega
theorem size2_row {α : Type} {xss : List (List α)} {k : Nat} (h : k < xss.length) {n : Nat} (hn : size2 xss ≤ n) : xss[k].length ≤ n := by
  have h1 := sum_take_le xss (k + 1)
  rw [sum_take_succ h] at h1
  unfold size2 at hn
  omega

/-- The rows that have been made up to k. -/
structure Mk2 {α : Type} (f : α → Value) (e ee : TypeId) (w wr : World) (n : Nat) (hs : List Hd) (xss : List (List α)) (k : Nat) : Prop where
  top : Own hdV ee wr w.heap.size (some ⟨w.heap.size, 0, none⟩) n (hs ++ List.replicate (n - k) ((none, 0, 0) : Hd))
  len : hs.length = k
  row : ∀ i, i < k → ∃ (hd : Hd) (xs : List α), hs[i]? = some hd ∧ xss[i]? = some xs ∧ hd.2.1 = xs.length ∧ Own f e wr (w.heap.size + 1) hd.1 hd.2.2 xs
  apart : ∀ (i j : Nat) (hd hd' : Hd), i ≠ j → hs[i]? = some hd → hs[j]? = some hd' → ∀ p q : Addr, hd.1 = some p → hd'.1 = some q → p.block ≠ q.block
  B : Below w.heap.size w wr
theorem fill_set {hs : List Hd} {n k : Nat} (hk : k < n) (hl : hs.length = k) (h : Hd) : (hs ++ List.replicate (n - k) ((none, 0, 0) : Hd)).set k h = (hs ++ [h]) ++ List.replicate (n - (k + 1)) ((none, 0, 0) : Hd) := by
  subst hl
  rw [List.set_append_right _ _ (Nat.le_refl _), Nat.sub_self, show n - hs.length = (n - (hs.length + 1)) + 1 by omega, List.replicate_succ, List.set_cons_zero]
  simp

theorem Mk2.step {α : Type} {f : α → Value} {e ee : TypeId} {w wr w1 : World} {n : Nat} {hs : List Hd} {xss : List (List α)} {k : Nat} (h : Mk2 f e ee w wr n hs xss k) (hk : k < n) {a2 : Option Addr} {c2 : Nat} {xs : List α} (hx : xss[k]? = some xs)
    (hb : Below wr.heap.size wr w1) (ho : Own f e w1 wr.heap.size a2 c2 xs) :
    Mk2 f e ee w (w1.setCell (elt (some ⟨w.heap.size, 0, none⟩) k) (hdV (a2, xs.length, c2))) n (hs ++ [(a2, xs.length, c2)]) xss (k + 1) := by
  have hlen : (hs ++ List.replicate (n - k) ((none, 0, 0) : Hd)).length = n := by simp [h.len]; omega
  have htb := h.top.blk ⟨w.heap.size, 0, none⟩ rfl
  have hset := (h.top.below hb (Nat.le_refl _)).set k (by rw [hlen]; exact hk) (a2, xs.length, c2)
  have hblk : (elt (some ⟨w.heap.size, 0, none⟩) k).block = w.heap.size := rfl
  refine ⟨hset.1.cast (fill_set hk h.len _), by simp [h.len], ?_, ?_, (h.B.trans (hb.mono h.B.size)).setCell (by rw [hblk]; exact Nat.le_refl _) _⟩
  · intro i hi
    by_cases hik : i = k
    · subst hik
      refine ⟨(a2, xs.length, c2), xs, ?_, hx, rfl, (ho.mono (by omega)).setFar _ _ (by rw [hblk]; omega)⟩
      rw [List.getElem?_append_right (by rw [h.len]; exact Nat.le_refl _)]
      simp [h.len]
    · obtain ⟨hd, ys, h1, h2, h3, h4⟩ := h.row i (by omega)
      refine ⟨hd, ys, ?_, h2, h3, (h4.below hb (Nat.le_refl _)).setFar _ _ (by rw [hblk]; omega)⟩
      rw [List.getElem?_append_left (by rw [h.len]; omega)]; exact h1
  · have old : ∀ i hd, i < k → (hs ++ [((a2, xs.length, c2) : Hd)])[i]? = some hd → hs[i]? = some hd := fun i hd hi hh => by
      rwa [List.getElem?_append_left (by rw [h.len]; exact hi)] at hh
    have new : ∀ hd, (hs ++ [((a2, xs.length, c2) : Hd)])[k]? = some hd → hd = (a2, xs.length, c2) := fun hd hh => by
      rw [List.getElem?_append_right (by rw [h.len]; exact Nat.le_refl _)] at hh
      simp [h.len] at hh
      exact hh.symm
    have blkO : ∀ i hd p, i < k → hs[i]? = some hd → hd.1 = some p → p.block < wr.heap.size := fun i hd p hi hh hp => by
      obtain ⟨hd2, ys, h1, _, _, h4⟩ := h.row i hi
      rw [hh] at h1
      have : hd = hd2 := by simpa using h1
      subst this
      exact (h4.blk p hp).2
    have lt : ∀ i hd, (hs ++ [((a2, xs.length, c2) : Hd)])[i]? = some hd → i ≤ k := fun i hd hh => by
      have := (List.getElem?_eq_some_iff.1 hh).1
      simp [h.len] at this
      omega
    intro i j hd hd' hij hi hj p q hp hq
    have li := lt i hd hi
    have lj := lt j hd' hj
    by_cases hik : i = k
    · subst hik
      have e1 := new hd hi
      subst e1
      have h5 := blkO j hd' q (by omega) (old j hd' (by omega) hj) hq
      have h6 := ho.blk p hp
      omega
    · by_cases hjk : j = k
      · subst hjk
        have e1 := new hd' hj
        subst e1
        have h5 := blkO i hd p (by omega) (old i hd (by omega) hi) hp
        have h6 := ho.blk q hq
        omega
      · exact h.apart i j hd hd' hij (old i hd (by omega) hi) (old j hd' (by omega) hj) p q hp hq

theorem Mk2.done {α : Type} {f : α → Value} {e ee : TypeId} {w wr : World} {n : Nat} {hs : List Hd} {xss : List (List α)} (h : Mk2 f e ee w wr n hs xss n) (hn : xss.length = n) : Own2 f e ee wr w.heap.size (some ⟨w.heap.size, 0, none⟩) n hs xss := by
  subst hn
  refine ⟨h.top.cast (by simp), h.len, fun i hi => ?_, h.apart⟩
  obtain ⟨hd, xs, h1, h2, h3, h4⟩ := h.row i hi
  refine ⟨hd, xs, h1, h2, h3, h4.mono (by omega), fun p q hp hq => ?_⟩
  have h5 := h4.blk q hq
  simp at hp
  subst hp
  simp
  omega

/-- A row of a slice of slices has turned, the others are as they were. -/
theorem Own2.turned {α : Type} {f : α → Value} {e ee : TypeId} {w w' : World} {base : Nat} {a : Option Addr} {c : Nat} {hs : List Hd} {xss : List (List α)} (h : Own2 f e ee w base a c hs xss) {k : Nat} {hd : Hd} (hk : hs[k]? = some hd) {ys : List α}
    (hg : w.grownBy w' (hd.1.map (·.block))) (ho : Own f e w' base hd.1 hd.2.2 ys) (hl : hd.2.1 = ys.length) : Own2 f e ee w' base a c hs (xss.set k ys) := by
  have hkl : k < hs.length := (List.getElem?_eq_some_iff.1 hk).1
  refine ⟨?_, by rw [List.length_set]; exact h.len, fun i hi => ?_, h.apart⟩
  · refine h.top.kept hg ?_
    intro g hgr p hp
    obtain ⟨hd2, xs, h1, _, _, _, h5⟩ := h.row k (by rw [← h.len]; exact hkl)
    rw [hk] at h1
    have : hd = hd2 := by simpa using h1
    subst this
    cases hd1 : hd.1 with
    | none => rw [hd1] at hgr; simp at hgr
    | some q => rw [hd1] at hgr; simp at hgr; have := h5 p q hp hd1; omega
  · rw [List.length_set] at hi
    obtain ⟨hd2, xs, h1, h2, h3, h4, h5⟩ := h.row i hi
    by_cases hik : i = k
    · subst hik
      rw [hk] at h1
      have : hd = hd2 := by simpa using h1
      subst this
      exact ⟨hd, ys, hk, by simp [hi], hl, ho, h5⟩
    · refine ⟨hd2, xs, h1, by rw [List.getElem?_set_ne (by omega)]; exact h2, h3, h4.kept hg ?_, h5⟩
      intro g hgr p hp
      cases hd1 : hd.1 with
      | none => rw [hd1] at hgr; simp at hgr
      | some q => rw [hd1] at hgr; simp at hgr; have := h.apart i k hd2 hd hik h1 hk p q hp hd1; omega

theorem Own2.blks {α : Type} {f : α → Value} {e ee : TypeId} {w : World} {base : Nat} {a : Option Addr} {c : Nat} {hs : List Hd} {xss : List (List α)} (h : Own2 f e ee w base a c hs xss) (i : Nat) (hd : Hd) (p : Addr) (hi : hs[i]? = some hd) (hp : hd.1 = some p) : p.block < w.heap.size := by
  have hl : i < xss.length := by rw [← h.len]; exact (List.getElem?_eq_some_iff.1 hi).1
  obtain ⟨hd2, xs, h1, _, _, h4, _⟩ := h.row i hl
  rw [hi] at h1
  have : hd = hd2 := by simpa using h1
  subst this
  exact (h4.blk p hp).2

/-- Either the sizes are small enough, or the answer is -1. -/
def SzOk (n : Nat) (e : Ending) : Prop := e = .returned (.int .i64 (-1)) ∨ (n ≤ 1048576 ∧ ∃ r : Int, 0 ≤ r ∧ e = .returned (.int .i64 r))

/-- The world behind the marks of all rows. -/
def RetMM (lo hi : Nat) (w : World) (en : Ending) (w' : World) : Prop := ∃ k : Int, 0 ≤ k ∧ k ≤ 4194304 ∧ en = .returned (.int .i64 k) ∧ TurnB lo hi w w'

end Go.Proofs.YtncbkbfkdgggkaaDoor

namespace Go.Proofs.YtncbkbfkdgggkaaDoor
open Go.RowKit

theorem grown_of_alloc (w : World) (o : Obj) (row : Option Nat) : w.grownBy (w.alloc o) row :=
  have hb : Below w.heap.size w (w.alloc o) := (Below.refl _ _).alloc (Nat.le_refl _) o
  ⟨hb.os, hb.tape, hb.output, hb.size, fun k hk _ => hb.block k hk⟩
theorem TurnB.alloc {lo hi : Nat} {w w' : World} (h : TurnB lo hi w w') (o : Obj) : TurnB lo hi w (w'.alloc o) :=
  h.trans (TurnB.of_grown (a := none) (grown_of_alloc _ _ _) (by simp))
theorem Blk.turned {w w' : World} {k : Nat} {cs : Array Value} {T : TypeId} (h : Blk w k cs T) {lo hi : Nat} (ht : TurnB lo hi w w') (hk : k < lo ∨ hi ≤ k) : Blk w' k cs T := by
  have := h.lt
  unfold Blk at *
  rw [ht.block k this hk]; exact h
abbrev boolM : Nat → Bool := fun k => decide (k % 3 = 0)
abbrev intM : Nat → Int := fun k => (k : Int)
theorem Own.off {α : Type} {f : α → Value} {e : TypeId} {w : World} {base : Nat} {a : Option Addr} {c : Nat} {xs : List α} (h : Own f e w base a c xs) {k : Nat} (hk : w.heap.size ≤ k) : some k ≠ a.map (·.block) := by
  cases ha : a with
  | none => simp
  | some p => have := h.blk p ha; simp; omega

end Go.Proofs.YtncbkbfkdgggkaaDoor

namespace Go.Proofs.YtncbkbfkdgggkaaDoor
open Go.RowKit

end Go.Proofs.YtncbkbfkdgggkaaDoor

namespace Go.Proofs.YtncbkbfkdgggkaaDoor
open Go.RowKit

theorem info_ff : (Tryd.prog.info? 30).map (fun i => (i.zero, i.size, i.bytes)) = some (some (hdV (none, 0, 0)), 1, 24) := by kernel_rfl

end Go.Proofs.YtncbkbfkdgggkaaDoor

namespace Go.Proofs.YtncbkbfkdgggkaaDoor
open Go.RowKit

end Go.Proofs.YtncbkbfkdgggkaaDoor

namespace Go.Proofs.YtncbkbfkdgggkaaDoor
open Go.RowKit

def qnan : Nat := 2143289344
def rep (o : Option Nat) : Nat := o.getD qnan
theorem cn_qnan : cn .f32 qnan = none := by decide +kernel
theorem cn_rep {x y : Option Nat} {bop : BinOp} : cn .f32 (rep (fbin bop .f32 x y)) = fbin bop .f32 x y := by
  cases h : fbin bop .f32 x y with
  | none => exact cn_qnan
  | some r =>
    unfold fbin at h
    cases x with
    | none => simp at h
    | some a =>
      cases y with
      | none => simp at h
      | some b =>
        have h3 : (FloatKind.f32.decode r).isNaN = false := (floatBits_nan (by simpa using h)).2.2
        simp [rep, cn, h3]

def subC (x y : Nat) : Option Nat := fbin .sub .f32 (cn .f32 x) (cn .f32 y)
def diffC (X Y : List Nat) : List (Option Nat) := List.zipWith subC X Y
def diffN (X Y : List Nat) : List Nat := (diffC X Y).map rep
theorem diffN_cn (X Y : List Nat) : (diffN X Y).map (cn .f32) = diffC X Y := by
  unfold diffN diffC
  induction X generalizing Y with
  | nil => rfl
  | cons x X ih =>
    cases Y with
    | nil => rfl
    | cons y Y =>
      simp only [List.zipWith_cons_cons, List.map_cons, ih]
      unfold subC; rw [cn_rep]
theorem diffC_len {X Y : List Nat} {n : Nat} (h1 : X.length = n) (h2 : Y.length = n) : (diffC X Y).length = n := by simp [diffC, h1, h2]
theorem diffC_succ {X Y : List Nat} {n k : Nat} (h1 : X.length = n) (h2 : Y.length = n) (h : k < n) : (diffC X Y).take (k + 1) = (diffC X Y).take k ++ [subC (X[k]?.getD 0) (Y[k]?.getD 0)] := by
  have hl : k < (diffC X Y).length := by rw [diffC_len h1 h2]; exact h
  rw [List.take_add_one, List.getElem?_eq_getElem hl]
  simp [diffC, List.getElem?_eq_getElem (show k < X.length by omega), List.getElem?_eq_getElem (show k < Y.length by omega)]

theorem dotC_map (xs ys : List Nat) : dotC xs ys = (List.zip (xs.map (cn .f32)) (ys.map (cn .f32))).foldl (fun s p => fbin .add .f32 s (fbin .mul .f32 p.1 p.2)) (some 0) := by
  unfold dotC
  rw [List.zip_map, List.foldl_map]; rfl
theorem fins_map (xs : List Nat) : fins xs = (xs.map (cn .f32)).all (fin .f32) := by
  unfold fins; rw [List.all_map]; rfl
theorem isVec_congr {xs ys : List Nat} (h : xs.map (cn .f32) = ys.map (cn .f32)) : isVec xs = isVec ys := by
  have hl : xs.length = ys.length := by have := congrArg List.length h; simpa using this
  unfold isVec
  rw [fins_map, fins_map, h, hl]
theorem norm_congr {xs ys : List Nat} (h : xs.map (cn .f32) = ys.map (cn .f32)) : normR xs = normR ys ∧ normB xs = normB ys := by
  have hd : dotC xs xs = dotC ys ys := by rw [dotC_map, dotC_map, h]
  unfold normR normB
  rw [isVec_congr h, hd]
  exact ⟨rfl, rfl⟩

theorem fin_num {x : Nat} (h : fin .f32 (cn .f32 x) = true) : ∃ s m e, FloatKind.f32.decode x = .number s m e := by
  unfold cn at h
  cases hd : FloatKind.f32.decode x with
  | number s m e => exact ⟨s, m, e, rfl⟩
  | infinity s => rw [hd] at h; simp [Ieee.Datum.isNaN, fin, hd, Ieee.Datum.isInfinity] at h
  | nan s t => rw [hd] at h; simp [Ieee.Datum.isNaN, fin] at h
/-- The difference of two finite numbers does not draw. -/
theorem sub_fin {x y : Nat} (hx : fin .f32 (cn .f32 x) = true) (hy : fin .f32 (cn .f32 y) = true) : ∃ r, floatBits .sub .f32 x y = some r ∧ cn .f32 r = subC x y := by
  obtain ⟨s, m, e, h1⟩ := fin_num hx
  obtain ⟨s2, m2, e2, h2⟩ := fin_num hy
  have : ∃ r, floatBits .sub .f32 x y = some r := by
    show ∃ r, FloatKind.f32.format.sub x y = some r
    unfold Ieee.Format.sub
    have h1' : FloatKind.f32.format.read x = .number s m e := h1
    have h2' : FloatKind.f32.format.read y = .number s2 m2 e2 := h2
    rw [h1', h2']
    exact ⟨_, rfl⟩
  obtain ⟨r, hr⟩ := this
  have hn := floatBits_nan hr
  exact ⟨r, hr, by simp [cn, subC, fbin, hn.1, hn.2.1, hn.2.2, hr]⟩
theorem vec_fin {X : List Nat} (h : isVec X = true) {k : Nat} (hk : k < X.length) : fin .f32 (cn .f32 (X[k]?.getD 0)) = true := by
  simp only [isVec, fins, Bool.and_eq_true, List.all_eq_true] at h
  rw [List.getElem?_eq_getElem hk]
  exact h.2 _ (List.getElem_mem hk)

/-- The norm of a difference, and whether it is finite. -/
def normT (X Y : List Nat) : Option Nat := normR (diffN X Y)
def normK (X Y : List Nat) : Bool := normB (diffN X Y)
theorem norm_of {ds X Y : List Nat} (h : ds.map (cn .f32) = diffC X Y) : normR ds = normT X Y ∧ normB ds = normK X Y := norm_congr (by rw [h, diffN_cn])

def leqC (x y : Option Nat) : Bool := ford .f32 x y == some .lt || ford .f32 x y == some .eq
theorem leq_cn (a b : Nat) : (FloatKind.f32.format.order a b == some .lt || FloatKind.f32.format.order a b == some .eq) = leqC (cn .f32 a) (cn .f32 b) := by
  unfold leqC; rw [order_cn]
def least0 (far : Nat) : Bool := FloatKind.f32.format.order far 0 == some .gt || FloatKind.f32.format.order far 0 == some .eq
def farOk (far : Nat) : Bool := fin .f32 (cn .f32 far) && least0 far

/-- Which rows are none, or are of another length than the first. -/
def bads (xss : List (List Nat)) (n : Int) : List Bool := xss.map fun r => !isVec r || ((r.length : Int) != n)
def pairsAll (ok : Nat → Nat → Bool) (n : Nat) : Bool := (List.range n).all fun i => (List.range n).all fun k => decide (k ≤ i) || ok i k
theorem pairsAll_iff {ok : Nat → Nat → Bool} {n : Nat} : pairsAll ok n = true ↔ ∀ i k, i < k → k < n → ok i k = true := by
  unfold pairsAll
  simp only [List.all_eq_true, List.mem_range, Bool.or_eq_true, decide_eq_true_eq]
  constructor
  · intro h i k hik hk
    rcases h i (by omega) k hk with h1 | h1
    · omega
    · exact h1
  · intro h i hi k hk
    by_cases hik : k ≤ i
    · exact .inl hik
    · exact .inr (h i k (by omega) hk)

def nearT (xss : List (List Nat)) (far : Nat) (i k : Nat) : Bool := leqC (normT (rowAt xss i) (rowAt xss k)) (cn .f32 far)
def nearK (xss : List (List Nat)) (i k : Nat) : Bool := normK (rowAt xss i) (rowAt xss k)
def rowsOk (xss : List (List Nat)) (far : Nat) : Bool := decide (1 ≤ xss.length) && decide (xss.length ≤ 32) && farOk far && !(bads xss ((rowAt xss 0).length : Int)).any id
def nearOk (xss : List (List Nat)) (far : Nat) : Bool := rowsOk xss far && pairsAll (nearK xss) xss.length
def nearR (xss : List (List Nat)) (far : Nat) : List Int := if nearOk xss far then pairsR (nearT xss far) xss.length else []
theorem nearR_len (xss : List (List Nat)) (far : Nat) : (nearR xss far).length ≤ 2048 := by
  unfold nearR
  split
  · rename_i h
    simp only [nearOk, rowsOk, Bool.and_eq_true, decide_eq_true_eq] at h
    unfold pairsR
    have h1 := prows_len (nearT xss far) xss.length xss.length
    have h2 : 2 * xss.length * xss.length ≤ 2 * 32 * 32 := Nat.mul_le_mul (by omega) (by omega)
    omega
  · simp

theorem rows_good {xss : List (List Nat)} {far : Nat} (h : rowsOk xss far = true) :
    ∃ n, 1 ≤ xss.length ∧ xss.length ≤ 32 ∧ fin .f32 (cn .f32 far) = true ∧ least0 far = true ∧ 1 ≤ n ∧ n ≤ 32 ∧ (rowAt xss 0).length = n ∧ (∀ i (h : i < xss.length), xss[i].length = n ∧ isVec xss[i] = true) := by
  simp only [rowsOk, farOk, Bool.and_eq_true, decide_eq_true_eq, Bool.not_eq_true', List.any_eq_false] at h
  obtain ⟨⟨⟨h1, h2⟩, h3, h4⟩, h5⟩ := h
  have hall : ∀ i (h : i < xss.length), xss[i].length = (rowAt xss 0).length ∧ isVec xss[i] = true := by
    intro i hi
    have := h5 (!isVec xss[i] || ((xss[i].length : Int) != ((rowAt xss 0).length : Int))) (by simp only [bads, List.mem_map]; exact ⟨xss[i], List.getElem_mem hi, rfl⟩)
    simp only [id, Bool.or_eq_true, Bool.not_eq_true', not_or, Bool.not_eq_false] at this
    refine ⟨?_, this.1⟩
    have e : (xss[i].length : Int) = ((rowAt xss 0).length : Int) := by simpa using this.2
    omega
  have hv := (hall 0 (by omega)).2
  have hl := (hall 0 (by omega)).1
  simp only [isVec, Bool.and_eq_true, decide_eq_true_eq] at hv
  exact ⟨(rowAt xss 0).length, h1, h2, h3, h4, by omega, by omega, rfl, hall⟩

end Go.Proofs.YtncbkbfkdgggkaaDoor

namespace Go.Proofs.YtncbkbfkdgggkaaDoor
open Go.RowKit

end Go.Proofs.YtncbkbfkdgggkaaDoor

namespace Go.Proofs.YtncbkbfkdgggkaaDoor
open Go.RowKit

end Go.Proofs.YtncbkbfkdgggkaaDoor

namespace Go.Proofs.YtncbkbfkdgggkaaDoor
open Go.RowKit

def divB (W n : Int) : Bool := inR W 1 n && decide (n % W = 0)
/-- The test of two rows. -/
def bandT (xss : List (List Bool)) (W m : Nat) (i k : Nat) : Bool := bandTo (rowAt xss i) (rowAt xss k) W m

/-- Whether a row's length is another than N. -/
def offs (xss : List (List Bool)) (N : Int) : List Bool := xss.map fun r => ((r.length : Int) != N)

theorem band_step {j m W : Nat} (h : j * W < m * W) : j < m ∧ j * W + W ≤ m * W := by
  have h1 : j < m := Nat.lt_of_mul_lt_mul_right h
  refine ⟨h1, ?_⟩
  have := Nat.mul_le_mul_right W (show j + 1 ≤ m from h1)
  rw [Nat.add_mul, Nat.one_mul] at this
  exact this
theorem band_end {j m W : Nat} (hW : 1 ≤ W) (hj : j ≤ m) (h : ¬ j * W < m * W) : j = m := by
  by_cases hlt : j < m
  · exact absurd (Nat.mul_lt_mul_of_pos_right hlt (by omega)) h
  · omega

end Go.Proofs.YtncbkbfkdgggkaaDoor

namespace Go.Proofs.YtncbkbfkdgggkaaDoor
open Go.RowKit

/-- What is asked of the lists and the width. -/
def bandOk (xss : List (List Bool)) (W : Int) : Bool :=
  decide (1 ≤ xss.length) && decide (xss.length ≤ 32) && inR ((rowAt xss 0).length : Int) 1 32 && !(offs xss ((rowAt xss 0).length : Int)).any id && divB W ((rowAt xss 0).length : Int)
def bandR (xss : List (List Bool)) (W : Int) : List Int :=
  if bandOk xss W then pairsR (bandT xss W.toNat ((rowAt xss 0).length / W.toNat)) xss.length else []

theorem bandOk_good {xss : List (List Bool)} {W : Int} (h : bandOk xss W = true) :
    ∃ (V m n : Nat), W = (V : Int) ∧ 1 ≤ xss.length ∧ xss.length ≤ 32 ∧ 1 ≤ V ∧ 1 ≤ n ∧ n ≤ 32 ∧ V ≤ n ∧ n = m * V ∧ (∀ i (h : i < xss.length), xss[i].length = n) ∧ (rowAt xss 0).length = n ∧ bandR xss W = pairsR (bandT xss V m) xss.length := by
  have h' := h
  simp only [bandOk, divB, Bool.and_eq_true, decide_eq_true_eq, inR_eq, Bool.not_eq_true', List.any_eq_false] at h
  obtain ⟨⟨⟨⟨h1, h2⟩, h3⟩, h4⟩, h5, h6⟩ := h
  obtain ⟨V, rfl⟩ : ∃ V : Nat, W = (V : Int) := ⟨W.toNat, by omega⟩
  obtain ⟨n, hn⟩ : ∃ n, (rowAt xss 0).length = n := ⟨_, rfl⟩
  rw [hn] at h3 h4 h5 h6
  have hmod : n % V = 0 := by omega
  refine ⟨V, n / V, n, rfl, h1, h2, by omega, by omega, by omega, by omega, ?_, ?_, hn, ?_⟩
  · rw [Nat.div_mul_cancel (Nat.dvd_of_mod_eq_zero hmod)]
  · intro i hi
    have := h4 ((xss[i].length : Int) != (n : Int)) (by simp only [offs, List.mem_map]; exact ⟨xss[i], List.getElem_mem hi, rfl⟩)
    have e : (xss[i].length : Int) = (n : Int) := by simpa using this
    omega
  · unfold bandR
    rw [if_pos h', hn]; simp

theorem bad1 {xss : List (List Bool)} {W : Int} (h : ¬ (1 ≤ xss.length ∧ xss.length ≤ 32)) : bandOk xss W = false := by
  simp only [bandOk]
  by_cases h1 : 1 ≤ xss.length
  · rw [decide_eq_false (show ¬ xss.length ≤ 32 by omega)]; simp
  · rw [decide_eq_false h1]; simp

end Go.Proofs.YtncbkbfkdgggkaaDoor

namespace Go.Proofs.YtncbkbfkdgggkaaDoor
open Go.RowKit

def fI (k : Nat) : Nat := floatOfInt .f32 (k : Int)
def fZ (d : Int) : Nat := floatOfInt .f32 d
theorem f_sub : ∀ a b : Fin 5, fbin .sub .f32 (some (fI a.val)) (some (fI b.val)) = some (fZ ((a.val : Int) - (b.val : Int))) := by decide +kernel
theorem f_sq : ∀ d : Fin 9, fbin .mul .f32 (some (fZ ((d.val : Int) - 4))) (some (fZ ((d.val : Int) - 4))) = some (fZ (((d.val : Int) - 4) * ((d.val : Int) - 4))) := by decide +kernel
theorem f_fin : ∀ d : Fin 9, fin .f32 (some (fZ ((d.val : Int) - 4))) = true := by decide +kernel
theorem f_add : ∀ (s : Fin 241) (q : Fin 17), fbin .add .f32 (some (fZ (s.val : Int))) (some (fZ (q.val : Int))) = some (fZ ((s.val : Int) + (q.val : Int))) := by decide +kernel
theorem f_root : ∀ s : Fin 257, fin .f32 (rootC (some (fZ (s.val : Int)))) = true := by decide +kernel
theorem f_root0 : ifFin (rootC (some (fZ 0))) = some 0 := by decide +kernel
theorem f_zero : fZ 0 = 0 := by decide +kernel
theorem fz_cn (d : Int) : cn .f32 (fZ d) = some (fZ d) := cn_ofInt .f32 d

theorem sq_bd {d : Int} (h : -4 ≤ d ∧ d ≤ 4) : 0 ≤ d * d ∧ d * d ≤ 16 := by
  have h3 : d = -4 ∨ d = -3 ∨ d = -2 ∨ d = -1 ∨ d = 0 ∨ d = 1 ∨ d = 2 ∨ d = 3 ∨ d = 4 := by omega
  rcases h3 with rfl | rfl | rfl | rfl | rfl | rfl | rfl | rfl | rfl <;> decide
def sqS : List Int → Int
  | [] => 0
  | d :: ds => d * d + sqS ds
theorem sqS_bd : ∀ {ds : List Int}, (∀ d ∈ ds, -4 ≤ d ∧ d ≤ 4) → 0 ≤ sqS ds ∧ sqS ds ≤ 16 * ds.length
  | [], _ => by simp [sqS]
  | d :: ds, h => by
    have h1 := sqS_bd (ds := ds) (fun x hx => h x (by simp [hx]))
    have h2 := sq_bd (h d (by simp))
    show 0 ≤ d * d + sqS ds ∧ d * d + sqS ds ≤ 16 * ((ds.length + 1 : Nat) : Int)
    generalize d * d = e at h2 ⊢
    omega
theorem dot_fold : ∀ {ds : List Int} {s : Int}, (∀ d ∈ ds, -4 ≤ d ∧ d ≤ 4) → 0 ≤ s → s + 16 * ds.length ≤ 256 →
    (List.zip (ds.map fun d => some (fZ d)) (ds.map fun d => some (fZ d))).foldl (fun s p => fbin .add .f32 s (fbin .mul .f32 p.1 p.2)) (some (fZ s)) = some (fZ (s + sqS ds))
  | [], s, _, _, _ => by simp [sqS]
  | d :: ds, s, h, h0, h1 => by
    have hd := h d (by simp)
    have hq := sq_bd hd
    have hl : ((d :: ds).length : Int) = (ds.length : Int) + 1 := by simp
    rw [hl] at h1
    show (List.zip (ds.map fun d => some (fZ d)) (ds.map fun d => some (fZ d))).foldl _ (fbin .add .f32 (some (fZ s)) (fbin .mul .f32 (some (fZ d)) (some (fZ d)))) = _
    have e1 := f_sq ⟨(d + 4).toNat, by omega⟩
    have e2 : (((d + 4).toNat : Nat) : Int) - 4 = d := by omega
    simp only [e2] at e1
    rw [e1]
    have e3 := f_add ⟨s.toNat, by omega⟩ ⟨(d * d).toNat, by omega⟩
    have e4 : ((s.toNat : Nat) : Int) = s := by omega
    have e5 : (((d * d).toNat : Nat) : Int) = d * d := by omega
    simp only [e4, e5] at e3
    rw [e3, dot_fold (fun x hx => h x (by simp [hx])) (by omega) (by omega)]
    show _ = some (fZ (s + (d * d + sqS ds)))
    rw [Int.add_assoc]

/-- Differences of small whole numbers. -/
def dI (A B : List Nat) : List Int := List.zipWith (fun (a b : Nat) => (a : Int) - (b : Int)) A B
/-- Vectors of small whole numbers. -/
def vIB (A : List Nat) : List Nat := A.map fI
theorem diff_vI : ∀ {A B : List Nat}, (∀ a ∈ A, a ≤ 4) → (∀ b ∈ B, b ≤ 4) → diffC (vIB A) (vIB B) = (dI A B).map fun d => some (fZ d)
  | [], B, _, _ => by simp [diffC, vIB, dI]
  | a :: A, [], _, _ => by simp [diffC, vIB, dI]
  | a :: A, b :: B, hA, hB => by
    have ih := diff_vI (A := A) (B := B) (fun x hx => hA x (by simp [hx])) (fun x hx => hB x (by simp [hx]))
    have h1 : subC (fI a) (fI b) = some (fZ ((a : Int) - (b : Int))) := by
      unfold subC
      have e1 : cn .f32 (fI a) = some (fI a) := cn_ofInt .f32 _
      have e2 : cn .f32 (fI b) = some (fI b) := cn_ofInt .f32 _
      rw [e1, e2]
      exact f_sub ⟨a, by have := hA a (by simp); omega⟩ ⟨b, by have := hB b (by simp); omega⟩
    show subC (fI a) (fI b) :: diffC (vIB A) (vIB B) = some (fZ ((a : Int) - (b : Int))) :: _
    rw [h1, ih]; rfl
theorem zip_bd : ∀ {A B : List Nat}, (∀ a ∈ A, a ≤ 4) → (∀ b ∈ B, b ≤ 4) → ∀ d ∈ dI A B, -4 ≤ d ∧ d ≤ 4
  | [], _, _, _, d, h => by simp [dI] at h
  | _ :: _, [], _, _, d, h => by simp [dI] at h
  | a :: A, b :: B, hA, hB, d, h => by
    have h : d ∈ ((a : Int) - (b : Int)) :: dI A B := h
    rw [List.mem_cons] at h
    rcases h with rfl | h
    · have := hA a (by simp); have := hB b (by simp); omega
    · exact zip_bd (fun x hx => hA x (by simp [hx])) (fun x hx => hB x (by simp [hx])) d h
theorem zip_self : ∀ {A : List Nat}, sqS (dI A A) = 0
  | [] => rfl
  | a :: A => by
    show ((a : Int) - (a : Int)) * ((a : Int) - (a : Int)) + sqS (dI A A) = 0
    rw [zip_self, Int.sub_self]; rfl
theorem fin_small {d : Int} (h : -4 ≤ d ∧ d ≤ 4) : fin .f32 (some (fZ d)) = true := by
  have e1 := f_fin ⟨(d + 4).toNat, by omega⟩
  have e2 : (((d + 4).toNat : Nat) : Int) - 4 = d := by omega
  simp only [e2] at e1
  exact e1
theorem norm_small {A B : List Nat} {n : Nat} (hA : ∀ a ∈ A, a ≤ 4) (hB : ∀ b ∈ B, b ≤ 4) (lA : A.length = n) (lB : B.length = n) (h1 : 1 ≤ n) (h16 : n ≤ 16) :
    normK (vIB A) (vIB B) = true ∧ normT (vIB A) (vIB B) = ifFin (rootC (some (fZ (sqS (dI A B))))) := by
  have hd := diff_vI hA hB
  have hb := zip_bd hA hB
  have hlz : (dI A B).length = n := by simp [dI, lA, lB]
  have hN := diffN_cn (vIB A) (vIB B)
  have hlen : (diffN (vIB A) (vIB B)).length = n := by
    have := congrArg List.length hN
    rw [List.length_map, hd, List.length_map, hlz] at this
    exact this
  have hvec : isVec (diffN (vIB A) (vIB B)) = true := by
    unfold isVec
    rw [hlen, fins_map, hN, hd, decide_eq_true h1, decide_eq_true (by omega)]
    simp only [Bool.true_and, List.all_map, List.all_eq_true]
    intro d hdm
    exact fin_small (hb d hdm)
  have hdot : dotC (diffN (vIB A) (vIB B)) (diffN (vIB A) (vIB B)) = some (fZ (sqS (dI A B))) := by
    rw [dotC_map, hN, hd]
    have h := dot_fold (s := 0) hb (by omega) (by rw [hlz]; omega)
    rw [f_zero, Int.zero_add] at h
    exact h
  have hbd := sqS_bd hb
  rw [hlz] at hbd
  generalize sqS (dI A B) = S at hdot hbd ⊢
  have hr : fin .f32 (rootC (some (fZ S))) = true := by
    have e1 := f_root ⟨S.toNat, by omega⟩
    have e2 : ((S.toNat : Nat) : Int) = S := by omega
    simp only [e2] at e1
    exact e1
  refine ⟨?_, ?_⟩
  · unfold normK normB; rw [hvec, hdot, hr]; rfl
  · unfold normT normR; rw [if_pos hvec, hdot]

def farN (k : Nat) : Nat := (fbin .quo .f32 (some (fI k)) (some 1082130432)).getD 0
theorem far_ok : ∀ k : Fin 17, fbin .quo .f32 (some (fI k.val)) (some 1082130432) = some (farN k.val) ∧ cn .f32 (farN k.val) = some (farN k.val) ∧ farOk (farN k.val) = true ∧ leqC (some 0) (some (farN k.val)) = true := by decide +kernel

/-- How often a pair is in a list of pairs. -/
def cnt2 (a b : Int) : List Int → Nat
  | x :: y :: r => (if x = a ∧ y = b then 1 else 0) + cnt2 a b r
  | _ => 0
theorem cnt2_app {a b : Int} : ∀ (l r : List Int) (k : Nat), l.length = 2 * k → cnt2 a b (l ++ r) = cnt2 a b l + cnt2 a b r
  | [], r, _, _ => by simp [cnt2]
  | [x], _, k, h => by simp at h; omega
  | x :: y :: l, r, k, h => by
    have h' : l.length = 2 * (k - 1) := by simp at h; omega
    show _ + cnt2 a b (l ++ r) = _ + cnt2 a b l + _
    rw [cnt2_app l r (k - 1) h']; omega
theorem prow_even (t : Nat → Nat → Bool) (i k : Nat) : ∃ m, (prow t i k).length = 2 * m := by
  unfold prow
  have h : ∀ l : List Nat, (l.flatMap fun (j : Nat) => [(i : Int), (j : Int)]).length = 2 * l.length := by
    intro l; induction l with
    | nil => rfl
    | cons x l ih => simp only [List.flatMap_cons, List.length_append, ih, List.length_cons, List.length_nil]; omega
  exact ⟨_, h _⟩
theorem prows_even (t : Nat → Nat → Bool) (n : Nat) : ∀ i, ∃ m, (prows t n i).length = 2 * m
  | 0 => ⟨0, by simp [prows]⟩
  | i + 1 => by
    obtain ⟨m1, h1⟩ := prows_even t n i
    obtain ⟨m2, h2⟩ := prow_even t i n
    exact ⟨m1 + m2, by rw [prows_succ, List.length_append, h1, h2]; omega⟩
theorem cnt2_prow_ne (t : Nat → Nat → Bool) {i : Nat} (hi : i ≠ 0) (b : Int) : ∀ k, cnt2 0 b (prow t i k) = 0 := by
  intro k
  unfold prow
  generalize (List.range' (i + 1) (k - (i + 1))).filter (t i) = l
  induction l with
  | nil => rfl
  | cons x l ih =>
    show (if (i : Int) = 0 ∧ (x : Int) = b then 1 else 0) + cnt2 0 b (l.flatMap fun (j : Nat) => [(i : Int), (j : Int)]) = 0
    rw [ih, if_neg (by omega)]
theorem cnt2_prow0 (t : Nat → Nat → Bool) (c : Nat) : ∀ k, k ≤ c → cnt2 0 (c : Int) (prow t 0 k) = 0 := by
  intro k hk
  unfold prow
  have hm : ∀ x ∈ (List.range' (0 + 1) (k - (0 + 1))).filter (t 0), x < c := by
    intro x hx
    have := (List.mem_filter.1 hx).1
    rw [List.mem_range'_1] at this
    omega
  generalize (List.range' (0 + 1) (k - (0 + 1))).filter (t 0) = l at hm
  induction l with
  | nil => rfl
  | cons x l ih =>
    show (if ((0 : Nat) : Int) = 0 ∧ (x : Int) = (c : Int) then 1 else 0) + cnt2 0 (c : Int) (l.flatMap fun (j : Nat) => [((0 : Nat) : Int), (j : Int)]) = 0
    have := hm x (by simp)
    rw [ih (fun y hy => hm y (by simp [hy])), if_neg (by omega)]
theorem cnt2_pairs {t : Nat → Nat → Bool} {c : Nat} (hc : 1 ≤ c) (ht : t 0 c = true) : cnt2 0 (c : Int) (pairsR t (c + 1)) = 1 := by
  have key : ∀ i, 1 ≤ i → cnt2 0 (c : Int) (prows t (c + 1) i) = 1 := by
    intro i
    induction i with
    | zero => intro h; omega
    | succ i ih =>
      intro _
      obtain ⟨m, hm⟩ := prows_even t (c + 1) i
      rw [prows_succ, cnt2_app _ _ m hm]
      by_cases h0 : i = 0
      · subst h0
        rw [prows_zero, prow_succ t (by omega), ht, if_pos rfl]
        obtain ⟨m2, hm2⟩ := prow_even t 0 c
        rw [cnt2_app _ _ m2 hm2, cnt2_prow0 t c c (Nat.le_refl _)]
        show 0 + (0 + ((if ((0 : Nat) : Int) = 0 ∧ (c : Int) = (c : Int) then 1 else 0) + 0)) = 1
        rw [if_pos ⟨rfl, rfl⟩]
      · rw [ih (by omega), cnt2_prow_ne t h0]
  exact key (c + 1) (by omega)

end Go.Proofs.YtncbkbfkdgggkaaDoor

namespace Go.Proofs.YtncbkbfkdgggkaaDoor
open Go.RowKit

theorem rowAt_app_lt {α : Type} {xs : List (List α)} {x : List α} {i : Nat} (h : i < xs.length) : rowAt (xs ++ [x]) i = rowAt xs i := by
  unfold rowAt; rw [List.getElem?_append_left h]
theorem rowAt_app_end {α : Type} {xs : List (List α)} {x : List α} : rowAt (xs ++ [x]) xs.length = x := by
  unfold rowAt; rw [List.getElem?_append_right (Nat.le_refl _)]; simp
theorem rowAt_of {α : Type} {xs : List (List α)} {x : List α} {i : Nat} (h : xs[i]? = some x) : rowAt xs i = x := by unfold rowAt; rw [h]; rfl
theorem pairsR_even (t : Nat → Nat → Bool) (n : Nat) : ∃ k, (pairsR t n).length = 2 * k := prows_even t n n
theorem cnt2_step {a b x y : Int} {l : List Int} {K j : Nat} (hK : K = 2 * j) (hx : l[K]? = some x) (hy : l[K + 1]? = some y) : cnt2 a b (l.take (K + 2)) = cnt2 a b (l.take K) + (if x = a ∧ y = b then 1 else 0) := by
  have hlt := (List.getElem?_eq_some_iff.1 hy).1
  have e : l.take (K + 2) = l.take K ++ [x, y] := by
    rw [show K + 2 = (K + 1) + 1 by omega, List.take_add_one, List.take_add_one, hx, hy]; simp
  rw [e, cnt2_app _ _ j (by rw [List.length_take]; omega)]
  show _ + ((if x = a ∧ y = b then 1 else 0) + 0) = _
  omega
theorem cnt2_le {a b : Int} : ∀ l : List Int, cnt2 a b l ≤ l.length
  | [] => by simp [cnt2]
  | [x] => by simp [cnt2]
  | x :: y :: r => by
    have := cnt2_le (a := a) (b := b) r
    show (if x = a ∧ y = b then 1 else 0) + cnt2 a b r ≤ r.length + 2
    split <;> omega
theorem band_law {bs : List (List Bool)} {x : List Bool} {n W m : Nat} (hb : ∀ b ∈ bs, b.length = n) (h0 : bs[0]? = some x) (h1 : bs.length ≤ 6) (hn : 1 ≤ n ∧ n ≤ 16) (hW : 1 ≤ W) (hm : 1 ≤ m) (hnm : m * W = n) :
    bandOk (bs ++ [x]) (W : Int) = true ∧ cnt2 0 (bs.length : Int) (bandR (bs ++ [x]) (W : Int)) = 1 ∧ ∃ k, (bandR (bs ++ [x]) (W : Int)).length = 2 * k := by
  have hlen0 : 0 < bs.length := (List.getElem?_eq_some_iff.1 h0).1
  have hxm : x ∈ bs := List.mem_of_getElem? h0
  have hr0 : rowAt (bs ++ [x]) 0 = x := by rw [rowAt_app_lt hlen0, rowAt_of h0]
  have hall : ∀ r ∈ bs ++ [x], r.length = n := fun r hr => by
    rcases List.mem_append.1 hr with h | h
    · exact hb r h
    · simp at h; rw [h]; exact hb x hxm
  have hxl := hb x hxm
  have hWn : W ≤ n := by rw [← hnm]; exact Nat.le_mul_of_pos_left _ hm
  have hok : bandOk (bs ++ [x]) (W : Int) = true := by
    unfold bandOk
    rw [hr0, hxl]
    simp only [Bool.and_eq_true, decide_eq_true_eq, inR_eq, Bool.not_eq_true', List.any_eq_false, divB]
    have hmod : (n : Int) % (W : Int) = 0 := by
      rw [← hnm]; push_cast; exact Int.mul_emod_left _ _
    refine ⟨⟨⟨⟨?_, ?_⟩, ?_⟩, ?_⟩, ?_⟩
    · simp
    · simp; omega
    · omega
    · intro b hbm
      unfold offs at hbm
      simp only [List.mem_map] at hbm
      obtain ⟨r, hr, rfl⟩ := hbm
      rw [hall r hr]; simp
    · exact ⟨by omega, hmod⟩
  obtain ⟨V, m', n', hV, _, _, hV1, hn1, _, _, hn', _, _, hR⟩ := bandOk_good hok
  have hVW : V = W := by omega
  subst hVW
  refine ⟨hok, ?_, ?_⟩
  · rw [hR, List.length_append, List.length_singleton]
    refine cnt2_pairs hlen0 ?_
    unfold bandT
    rw [hr0, rowAt_app_end]
    have hm' : 0 < m' := by
      rcases Nat.eq_zero_or_pos m' with h | h
      · subst h; omega
      · exact h
    exact bandTo_yes (m := 0) (by simp) hm'
  · rw [hR]; exact pairsR_even _ _

theorem bandRL_len {xss : List (List Bool)} {W : Int} : (bandR xss W).length ≤ 2048 := by
  by_cases h : bandOk xss W = true
  · obtain ⟨V, m', n', hV, _, h32, _, _, _, _, _, _, _, hR⟩ := bandOk_good h
    rw [hR]
    have h1 := prows_len (bandT xss V m') xss.length xss.length
    have h2 : 2 * xss.length * xss.length ≤ 2 * 32 * 32 := Nat.mul_le_mul (by omega) h32
    unfold pairsR
    omega
  · unfold bandR; rw [if_neg h]; simp
theorem rowAt_map {AS : List (List Nat)} {i : Nat} (h : i < AS.length) : rowAt (AS.map vIB) i = vIB (AS[i]'h) := by
  unfold rowAt; rw [List.getElem?_map, List.getElem?_eq_getElem h]; rfl
theorem vec_vI {A : List Nat} {n : Nat} (hA : ∀ a ∈ A, a ≤ 4) (l : A.length = n) (hn : 1 ≤ n ∧ n ≤ 16) : isVec (vIB A) = true := by
  unfold isVec
  have hl : (vIB A).length = n := by unfold vIB; rw [List.length_map]; exact l
  rw [hl, decide_eq_true hn.1, decide_eq_true (by omega)]
  simp only [Bool.true_and, fins, List.all_eq_true]
  intro x hx
  unfold vIB at hx
  obtain ⟨a, ha, rfl⟩ := List.mem_map.1 hx
  have e : fI a = fZ (a : Int) := rfl
  rw [e, fz_cn]
  exact fin_small (by have := hA a ha; omega)
theorem near_law {AS : List (List Nat)} {x : List Nat} {n k : Nat} (hb : ∀ A ∈ AS, A.length = n ∧ ∀ a ∈ A, a ≤ 4) (h0 : AS[0]? = some x) (h1 : AS.length ≤ 6) (hn : 1 ≤ n ∧ n ≤ 16) (hk : k < 17) :
    nearOk ((AS ++ [x]).map vIB) (farN k) = true ∧ cnt2 0 (AS.length : Int) (nearR ((AS ++ [x]).map vIB) (farN k)) = 1 ∧ ∃ j, (nearR ((AS ++ [x]).map vIB) (farN k)).length = 2 * j := by
  have hlen0 : 0 < AS.length := (List.getElem?_eq_some_iff.1 h0).1
  have hxm : x ∈ AS := List.mem_of_getElem? h0
  have hall : ∀ A ∈ AS ++ [x], A.length = n ∧ ∀ a ∈ A, a ≤ 4 := fun r hr => by
    rcases List.mem_append.1 hr with h | h
    · exact hb r h
    · simp at h; rw [h]; exact hb x hxm
  obtain ⟨f1, f2, f3, f4⟩ := far_ok ⟨k, hk⟩
  simp only at f1 f2 f3 f4
  have hlen : ((AS ++ [x]).map vIB).length = AS.length + 1 := by simp
  have hrow : ∀ i, (h : i < AS.length + 1) → rowAt ((AS ++ [x]).map vIB) i = vIB ((AS ++ [x])[i]'(by simp; omega)) := fun i h => rowAt_map (by simp; omega)
  have hr0 : rowAt ((AS ++ [x]).map vIB) 0 = vIB x := by
    rw [hrow 0 (by omega)]
    congr 1
    rw [List.getElem_append_left hlen0]
    exact (List.getElem?_eq_some_iff.1 h0).2
  have hre : rowAt ((AS ++ [x]).map vIB) AS.length = vIB x := by
    rw [hrow _ (by omega)]
    congr 1
    simp
  have hxl : (vIB x).length = n := by unfold vIB; rw [List.length_map]; exact (hb x hxm).1
  have hrows : rowsOk ((AS ++ [x]).map vIB) (farN k) = true := by
    unfold rowsOk
    rw [hr0, hxl, f3]
    simp only [Bool.and_eq_true, decide_eq_true_eq, Bool.not_eq_true', List.any_eq_false]
    refine ⟨⟨⟨?_, ?_⟩, trivial⟩, ?_⟩
    · simp
    · simp; omega
    · intro b hbm
      unfold bads at hbm
      simp only [List.mem_map] at hbm
      obtain ⟨r, ⟨A, hA, rfl⟩, rfl⟩ := hbm
      have h2 := hall A hA
      have h3 : (vIB A).length = n := by unfold vIB; rw [List.length_map]; exact h2.1
      rw [vec_vI h2.2 h2.1 hn, h3]; simp
  have hpairs : pairsAll (nearK ((AS ++ [x]).map vIB)) ((AS ++ [x]).map vIB).length = true := by
    rw [pairsAll_iff]
    intro i j hij hj
    rw [hlen] at hj
    unfold nearK
    rw [hrow i (by omega), hrow j hj]
    have hi2 := hall _ (List.getElem_mem (l := AS ++ [x]) (n := i) (by simp; omega))
    have hj2 := hall _ (List.getElem_mem (l := AS ++ [x]) (n := j) (by simp; omega))
    exact (norm_small hi2.2 hj2.2 hi2.1 hj2.1 hn.1 hn.2).1
  have hok : nearOk ((AS ++ [x]).map vIB) (farN k) = true := by unfold nearOk; rw [hrows, hpairs]; rfl
  have hR : nearR ((AS ++ [x]).map vIB) (farN k) = pairsR (nearT ((AS ++ [x]).map vIB) (farN k)) (AS.length + 1) := by unfold nearR; rw [if_pos hok, hlen]
  refine ⟨hok, ?_, ?_⟩
  · rw [hR]
    refine cnt2_pairs hlen0 ?_
    unfold nearT
    rw [hr0, hre, (norm_small (hb x hxm).2 (hb x hxm).2 (hb x hxm).1 (hb x hxm).1 hn.1 hn.2).2, zip_self, f_root0, f2]
    exact f4
  · rw [hR]; exact pairsR_even _ _

end Go.Proofs.YtncbkbfkdgggkaaDoor

namespace Go.Proofs.YtncbkbfkdgggkaaDoor
open Go.RowKit

def room (l s : Int) : Int := if l < s then -1 else l - s
theorem room_no {l s : Int} (h : l < s) : room l s = -1 := if_pos h
theorem room_yes {l s : Int} (h : ¬ l < s) : room l s = l - s := if_neg h



end Go.Proofs.YtncbkbfkdgggkaaDoor

namespace Go.Proofs.YtncbkbfkdgggkaaDoor
open Go.RowKit

/-- The struct in new memory. -/
def RetCells (w : World) (W D S : Int) (cs : List Int) (en : Ending) (w' : World) : Prop :=
  ∃ pcs qcs, en = .returned (.agg #[.int .i64 W, .int .i64 D, .int .i64 S, .slice pcs cs.length qcs]) ∧ Own (Value.int .i64) 2 w' w.heap.size pcs qcs cs ∧ Below w.heap.size w w'

end Go.Proofs.YtncbkbfkdgggkaaDoor

namespace Go.Proofs.YtncbkbfkdgggkaaDoor
open Go.RowKit

/-- The struct in new memory. -/
def RetTops (w : World) (R : Int) (ks : List Int) (cs : List Int) (es : List Int) (en : Ending) (w' : World) : Prop :=
  ∃ pks qks pcs qcs pes qes, en = .returned (.agg #[.int .i64 R, .slice pks ks.length qks, .slice pcs cs.length qcs, .slice pes es.length qes]) ∧ Own (Value.int .i64) 2 w' w.heap.size pks qks ks ∧ Own (Value.int .i64) 2 w' w.heap.size pcs qcs cs ∧ Own (Value.int .i64) 2 w' w.heap.size pes qes es ∧ Below w.heap.size w w'

end Go.Proofs.YtncbkbfkdgggkaaDoor

namespace Go.Proofs.YtncbkbfkdgggkaaDoor
open Go.RowKit

/-- A saved one in new memory. -/
def RetSaved (w : World) (nm : ByteArray) (W D S R : Int) (cs ks ts es : List Int) (en : Ending) (w' : World) : Prop :=
  ∃ pcs qcs pks qks pts qts pes qes, en = .returned (.agg #[.string nm, .int .i64 W, .int .i64 D, .int .i64 S, .slice pcs cs.length qcs, .int .i64 R, .slice pks ks.length qks, .slice pts ts.length qts, .slice pes es.length qes]) ∧ Own (Value.int .i64) 2 w' w.heap.size pcs qcs cs ∧ Own (Value.int .i64) 2 w' w.heap.size pks qks ks ∧ Own (Value.int .i64) 2 w' w.heap.size pts qts ts ∧ Own (Value.int .i64) 2 w' w.heap.size pes qes es ∧ Below w.heap.size w w'

end Go.Proofs.YtncbkbfkdgggkaaDoor

namespace Go.Proofs.YtncbkbfkdgggkaaDoor
open Go.RowKit

/-- What is saved. -/
structure Sv where
  nm : ByteArray
  W : Int
  D : Int
  S : Int
  cs : List Int
  R : Int
  ks : List Int
  ts : List Int
  es : List Int
/-- Where its four lists lie. -/
structure SvH where
  a0 : Option Addr
  c0 : Nat
  a1 : Option Addr
  c1 : Nat
  a2 : Option Addr
  c2 : Nat
  a3 : Option Addr
  c3 : Nat
def svV (h : SvH) (s : Sv) : Array Value := #[.string s.nm, .int .i64 s.W, .int .i64 s.D, .int .i64 s.S, .slice h.a0 s.cs.length h.c0, .int .i64 s.R, .slice h.a1 s.ks.length h.c1, .slice h.a2 s.ts.length h.c2, .slice h.a3 s.es.length h.c3]
/-- A saved one reads. -/
structure SvRd (w : World) (h : SvH) (s : Sv) : Prop where
  nm : s.nm.size ≤ 9223372036854775807
  cs : Rd (Value.int .i64) w h.a0 h.c0 s.cs
  ks : Rd (Value.int .i64) w h.a1 h.c1 s.ks
  ts : Rd (Value.int .i64) w h.a2 h.c2 s.ts
  es : Rd (Value.int .i64) w h.a3 h.c3 s.es
theorem SvRd.below {w w' : World} {h : SvH} {s : Sv} (g : SvRd w h s) {B : Nat} (hb : Below B w w') (hB : w.heap.size ≤ B) : SvRd w' h s :=
  ⟨g.nm, g.cs.below hb hB, g.ks.below hb hB, g.ts.below hb hB, g.es.below hb hB⟩
/-- A saved one in memory of its own. -/
structure SvOwn (w : World) (base : Nat) (h : SvH) (s : Sv) : Prop where
  nm : s.nm.size ≤ 9223372036854775807
  cs : Own (Value.int .i64) 2 w base h.a0 h.c0 s.cs
  ks : Own (Value.int .i64) 2 w base h.a1 h.c1 s.ks
  ts : Own (Value.int .i64) 2 w base h.a2 h.c2 s.ts
  es : Own (Value.int .i64) 2 w base h.a3 h.c3 s.es
theorem SvOwn.rd {w : World} {base : Nat} {h : SvH} {s : Sv} (g : SvOwn w base h s) : SvRd w h s := ⟨g.nm, g.cs.rd, g.ks.rd, g.ts.rd, g.es.rd⟩
theorem SvOwn.below {w w' : World} {base : Nat} {h : SvH} {s : Sv} (g : SvOwn w base h s) {B : Nat} (hb : Below B w w') (hB : w.heap.size ≤ B) : SvOwn w' base h s :=
  ⟨g.nm, g.cs.below hb hB, g.ks.below hb hB, g.ts.below hb hB, g.es.below hb hB⟩
theorem SvOwn.mono {w : World} {base b' : Nat} {h : SvH} {s : Sv} (g : SvOwn w base h s) (hb : b' ≤ base) : SvOwn w b' h s :=
  ⟨g.nm, g.cs.mono hb, g.ks.mono hb, g.ts.mono hb, g.es.mono hb⟩
theorem SvOwn.setFar {w : World} {base : Nat} {h : SvH} {s : Sv} (g : SvOwn w base h s) (p : Addr) (v : Value) (hp : p.block < base) : SvOwn (w.setCell p v) base h s :=
  ⟨g.nm, g.cs.setFar p v hp, g.ks.setFar p v hp, g.ts.setFar p v hp, g.es.setFar p v hp⟩

/-- A list of saved ones reads. -/
structure Rd9 (w : World) (a : Option Addr) (c : Nat) (hs : List SvH) (ss : List Sv) : Prop where
  cap : ss.length ≤ c
  max : c ≤ 9223372036854775807
  here : 0 < ss.length → ∃ b o, a = some ⟨b, o, none⟩ ∧ b < w.heap.size
  row : ∀ k, k < ss.length → ∃ h s, hs[k]? = some h ∧ ss[k]? = some s ∧ SvRd w h s ∧ ∀ j, j < 9 → w.cell? ⟨(a.getD ⟨0, 0, none⟩).block, (a.getD ⟨0, 0, none⟩).off + (k * 9 + j), none⟩ = (svV h s)[j]?
section
variable {w w' : World} {a : Option Addr} {c : Nat} {hs : List SvH} {ss : List Sv}
theorem Rd9.below (h : Rd9 w a c hs ss) {B : Nat} (hb : Below B w w') (hB : w.heap.size ≤ B) : Rd9 w' a c hs ss := by
  refine ⟨h.cap, h.max, fun h0 => ?_, fun k hk => ?_⟩
  · obtain ⟨b, o, e, hlt⟩ := h.here h0; exact ⟨b, o, e, Nat.lt_of_lt_of_le hlt hb.size⟩
  · obtain ⟨b, o, e, hlt⟩ := h.here (by omega)
    subst e
    obtain ⟨hd, s, e1, e2, hr, hc⟩ := h.row k hk
    refine ⟨hd, s, e1, e2, hr.below hb hB, fun j hj => ?_⟩
    rw [← hc j hj]
    exact hb.cell (p := ⟨b, o + (k * 9 + j), none⟩) (Nat.lt_of_lt_of_le hlt hB)
theorem Rd9.len (h : Rd9 w a c hs ss) : ss.length ≤ 9223372036854775807 := Nat.le_trans h.cap h.max
/-- Row k of a list at a place. -/
theorem Rd9.at {b o : Nat} (h : Rd9 w (some ⟨b, o, none⟩) c hs ss) {k : Nat} (hk : k < ss.length) : ∃ hd, SvRd w hd ss[k] ∧
    w.cell? ⟨b, o + k * 9, none⟩ = some (.string ss[k].nm) ∧ w.cell? ⟨b, o + k * 9 + 1, none⟩ = some (.int .i64 ss[k].W) ∧ w.cell? ⟨b, o + k * 9 + 2, none⟩ = some (.int .i64 ss[k].D) ∧ w.cell? ⟨b, o + k * 9 + 3, none⟩ = some (.int .i64 ss[k].S) ∧ w.cell? ⟨b, o + k * 9 + 4, none⟩ = some (.slice hd.a0 ss[k].cs.length hd.c0) ∧ w.cell? ⟨b, o + k * 9 + 5, none⟩ = some (.int .i64 ss[k].R) ∧ w.cell? ⟨b, o + k * 9 + 6, none⟩ = some (.slice hd.a1 ss[k].ks.length hd.c1) ∧ w.cell? ⟨b, o + k * 9 + 7, none⟩ = some (.slice hd.a2 ss[k].ts.length hd.c2) ∧ w.cell? ⟨b, o + k * 9 + 8, none⟩ = some (.slice hd.a3 ss[k].es.length hd.c3) := by
  obtain ⟨hd, s, e1, e2, hr, hc⟩ := h.row k hk
  have hs' : ss[k] = s := by rw [List.getElem?_eq_getElem hk] at e2; simpa using e2
  rw [hs']
  exact ⟨hd, hr, hc 0 (by omega), hc 1 (by omega), hc 2 (by omega), hc 3 (by omega), hc 4 (by omega), hc 5 (by omega), hc 6 (by omega), hc 7 (by omega), hc 8 (by omega)⟩
end
theorem idx9 {P : Program} {T : TypeId} {b o n c : Nat} (hT : P.underlying T = some (.slice (P.elem T))) (hs : ∀ w, (sizeOf (P.elem T)).run P w = .ok 9 w) :
    ∀ (w' : World) (k : Nat), k < n → (Instr.indexAt T (.slice (some ⟨b, o, none⟩) n c) (.int .i64 (k : Int))).run P w' = .ok (.pointer (some ⟨b, o + k * 9, none⟩)) w' := by
  intro w' k hk
  rw [run_indexAt_slice (h := hT), if_pos (by omega), hs]
  simp [Result.andThen, add_elt]

/-- Its size. -/
def svSize (s : Sv) : Int := (s.nm.size : Int) + ((s.cs.length : Int)) + ((s.ks.length : Int) + (s.ts.length : Int) + (s.es.length : Int))
theorem svSize_nn (s : Sv) : 0 ≤ svSize s := by unfold svSize; omega
def svSum : List Sv → Int
  | [] => 0
  | s :: ss => svSize s + svSum ss
theorem svSum_nn (ss : List Sv) : 0 ≤ svSum ss := by
  induction ss with
  | nil => exact Int.le_refl _
  | cons s ss ih => have := svSize_nn s; unfold svSum; omega
theorem svSum_app (xs ys : List Sv) : svSum (xs ++ ys) = svSum xs + svSum ys := by
  induction xs with
  | nil => simp [svSum]
  | cons s ss ih => simp only [List.cons_append, svSum, ih]; omega
theorem svSum_succ {ss : List Sv} {k : Nat} (h : k < ss.length) : svSum (ss.take (k + 1)) = svSum (ss.take k) + svSize ss[k] := by
  rw [List.take_add_one, List.getElem?_eq_getElem h, svSum_app]
  simp [svSum]
theorem svSum_le (ss : List Sv) (k : Nat) : svSum (ss.take k) ≤ svSum ss := by
  have h : svSum ss = svSum (ss.take k) + svSum (ss.drop k) := by rw [← svSum_app, List.take_append_drop]
  have := svSum_nn (ss.drop k)
  omega
def svsSize (ss : List Sv) : Int := (ss.length : Int) + svSum ss
theorem svsSize_row {ss : List Sv} {k : Nat} (h : k < ss.length) {n : Int} (hn : svsSize ss ≤ n) : svSize ss[k] ≤ n := by
  have h1 := svSum_succ h
  have h2 := svSum_le ss (k + 1)
  have h3 := svSum_nn (ss.take k)
  unfold svsSize at hn
  omega

/-- Nine stores. -/
def put9 (w : World) (g o : Nat) (v0 v1 v2 v3 v4 v5 v6 v7 v8 : Value) : World :=
  ((((((((w.setCell ⟨g, o, none⟩ v0).setCell ⟨g, o + 1, none⟩ v1).setCell ⟨g, o + 2, none⟩ v2).setCell ⟨g, o + 3, none⟩ v3).setCell ⟨g, o + 4, none⟩ v4).setCell ⟨g, o + 5, none⟩ v5).setCell ⟨g, o + 6, none⟩ v6).setCell ⟨g, o + 7, none⟩ v7).setCell ⟨g, o + 8, none⟩ v8
theorem Blk.put9 {w : World} {g o : Nat} {arr : Array Value} {T : TypeId} (h : Blk w g arr T) (hs : o + 9 ≤ arr.size) (v0 v1 v2 v3 v4 v5 v6 v7 v8 : Value) :
    ∃ arr', Blk (put9 w g o v0 v1 v2 v3 v4 v5 v6 v7 v8) g arr' T ∧ arr'.size = arr.size ∧ (∀ i, (i < o ∨ o + 9 ≤ i) → arr'[i]? = arr[i]?) ∧ ∀ j, j < 9 → arr'[o + j]? = (#[v0, v1, v2, v3, v4, v5, v6, v7, v8] : Array Value)[j]? := by
  refine ⟨_, ((((((((h.set o v0).set (o + 1) v1).set (o + 2) v2).set (o + 3) v3).set (o + 4) v4).set (o + 5) v5).set (o + 6) v6).set (o + 7) v7).set (o + 8) v8, by simp, fun i hi => ?_, fun j hj => ?_⟩
  · simp only [Array.getElem?_setIfInBounds]
    rw [if_neg (by omega), if_neg (by omega), if_neg (by omega), if_neg (by omega), if_neg (by omega), if_neg (by omega), if_neg (by omega), if_neg (by omega), if_neg (by omega)]
  · match j, hj with
    | 0, _ => simp [Array.getElem?_setIfInBounds, Array.size_setIfInBounds]; omega
    | 1, _ => simp [Array.getElem?_setIfInBounds, Array.size_setIfInBounds]; omega
    | 2, _ => simp [Array.getElem?_setIfInBounds, Array.size_setIfInBounds]; omega
    | 3, _ => simp [Array.getElem?_setIfInBounds, Array.size_setIfInBounds]; omega
    | 4, _ => simp [Array.getElem?_setIfInBounds, Array.size_setIfInBounds]; omega
    | 5, _ => simp [Array.getElem?_setIfInBounds, Array.size_setIfInBounds]; omega
    | 6, _ => simp [Array.getElem?_setIfInBounds, Array.size_setIfInBounds]; omega
    | 7, _ => simp [Array.getElem?_setIfInBounds, Array.size_setIfInBounds]; omega
    | 8, _ => simp [Array.getElem?_setIfInBounds, Array.size_setIfInBounds]; omega
theorem put9_below {w0 w : World} {B g o : Nat} {v0 v1 v2 v3 v4 v5 v6 v7 v8 : Value} (h : Below B w0 w) (hg : B ≤ g) : Below B w0 (put9 w g o v0 v1 v2 v3 v4 v5 v6 v7 v8) :=
  ((((((((h.setCell hg _).setCell hg _).setCell hg _).setCell hg _).setCell hg _).setCell hg _).setCell hg _).setCell hg _).setCell hg _
theorem SvOwn.put9 {w : World} {base : Nat} {h : SvH} {s : Sv} (q : SvOwn w base h s) {g o : Nat} (hg : g < base) {v0 v1 v2 v3 v4 v5 v6 v7 v8 : Value} : SvOwn (put9 w g o v0 v1 v2 v3 v4 v5 v6 v7 v8) base h s :=
  ((((((((q.setFar _ _ hg).setFar _ _ hg).setFar _ _ hg).setFar _ _ hg).setFar _ _ hg).setFar _ _ hg).setFar _ _ hg).setFar _ _ hg).setFar _ _ hg

/-- Up to k, records lie in block g. -/
structure Fill9 (T : TypeId) (w wr : World) (hs : List SvH) (ss : List Sv) (k : Nat) : Prop where
  blk : ∃ arr, Blk wr w.heap.size arr T ∧ arr.size = ss.length * 9 ∧ ∀ i, i < k → ∃ h s, hs[i]? = some h ∧ ss[i]? = some s ∧ ∀ j, j < 9 → arr[i * 9 + j]? = (svV h s)[j]?
  own : ∀ i, i < k → ∃ h s, hs[i]? = some h ∧ ss[i]? = some s ∧ SvOwn wr (w.heap.size + 1) h s
  len : hs.length = k
  B : Below w.heap.size w wr
theorem Fill9.step {T : TypeId} {w wr w1 : World} {hs : List SvH} {ss : List Sv} {k : Nat} (f : Fill9 T w wr hs ss k) (hk : k < ss.length) (hb : Below wr.heap.size wr w1) {h : SvH} (ho : SvOwn w1 wr.heap.size h ss[k]) :
    Fill9 T w (put9 w1 w.heap.size (k * 9) (.string ss[k].nm) (.int .i64 ss[k].W) (.int .i64 ss[k].D) (.int .i64 ss[k].S) (.slice h.a0 ss[k].cs.length h.c0) (.int .i64 ss[k].R) (.slice h.a1 ss[k].ks.length h.c1) (.slice h.a2 ss[k].ts.length h.c2) (.slice h.a3 ss[k].es.length h.c3)) (hs ++ [h]) ss (k + 1) := by
  obtain ⟨arr, hB, hsz, hrows⟩ := f.blk
  obtain ⟨arr', hB', hsz', hfar, hnear⟩ := (hB.below hb (Nat.le_refl _)).put9 (o := k * 9) (by rw [hsz]; omega) (.string ss[k].nm) (.int .i64 ss[k].W) (.int .i64 ss[k].D) (.int .i64 ss[k].S) (.slice h.a0 ss[k].cs.length h.c0) (.int .i64 ss[k].R) (.slice h.a1 ss[k].ks.length h.c1) (.slice h.a2 ss[k].ts.length h.c2) (.slice h.a3 ss[k].es.length h.c3)
  have hlt := hB.lt
  refine ⟨⟨arr', hB', hsz'.trans hsz, fun i hi => ?_⟩, fun i hi => ?_, by simp [f.len], put9_below (f.B.trans (hb.mono f.B.size)) (Nat.le_refl _)⟩
  · by_cases hik : i = k
    · subst hik
      exact ⟨h, ss[i], by rw [List.getElem?_append_right (by rw [f.len]; exact Nat.le_refl _), f.len]; simp, List.getElem?_eq_getElem hk, hnear⟩
    · obtain ⟨h', s', e1, e2, hc⟩ := hrows i (by omega)
      refine ⟨h', s', by rw [List.getElem?_append_left (by rw [f.len]; omega)]; exact e1, e2, fun j hj => ?_⟩
      rw [hfar _ (by omega)]
      exact hc j hj
  · by_cases hik : i = k
    · subst hik
      exact ⟨h, ss[i], by rw [List.getElem?_append_right (by rw [f.len]; exact Nat.le_refl _), f.len]; simp, List.getElem?_eq_getElem hk, (ho.mono (by omega)).put9 (by omega)⟩
    · obtain ⟨h', s', e1, e2, hc⟩ := f.own i (by omega)
      exact ⟨h', s', by rw [List.getElem?_append_left (by rw [f.len]; omega)]; exact e1, e2, (hc.below hb (Nat.le_refl _)).put9 (by omega)⟩
theorem Fill9.cells {T : TypeId} {w wr : World} {hs : List SvH} {ss : List Sv} {k : Nat} (f : Fill9 T w wr hs ss k) (hk : k < ss.length) : ∀ j, j < 9 → ∃ v, wr.cell? ⟨w.heap.size, k * 9 + j, none⟩ = some v := by
  obtain ⟨arr, hB, hsz, hrows⟩ := f.blk
  intro j hj
  exact ⟨arr[k * 9 + j]'(by rw [hsz]; omega), hB.cell (Array.getElem?_eq_getElem (by rw [hsz]; omega))⟩
theorem Fill9.free {T : TypeId} {w wr : World} {hs : List SvH} {ss : List Sv} {k : Nat} (f : Fill9 T w wr hs ss k) (i : Nat) : wr.frozen? ⟨w.heap.size, i, none⟩ = false := by
  obtain ⟨arr, hB, hsz, hrows⟩ := f.blk
  exact hB.free i
theorem Fill9.lt {T : TypeId} {w wr : World} {hs : List SvH} {ss : List Sv} {k : Nat} (f : Fill9 T w wr hs ss k) : w.heap.size < wr.heap.size := by
  obtain ⟨arr, hB, hsz, hrows⟩ := f.blk
  exact hB.lt

/-- A list of saved ones in new memory. -/
structure Own9 (T : TypeId) (w : World) (base g : Nat) (hs : List SvH) (ss : List Sv) : Prop where
  ge : base ≤ g
  max : ss.length ≤ 9223372036854775807
  blk : ∃ arr, Blk w g arr T ∧ arr.size = ss.length * 9 ∧ ∀ i, i < ss.length → ∃ h s, hs[i]? = some h ∧ ss[i]? = some s ∧ ∀ j, j < 9 → arr[i * 9 + j]? = (svV h s)[j]?
  own : ∀ i, i < ss.length → ∃ h s, hs[i]? = some h ∧ ss[i]? = some s ∧ SvOwn w (g + 1) h s
theorem Fill9.done {T : TypeId} {w wr : World} {hs : List SvH} {ss : List Sv} (f : Fill9 T w wr hs ss ss.length) (hm : ss.length ≤ 9223372036854775807) : Own9 T wr w.heap.size w.heap.size hs ss := ⟨Nat.le_refl _, hm, f.blk, f.own⟩
theorem Own9.rd {T : TypeId} {w : World} {base g : Nat} {hs : List SvH} {ss : List Sv} (o : Own9 T w base g hs ss) : Rd9 w (some ⟨g, 0, none⟩) ss.length hs ss := by
  obtain ⟨arr, hB, hsz, hrows⟩ := o.blk
  refine ⟨Nat.le_refl _, o.max, fun _ => ⟨g, 0, rfl, hB.lt⟩, fun k hk => ?_⟩
  obtain ⟨h, s, e1, e2, hc⟩ := hrows k hk
  obtain ⟨h', s', e1', e2', hw⟩ := o.own k hk
  rw [e1] at e1'
  rw [e2] at e2'
  simp only [Option.some.injEq] at e1' e2'
  subst e1' e2'
  refine ⟨h, s, e1, e2, hw.rd, fun j hj => ?_⟩
  show w.cell? ⟨g, 0 + (k * 9 + j), none⟩ = _
  rw [Nat.zero_add, cell_of_row w g _ arr T (0, 0) hB]
  exact hc j hj

end Go.Proofs.YtncbkbfkdgggkaaDoor

namespace Go.Proofs.YtncbkbfkdgggkaaDoor
open Go.RowKit

/-- Its four lists lie apart. -/
structure SvSep (h : SvH) : Prop where
  s01 : Sep h.a0 h.a1
  s02 : Sep h.a0 h.a2
  s03 : Sep h.a0 h.a3
  s12 : Sep h.a1 h.a2
  s13 : Sep h.a1 h.a3
  s23 : Sep h.a2 h.a3
def hd0 : SvH := ⟨none, 0, none, 0, none, 0, none, 0⟩
def sv0 : Sv := ⟨⟨#[]⟩, 0, 0, 0, [], 0, [], [], []⟩
theorem sep_none (b : Option Addr) : Sep none b := fun p q hp => by simp at hp
theorem svSep0 : SvSep hd0 := ⟨sep_none _, sep_none _, sep_none _, sep_none _, sep_none _, sep_none _⟩
theorem svOwn0 (w : World) (base : Nat) : SvOwn w base hd0 sv0 := ⟨by decide, own_nil _ _ _ _, own_nil _ _ _ _, own_nil _ _ _ _, own_nil _ _ _ _⟩
section
variable {w w1 : World} {b : Nat} {h : SvH} {s : Sv}
theorem blk_grown_own {α : Type} {f : α → Value} {e : TypeId} {a : Option Addr} {c : Nat} {xs : List α} {cs : Array Value} {T : TypeId} (q : Blk w b cs T) (o : Own f e w (b + 1) a c xs) (g : w.grownBy w1 (a.map (·.block))) : Blk w1 b cs T := by
  refine q.grown g ?_
  cases ha : a with
  | none => simp
  | some p => have := (o.blk p ha).1; simp; omega
end

end Go.Proofs.YtncbkbfkdgggkaaDoor
