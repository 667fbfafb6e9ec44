/- The walks of the laws' small helpers on slices of int64. slices.IndexFunc and slices.ContainsFunc at []int64, for whatever closure. within, l00In; numbers of a list within bounds. Names: letters of a text, in both texts. mark.., held.. on lists of bools. Slices of slices. mark.., held.. on sieves, zeros, windows, desks. held.. on sieves, zeros, windows, desks. Lists of lists of int64: what the indexing of such lists asks of the program. slices.IndexFunc and slices.ContainsFunc at [][]int64, for whatever closure. areEdges, in both texts. The edges in the reference's text. Forests: both texts join the parts of each edge's ends. Forests in the program's own text. ForestOf, both texts. What ForestsShared asks ahead of its work, and its reference: lone contracts. The laws' helpers on lists of lists of int64. (Printed by mkNestI.py out of XNestB.). -/
import Derived.Test.YtfecdmenliohhaaRows
import Derived.Test.YtfecdmenliohhaaQLe6
import Derived.IntWalk
import Derived.Test.YtfecdmenliohhaaQLe8
set_option linter.unusedVariables false
set_option linter.unusedSimpArgs false
namespace Go.Proofs.Ytfecdmenliohhaa
open Go.RowKit

theorem und_is : Try.prog.underlying 25 = some (.slice (Try.prog.elem 25)) := by kernel_rfl
theorem siz_is (w : World) : (sizeOf (Try.prog.elem 25)).run Try.prog w = .ok 1 w := by kernel_rfl
theorem und_ise : Try.prog.underlying 25 = some (.slice 2) := by kernel_rfl
theorem info_i : (Try.prog.info? 2).map (fun i => (i.zero, i.size, i.bytes)) = some (some (.int .i64 0), 1, 8) := by kernel_rfl

set_option maxHeartbeats 400000 in
theorem toI_any {a : Option Addr} {c : Nat} {xs : List Int} {w : World} (hr : Rd (Value.int .i64) w a c xs) (hn : xs.length ≤ 1048576) :
    Calls Try.prog 45 #[.slice a xs.length c] w (RetS (Value.int .i64) 2 w xs) := by
  go_enter Try.func45, Try.ntmps45
  go_wp2_with (at_make; refine wpl_make (f := Value.int .i64) (d := 0) und_ise info_i rfl xs.length rfl _ _ rfl rfl rfl (by omega) (by omega) ?_; intro w1 ho0 hb0)
  go_loopw [4] (fun i wr => ∃ k : Nat, k ≤ xs.length ∧ i = .int .i64 k ∧ Own (Value.int .i64) 2 wr w.heap.size (some ⟨w.heap.size, 0, none⟩) xs.length (xs.take k ++ List.replicate (xs.length - k) (0 : Int)) ∧ Below w.heap.size w wr) (fun i _ => xs.length - (intOf i).toNat)
  case atStart => exact ⟨0, Nat.zero_le _, rfl, by simpa using ho0, hb0⟩
  case round =>
    obtain ⟨k, hk, rfl, ho, hb⟩ := hrel
    clear ho0 hb0
    by_cases hlt : k < xs.length
    · have hr' := hr.below hb (Nat.le_refl _)
      have hix := hr'.idx und_is siz_is
      have hcx : wr.cell? (elt a k) = some (.int .i64 (xs[k]?.getD 0)) := hr'.cell k hlt
      have hln : (xs.take k ++ List.replicate (xs.length - k) (0 : Int)).length = xs.length := by simp; omega
      have hio := ho.idx und_is siz_is
      rw [hln] at hio
      have hcs := ho.rd.cell k (by omega)
      have hfz := ho.free k (by omega)
      have hst := ho.set k (by omega) (xs[k]?.getD 0)
      have hgt : xs[k]? = some (xs[k]?.getD 0) := by simp [hlt]
      rw [set_fill xs 0 _ k hlt hgt] at hst
      have HG : Hid (wr.grownBy _ _) := hst.2
      have HS : Hid (Own _ _ _ _ _ _ _) := hst.1
      clear hst hgt
      go_wp2
      go_roundw
      case rel => exact ⟨k + 1, by omega, by go_num, by simpa [hlt] using HS.out, hb.grown (by simpa [hlt] using HG.out) hb.size (by simp)⟩
      case measure => simp [intOf]; omega
    · obtain rfl : k = xs.length := by omega
      have HO : Hid (Own _ _ _ _ _ _ _) := ho
      clear ho
      go_wp2
      go_ret
      exact ⟨_, _, rfl, HO.out.cast (by simp), hb⟩

theorem int_ne {a b : Int} (h : (a != b) = true) : ¬ a = b := by simpa using h

set_option maxHeartbeats 400000 in
theorem eqI_any {a1 a2 : Option Addr} {c1 c2 : Nat} {xs ys : List Int} {w : World} (hx : Rd (Value.int .i64) w a1 c1 xs) (hy : Rd (Value.int .i64) w a2 c2 ys) :
    Calls Try.prog 21 #[.slice a1 xs.length c1, .slice a2 ys.length c2] w fun e w' => e = .returned (.bool (decide (xs = ys))) ∧ Below w.heap.size w w' := by
  have hlx := hx.len
  have hly := hy.len
  go_enter Try.func21, Try.ntmps21
  by_cases hl : xs.length = ys.length
  · have hd : ((xs.length : Int) != (ys.length : Int)) = false := by simp [hl]
    have HL : Hid (xs.length = ys.length) := hl
    clear hl
    go_wp2
    go_loopw [5] (fun i wr => ∃ k : Nat, k ≤ xs.length ∧ i = .int .i64 k ∧ xs.take k = ys.take k ∧ ∃ n, wr = w.drewN n) (fun i _ => xs.length - (intOf i).toNat)
    case atStart => exact ⟨0, Nat.zero_le _, rfl, rfl, 0, rfl⟩
    case round =>
      obtain ⟨k, hk, rfl, ht, n, rfl⟩ := hrel
      have HT : Hid (xs.take k = ys.take k) := ht
      clear ht hd
      by_cases hlt : k < xs.length
      · have hlt2 : k < ys.length := by rw [← HL.out]; exact hlt
        have hcx := hx.cell k hlt
        have hcy := hy.cell k hlt2
        have hix := hx.idx und_is siz_is
        have hiy := hy.idx und_is siz_is
        go_wp2_with fail
        go_quiet (fail)
        go_wp2
        · have h := int_ne (by assumption)
          go_ret
          exact ⟨ret_bool (by simp [take_ne_of hlt hlt2 h]), by rw [World.drewN_drewN]; exact below_of_drewN _ _ _⟩
        · have h : ¬ (xs[k] != ys[k]) = true := by simp_all
          go_roundw
          case rel => exact ⟨k + 1, by omega, by go_num, take_eq_snoc hlt hlt2 HT.out (by simpa using h), _, rfl⟩
          case measure => simp [intOf]; omega
      · go_wp2
        go_ret
        have : k = xs.length := by omega
        subst this
        have h := HT.out
        rw [List.take_length, HL.out, List.take_length] at h
        exact ⟨ret_bool (by simp [h]), below_of_drewN _ _ _⟩
  · have hd : ((xs.length : Int) != (ys.length : Int)) = true := by simp; omega
    have HL : Hid (¬ xs.length = ys.length) := hl
    clear hl
    go_wp2
    go_ret
    refine ⟨ret_bool ?_, Below.refl _ _⟩
    have h := HL.out
    rw [decide_eq_false]
    rintro rfl
    exact h rfl

set_option maxHeartbeats 400000 in
theorem markI_any {a : Option Addr} {c base k0 : Nat} {xs : List Int} {w : World} (ho : Own (Value.int .i64) 2 w base a c xs) (hk : k0 + xs.length ≤ 4611686018427387904) :
    Calls Try.prog 24 #[.slice a xs.length c, .int .i64 k0] w (RetM (Value.int .i64) 2 w base a c (fun k => (k : Int)) k0 xs.length) := by
  go_enter Try.func24, Try.ntmps24
  go_wp2
  go_loopw [1, 5] (fun kk i wr => ∃ k : Nat, k ≤ xs.length ∧ i = .int .i64 k ∧ kk = .int .i64 ((k0 + k : Nat) : Int) ∧ Own (Value.int .i64) 2 wr base a c (marks (fun k => (k : Int)) k0 k ++ xs.drop k) ∧ w.grownBy wr (a.map (·.block))) (fun _ i _ => xs.length - (intOf i).toNat)
  case atStart => exact ⟨0, Nat.zero_le _, rfl, rfl, by simpa [marks] using ho, World.grownBy.refl _ _⟩
  case round =>
    obtain ⟨k, hk, rfl, rfl, hw, hg⟩ := hrel
    clear ho
    have hln : (marks (fun k => (k : Int)) k0 k ++ xs.drop k).length = xs.length := by simp [marks_length]; omega
    by_cases hlt : k < xs.length
    · have hio := hw.idx und_is siz_is
      rw [hln] at hio
      obtain ⟨v0, hcs⟩ : ∃ v, wr.cell? (elt a k) = some v := ⟨_, hw.cell k (by omega)⟩
      have hfz := hw.free k (by omega)
      have hst := hw.set k (by omega) ((k0 + k : Nat) : Int)
      rw [marks_set (fun k => (k : Int)) k0 k xs hlt] at hst
      have HG : Hid (wr.grownBy _ _) := hst.2
      have HS : Hid (Own _ _ _ _ _ _ _) := hst.1
      have HC : Hid (w.grownBy _ _) := hg
      clear hst hg hln
      go_wp2
      go_roundw
      case rel => exact ⟨k + 1, by omega, by go_num, by go_num, by simpa using HS.out, grown_trans HC.out (by simpa using HG.out)⟩
      case measure => simp [intOf]; omega
    · obtain rfl : k = xs.length := by omega
      have HO : Hid (Own _ _ _ _ _ _ _) := hw
      have HC : Hid (w.grownBy _ _) := hg
      clear hw hln hg
      go_wp2
      go_ret
      exact ⟨rfl, HO.out.cast (by simp), HC.out⟩

set_option maxHeartbeats 400000 in
theorem heldI_any {a : Option Addr} {c k0 : Nat} {n : Nat} {w : World} (hr : Rd (Value.int .i64) w a c (marks (fun k => (k : Int)) k0 n)) (hk : k0 + n ≤ 4611686018427387904) :
    Calls Try.prog 25 #[.slice a n c, .int .i64 k0] w fun e w' => e = .returned (.int .i64 ((k0 + n : Nat) : Int)) ∧ Below w.heap.size w w' := by
  go_enter Try.func25, Try.ntmps25
  go_wp2
  go_loop [1, 5] (fun kk i => ∃ k : Nat, k ≤ n ∧ i = .int .i64 k ∧ kk = .int .i64 ((k0 + k : Nat) : Int)) (fun _ i => n - (intOf i).toNat)
  case atStart => exact ⟨0, Nat.zero_le _, rfl, rfl⟩
  case round =>
    obtain ⟨k, hk, rfl, rfl⟩ := hrel
    by_cases hlt : k < n
    · have hio := hr.idx und_is siz_is
      rw [marks_length] at hio
      have hcs := hr.cell k (by rw [marks_length]; exact hlt)
      rw [marks_get _ _ _ _ hlt, Option.getD_some] at hcs
      have hne : (((k0 : Int) + (k : Int)) != ((k0 : Int) + (k : Int))) = false := by simp
      go_wp2
      go_round
      case rel => exact ⟨k + 1, by omega, by go_num, by go_num⟩
      case measure => simp [intOf]; omega
    · obtain rfl : k = n := by omega
      go_wp2
      go_ret
      exact ⟨rfl, Below.refl _ _⟩

end Go.Proofs.Ytfecdmenliohhaa

namespace Go.Proofs.Ytfecdmenliohhaa
open Go.RowKit

set_option maxHeartbeats 400000 in
theorem indexFunci_any (a : Option Addr) (c : Nat) (xs : List Int) (w : World) (F : Nat) (caps : Array Value) (p : Int → Bool) (hF : ∀ (vs : Array Value) (w : World), (callFunc F vs).run Try.prog w = .ok (.enter F vs) w) (hr : Rd (Value.int .i64) w a c xs)
    (hclo : ∀ k (h : k < xs.length) wr, Below w.heap.size w wr → Calls Try.prog F (#[(Value.int .i64) xs[k]] ++ caps) wr fun e w' => e = .returned (.bool (p xs[k])) ∧ Below wr.heap.size wr w') :
    Calls Try.prog 71 #[.slice a xs.length c, .func (.func F) #[] caps] w fun e w' => e = .returned (.int .i64 (idxOf p xs)) ∧ Below w.heap.size w w' := by
  have hln := hr.len
  go_enter Try.func71, Try.ntmps71
  go_wp2
  go_loopw [5, 8] (fun _ i wr => ∃ k : Nat, k ≤ xs.length ∧ i = .int .i64 k ∧ (∀ x ∈ xs.take k, p x = false) ∧ Below w.heap.size w wr) (fun _ i _ => xs.length - (intOf i).toNat)
  case atStart => exact ⟨0, Nat.zero_le _, rfl, by simp, Below.refl _ _⟩
  case round =>
    obtain ⟨k, hk, rfl, hp, hb⟩ := hrel
    have HP : Hid (∀ x ∈ xs.take k, p x = false) := hp
    clear hp
    by_cases hlt : k < xs.length
    · have hr' := hr.below hb (Nat.le_refl _)
      have hix := hr'.idx und_is siz_is
      have hcx := hr'.cell k hlt
      have HC : Hid (∀ k (h : k < xs.length) wr, Below w.heap.size w wr → Calls Try.prog F (#[(Value.int .i64) xs[k]] ++ caps) wr fun e w' => e = .returned (.bool (p xs[k])) ∧ Below wr.heap.size wr w') := hclo
      clear hclo
      simp only [List.getElem?_eq_getElem hlt, Option.getD_some] at hcx
      go_wp2_with fail
      refine (HC.out k hlt wr hb).mono ?_
      rintro e w1 ⟨rfl, hb1⟩
      by_cases hpx : p xs[k] = true
      · have HX : Hid (p xs[k] = true) := hpx
        rw [hpx]
        clear hpx
        go_wp2
        go_ret
        refine ⟨ret_int ?_, hb.trans (hb1.mono hb.size)⟩
        rw [idxOf_here HX.out HP.out]
      · have hpx' : p xs[k] = false := by simpa using hpx
        have HX : Hid (p xs[k] = false) := hpx'
        rw [hpx']
        clear hpx hpx'
        go_wp2
        go_roundw
        case rel => exact ⟨k + 1, by omega, by go_num, snoc_none hlt HP.out HX.out, hb.trans (hb1.mono hb.size)⟩
        case measure => simp [intOf]; omega
    · obtain rfl : k = xs.length := by omega
      have HC : Hid (∀ k (h : k < xs.length) wr, Below w.heap.size w wr → Calls Try.prog F (#[(Value.int .i64) xs[k]] ++ caps) wr fun e w' => e = .returned (.bool (p xs[k])) ∧ Below wr.heap.size wr w') := hclo
      clear hclo
      go_wp2
      go_ret
      refine ⟨ret_int ?_, hb⟩
      rw [idxOf_none (by simpa using HP.out)]

set_option maxHeartbeats 400000 in
theorem containsFunci_any (a : Option Addr) (c : Nat) (xs : List Int) (w : World) (F : Nat) (caps : Array Value) (p : Int → Bool) (hF : ∀ (vs : Array Value) (w : World), (callFunc F vs).run Try.prog w = .ok (.enter F vs) w) (hr : Rd (Value.int .i64) w a c xs)
    (hclo : ∀ k (h : k < xs.length) wr, Below w.heap.size w wr → Calls Try.prog F (#[(Value.int .i64) xs[k]] ++ caps) wr fun e w' => e = .returned (.bool (p xs[k])) ∧ Below wr.heap.size wr w') :
    Calls Try.prog 54 #[.slice a xs.length c, .func (.func F) #[] caps] w fun e w' => e = .returned (.bool (xs.any p)) ∧ Below w.heap.size w w' := by
  have HC := Lib.hid (indexFunci_any a c xs w F caps p hF hr hclo)
  clear hclo
  go_enter Try.func54, Try.ntmps54
  go_wp2_with fail
  refine HC.out.mono ?_
  rintro e w1 ⟨rfl, hb1⟩
  have HB := Lib.hid (idxOf_any p xs)
  go_wp2
  go_ret
  exact ⟨ret_bool (by simpa using HB.out), hb1⟩

end Go.Proofs.Ytfecdmenliohhaa

namespace Go.Proofs.Ytfecdmenliohhaa
open Go.RowKit

def inR (n lo hi : Int) : Bool := decide (lo ≤ n ∧ n ≤ hi)
theorem inR_eq (n lo hi : Int) : inR n lo hi = true ↔ lo ≤ n ∧ n ≤ hi := by simp [inR]

theorem within_any (n lo hi : Int) (w : World) : Calls Try.prog 31 #[.int .i64 n, .int .i64 lo, .int .i64 hi] w fun e w' => e = .returned (.bool (inR n lo hi)) ∧ w = w' := by
  by_cases h1 : lo ≤ n
  · go_enter Try.func31, Try.ntmps31
    go_wp2
    go_ret
    exact ⟨ret_bool (by simp [inR]; omega), rfl⟩
  · have h2 : decide (lo ≤ n) = false := by simpa using h1
    go_enter Try.func31, Try.ntmps31
    go_wp2
    go_ret
    exact ⟨ret_bool (by simp [inR]; omega), rfl⟩

theorem l00In_any (n lo hi : Int) (w : World) : Calls Try.prog 42 #[.int .i64 n, .int .i64 lo, .int .i64 hi] w fun e w' => e = .returned (.bool (inR n lo hi)) ∧ w = w' := by
  by_cases h1 : lo ≤ n
  · go_enter Try.func42, Try.ntmps42
    go_wp2
    go_ret
    exact ⟨ret_bool (by simp [inR]; omega), rfl⟩
  · have h2 : decide (lo ≤ n) = false := by simpa using h1
    go_enter Try.func42, Try.ntmps42
    go_wp2
    go_ret
    exact ⟨ret_bool (by simp [inR]; omega), rfl⟩

theorem areWithin1_any (x lo hi : Int) (p1 p2 : Addr) (w : World) (h1 : w.cell? p1 = some (.int .i64 lo)) (h2 : w.cell? p2 = some (.int .i64 hi)) :
    Calls Try.prog 55 #[.int .i64 x, .pointer (some p1), .pointer (some p2)] w fun e w' => e = .returned (.bool (!inR x lo hi)) ∧ w = w' := by
  go_enter Try.func55, Try.ntmps55
  go_wp2_with (go_at_call 31; refine (within_any _ _ _ _).mono ?_; rintro e w1 ⟨rfl, rfl⟩)
  go_ret
  exact ⟨rfl, rfl⟩

theorem call_areWithin1 (vs : Array Value) (w : World) : (callFunc 55 vs).run Try.prog w = .ok (.enter 55 vs) w := by kernel_rfl

theorem areWithin_any (a : Option Addr) (c : Nat) (xs : List Int) (lo hi : Int) (w : World) (hr : Rd (Value.int .i64) w a c xs) :
    Calls Try.prog 47 #[.slice a xs.length c, .int .i64 lo, .int .i64 hi] w fun e w' => e = .returned (.bool (xs.all (fun x => inR x lo hi))) ∧ Below w.heap.size w w' := by
  have hb : Below w.heap.size w ((w.alloc (.cells #[.int .i64 lo] 2)).alloc (.cells #[.int .i64 hi] 2)) := ((Below.refl _ _).alloc (Nat.le_refl _) _).alloc (by simp) _
  have hc := containsFunci_any a c xs ((w.alloc (.cells #[.int .i64 lo] 2)).alloc (.cells #[.int .i64 hi] 2)) 55 #[.pointer (some ⟨w.heap.size, 0, none⟩), .pointer (some ⟨w.heap.size + 1, 0, none⟩)] (fun x => !inR x lo hi) call_areWithin1 (hr.below hb (Nat.le_refl _)) (by
    intro k h wr hbr
    refine (areWithin1_any _ lo hi _ _ wr ?_ ?_).mono ?_
    · rw [hbr.cell (by simp; omega)]; rw [World.cell?_alloc_past _ _ _ (by simp), World.cell?_alloc_at _ _ _ _ rfl]; rfl
    · rw [hbr.cell (by simp)]; rw [World.cell?_alloc_at _ _ _ _ (by simp)]; rfl
    · rintro e w1 ⟨rfl, rfl⟩; exact ⟨rfl, Below.refl _ _⟩)
  have HC := Lib.hid hc
  have HB := Lib.hid hb
  clear hc hb
  go_enter Try.func47, Try.ntmps47
  go_wp2_with fail
  refine HC.out.mono ?_
  rintro e w1 ⟨rfl, hb1⟩
  go_wp2
  go_ret
  refine ⟨ret_bool ?_, HB.out.trans (hb1.mono (by simp; omega))⟩
  rw [Bool.eq_iff_iff]; simp [List.all_eq_true, List.any_eq_true]

theorem rd_idxAt {α : Type} [Inhabited α] {f : α → Value} {w : World} {a : Option Addr} {c : Nat} {xs : List α} (h : Rd f w a c xs) {P : Program} {T : TypeId} (hT : P.underlying T = some (.slice (P.elem T))) (hs : ∀ w, (sizeOf (P.elem T)).run P w = .ok 1 w) (k : Nat) (hk : k < xs.length) (i : Int) (hi : i = (k : Int)) :
    ∀ w' : World, (Instr.indexAt T (.slice a xs.length c) (.int .i64 i)).run P w' = .ok (.pointer (some (elt a k))) w' := by
  subst hi; exact fun w' => h.idx hT hs w' k hk

end Go.Proofs.Ytfecdmenliohhaa

namespace Go.Proofs.Ytfecdmenliohhaa
open Go.RowKit

/-- A text's byte. -/
def byt (s : ByteArray) (k : Nat) : Nat := (s.get! k).toNat
theorem byt_eq {s : ByteArray} {k : Nat} (h : k < s.size) : (s[k]'h).toNat = byt s k := by
  unfold byt
  cases s with
  | mk d =>
    have hd : k < d.size := h
    simp [ByteArray.get!, hd]
    rfl
theorem byt_lt (s : ByteArray) (k : Nat) : byt s k < 256 := UInt8.toNat_lt _

def lowB (s : ByteArray) (k : Nat) : Bool := decide (97 ≤ byt s k) && decide (byt s k ≤ 122)
def nameB (s : ByteArray) : Bool := decide (1 ≤ s.size) && decide (s.size ≤ 8) && (List.range s.size).all (lowB s)
theorem nameB_no {s : ByteArray} {k : Nat} (hk : k < s.size) (h : lowB s k = false) : nameB s = false := by
  unfold nameB
  have : (List.range s.size).all (lowB s) = false := by rw [List.all_eq_false]; exact ⟨k, List.mem_range.2 hk, by rw [h]; simp⟩
  rw [this]; simp
theorem nameB_yes {s : ByteArray} (h : ∀ k, k < s.size → lowB s k = true) : nameB s = (decide (1 ≤ s.size) && decide (s.size ≤ 8)) := by
  unfold nameB
  have : (List.range s.size).all (lowB s) = true := by rw [List.all_eq_true]; intro k hk; exact h k (List.mem_range.1 hk)
  rw [this]; simp

end Go.Proofs.Ytfecdmenliohhaa

namespace Go.Proofs.Ytfecdmenliohhaa
open Go.RowKit

theorem mod3 (k0 k : Nat) : (((k0 : Int) + (k : Int)) % 3 == 0) = decide ((k0 + k) % 3 = 0) := by
  rw [Bool.eq_iff_iff]; simp; omega

end Go.Proofs.Ytfecdmenliohhaa

namespace Go.Proofs.Ytfecdmenliohhaa
open Go.RowKit

/-- A slice's value: its address, its length, its capacity. -/
abbrev Hd := Option Addr × Nat × Nat
def hdV (h : Hd) : Value := .slice h.1 h.2.1 h.2.2
theorem hdV_one (h : Hd) : (hdV h).oneCell' = true := rfl

/-- A slice of slices reads as a list of lists. -/
structure Rd2 {α : Type} [Inhabited α] (f : α → Value) (w : World) (a : Option Addr) (c : Nat) (hs : List Hd) (xss : List (List α)) : Prop where
  top : Rd hdV w a c hs
  len : hs.length = xss.length
  row : ∀ i, i < xss.length → ∃ (hd : Hd) (xs : List α), hs[i]? = some hd ∧ xss[i]? = some xs ∧ hd.2.1 = xs.length ∧ Rd f w hd.1 hd.2.2 xs

section
variable {α : Type} [Inhabited α] {f : α → Value} {w w' : World} {a : Option Addr} {c : Nat} {hs : List Hd} {xss : List (List α)}
theorem Rd2.below (h : Rd2 f w a c hs xss) {B : Nat} (hb : Below B w w') (hB : w.heap.size ≤ B) : Rd2 f w' a c hs xss :=
  ⟨h.top.below hb hB, h.len, fun i hi => let ⟨hd, xs, h1, h2, h3, h4⟩ := h.row i hi; ⟨hd, xs, h1, h2, h3, h4.below hb hB⟩⟩
/-- Row i. -/
theorem Rd2.at (h : Rd2 f w a c hs xss) {i : Nat} (hi : i < xss.length) : ∃ a2 c2, w.cell? (elt a i) = some (.slice a2 xss[i].length c2) ∧ Rd f w a2 c2 xss[i] := by
  obtain ⟨hd, xs, h1, h2, h3, h4⟩ := h.row i hi
  have hx : xss[i] = xs := by
    rw [List.getElem?_eq_getElem hi] at h2; simpa using h2
  rw [hx]
  refine ⟨hd.1, hd.2.2, ?_, h4⟩
  rw [h.top.cell i (by rw [h.len]; exact hi), h1, Option.getD_some, ← h3]
  rfl
theorem Rd2.lens (h : Rd2 f w a c hs xss) : xss.length ≤ 9223372036854775807 := by rw [← h.len]; exact h.top.len
end

/-- A slice of slices that a call has made: all in rows of their own. -/
structure Own2 {α : Type} (f : α → Value) (e ee : TypeId) (w : World) (base : Nat) (a : Option Addr) (c : Nat) (hs : List Hd) (xss : List (List α)) : Prop where
  top : Own hdV ee w base a c hs
  len : hs.length = xss.length
  row : ∀ i, i < xss.length → ∃ (hd : Hd) (xs : List α), hs[i]? = some hd ∧ xss[i]? = some xs ∧ hd.2.1 = xs.length ∧ Own f e w base hd.1 hd.2.2 xs ∧ ∀ p q : Addr, a = some p → hd.1 = some q → p.block ≠ q.block
  apart : ∀ (i j : Nat) (hd hd' : Hd), i ≠ j → hs[i]? = some hd → hs[j]? = some hd' → ∀ p q : Addr, hd.1 = some p → hd'.1 = some q → p.block ≠ q.block

section
variable {α : Type} {f : α → Value} {e ee : TypeId} {w w' : World} {base : Nat} {a : Option Addr} {c : Nat} {hs : List Hd} {xss : List (List α)}
theorem Own2.rd [Inhabited α] (h : Own2 f e ee w base a c hs xss) : Rd2 f w a c hs xss :=
  ⟨h.top.rd, h.len, fun i hi => let ⟨hd, xs, h1, h2, h3, h4, _⟩ := h.row i hi; ⟨hd, xs, h1, h2, h3, h4.rd⟩⟩
theorem Own2.below (h : Own2 f e ee w base a c hs xss) {B : Nat} (hb : Below B w w') (hB : w.heap.size ≤ B) : Own2 f e ee w' base a c hs xss :=
  ⟨h.top.below hb hB, h.len, fun i hi => let ⟨hd, xs, h1, h2, h3, h4, h5⟩ := h.row i hi; ⟨hd, xs, h1, h2, h3, h4.below hb hB, h5⟩, h.apart⟩
theorem Own2.mono (h : Own2 f e ee w base a c hs xss) {b' : Nat} (hb : b' ≤ base) : Own2 f e ee w b' a c hs xss :=
  ⟨h.top.mono hb, h.len, fun i hi => let ⟨hd, xs, h1, h2, h3, h4, h5⟩ := h.row i hi; ⟨hd, xs, h1, h2, h3, h4.mono hb, h5⟩, h.apart⟩
end

/-- A slice of slices in new memory. -/
def RetSS {α : Type} (f : α → Value) (e ee : TypeId) (w : World) (xss : List (List α)) (en : Ending) (w' : World) : Prop :=
  ∃ a c hs, en = .returned (.slice a xss.length c) ∧ Own2 f e ee w' w.heap.size a c hs xss ∧ Below w.heap.size w w'

/-- Only blocks from lo to hi have turned. -/
structure TurnB (lo hi : Nat) (w w' : World) : Prop where
  os : w'.os = w.os
  tape : w'.tape = w.tape
  output : w'.output = w.output
  size : w.heap.size ≤ w'.heap.size
  block : ∀ k, k < w.heap.size → (k < lo ∨ hi ≤ k) → w'.heap[k]? = w.heap[k]?
theorem TurnB.refl (lo hi : Nat) (w : World) : TurnB lo hi w w := ⟨rfl, rfl, rfl, Nat.le_refl _, fun _ _ _ => rfl⟩
theorem TurnB.trans {lo hi : Nat} {w w1 w2 : World} (h : TurnB lo hi w w1) (h2 : TurnB lo hi w1 w2) : TurnB lo hi w w2 :=
  ⟨h2.os.trans h.os, h2.tape.trans h.tape, h2.output.trans h.output, Nat.le_trans h.size h2.size, fun k hk hr => (h2.block k (Nat.lt_of_lt_of_le hk h.size) hr).trans (h.block k hk hr)⟩
theorem TurnB.of_grown {lo hi : Nat} {w w' : World} {a : Option Addr} (h : w.grownBy w' (a.map (·.block))) (ha : ∀ p, a = some p → lo ≤ p.block ∧ p.block < hi) : TurnB lo hi w w' :=
  ⟨h.os, h.tape, h.output, h.size, fun k hk hr => h.block k hk (by
    cases a with
    | none => simp
    | some p => have := ha p rfl; simp; omega)⟩
theorem TurnB.below {lo hi : Nat} {w w' : World} (h : TurnB lo hi w w') {B : Nat} (hB : B ≤ lo) (hs : B ≤ w.heap.size) : Below B w w' :=
  ⟨h.os, h.tape, h.output, h.size, fun k hk => h.block k (by omega) (by omega)⟩
theorem Own.heap {α : Type} {f : α → Value} {e : TypeId} {w w' : World} {base : Nat} {a : Option Addr} {c : Nat} {xs : List α} (h : Own f e w base a c xs) (hk : ∀ p, a = some p → w'.heap[p.block]? = w.heap[p.block]?) : Own f e w' base a c xs := by
  refine ⟨h.1, ?_⟩
  rcases h.2 with h2 | ⟨g, cap, cur, h1, h2, h3, h4⟩
  · exact .inl h2
  · refine .inr ⟨g, cap, cur, h1, h2, ?_, h4⟩
    simp only [Value.slice.injEq] at h1
    rw [hk _ h1.1]; exact h3
theorem Own.turned {α : Type} {f : α → Value} {e : TypeId} {w w' : World} {base : Nat} {a : Option Addr} {c : Nat} {xs : List α} (h : Own f e w base a c xs) {lo hi : Nat} (ht : TurnB lo hi w w') (hd : ∀ p, a = some p → p.block < lo ∨ hi ≤ p.block) : Own f e w' base a c xs :=
  h.heap fun p hp => ht.block p.block (h.blk p hp).2 (hd p hp)

/-- How many elements there are. -/
def size2 {α : Type} (xss : List (List α)) : Nat := xss.length + (xss.map List.length).foldl (· + ·) 0
theorem foldl_add (l : List Nat) (z : Nat) : l.foldl (· + ·) z = z + l.foldl (· + ·) 0 := by
  induction l generalizing z with
  | nil => simp
  | cons x l ih => simp only [List.foldl_cons]; rw [ih (z + x), ih (0 + x)]; omega
theorem sum_take_succ {α : Type} {xss : List (List α)} {k : Nat} (h : k < xss.length) : ((xss.take (k + 1)).map List.length).foldl (· + ·) 0 = ((xss.take k).map List.length).foldl (· + ·) 0 + xss[k].length := by
  rw [List.take_add_one, List.getElem?_eq_getElem h, List.map_append, List.foldl_append]; rfl
theorem sum_take_le {α : Type} (xss : List (List α)) (k : Nat) : ((xss.take k).map List.length).foldl (· + ·) 0 ≤ (xss.map List.length).foldl (· + ·) 0 := by
  have h : xss.map List.length = (xss.take k).map List.length ++ (xss.drop k).map List.length := by rw [← List.map_append, List.take_append_drop]
  rw [h, List.foldl_append, foldl_add _ (List.foldl _ _ _)]
  omega
theorem size2_row {α : Type} {xss : List (List α)} {k : Nat} (h : k < xss.length) {n : Nat} (hn : size2 xss ≤ n) : xss[k].length ≤ n := by
  have h1 := sum_take_le xss (k + 1)
  rw [sum_take_succ h] at h1
  unfold size2 at hn
  omega

/-- The rows that have been made up to k. -/
structure Mk2 {α : Type} (f : α → Value) (e ee : TypeId) (w wr : World) (n : Nat) (hs : List Hd) (xss : List (List α)) (k : Nat) : Prop where
  top : Own hdV ee wr w.heap.size (some ⟨w.heap.size, 0, none⟩) n (hs ++ List.replicate (n - k) ((none, 0, 0) : Hd))
  len : hs.length = k
  row : ∀ i, i < k → ∃ (hd : Hd) (xs : List α), hs[i]? = some hd ∧ xss[i]? = some xs ∧ hd.2.1 = xs.length ∧ Own f e wr (w.heap.size + 1) hd.1 hd.2.2 xs
  apart : ∀ (i j : Nat) (hd hd' : Hd), i ≠ j → hs[i]? = some hd → hs[j]? = some hd' → ∀ p q : Addr, hd.1 = some p → hd'.1 = some q → p.block ≠ q.block
  B : Below w.heap.size w wr
theorem fill_set {hs : List Hd} {n k : Nat} (hk : k < n) (hl : hs.length = k) (h : Hd) : (hs ++ List.replicate (n - k) ((none, 0, 0) : Hd)).set k h = (hs ++ [h]) ++ List.replicate (n - (k + 1)) ((none, 0, 0) : Hd) := by
  subst hl
  rw [List.set_append_right _ _ (Nat.le_refl _), Nat.sub_self, show n - hs.length = (n - (hs.length + 1)) + 1 by omega, List.replicate_succ, List.set_cons_zero]
  simp

theorem Mk2.step {α : Type} {f : α → Value} {e ee : TypeId} {w wr w1 : World} {n : Nat} {hs : List Hd} {xss : List (List α)} {k : Nat} (h : Mk2 f e ee w wr n hs xss k) (hk : k < n) {a2 : Option Addr} {c2 : Nat} {xs : List α} (hx : xss[k]? = some xs)
    (hb : Below wr.heap.size wr w1) (ho : Own f e w1 wr.heap.size a2 c2 xs) :
    Mk2 f e ee w (w1.setCell (elt (some ⟨w.heap.size, 0, none⟩) k) (hdV (a2, xs.length, c2))) n (hs ++ [(a2, xs.length, c2)]) xss (k + 1) := by
  have hlen : (hs ++ List.replicate (n - k) ((none, 0, 0) : Hd)).length = n := by simp [h.len]; omega
  have htb := h.top.blk ⟨w.heap.size, 0, none⟩ rfl
  have hset := (h.top.below hb (Nat.le_refl _)).set k (by rw [hlen]; exact hk) (a2, xs.length, c2)
  have hblk : (elt (some ⟨w.heap.size, 0, none⟩) k).block = w.heap.size := rfl
  refine ⟨hset.1.cast (fill_set hk h.len _), by simp [h.len], ?_, ?_, (h.B.trans (hb.mono h.B.size)).setCell (by rw [hblk]; exact Nat.le_refl _) _⟩
  · intro i hi
    by_cases hik : i = k
    · subst hik
      refine ⟨(a2, xs.length, c2), xs, ?_, hx, rfl, (ho.mono (by omega)).setFar _ _ (by rw [hblk]; omega)⟩
      rw [List.getElem?_append_right (by rw [h.len]; exact Nat.le_refl _)]
      simp [h.len]
    · obtain ⟨hd, ys, h1, h2, h3, h4⟩ := h.row i (by omega)
      refine ⟨hd, ys, ?_, h2, h3, (h4.below hb (Nat.le_refl _)).setFar _ _ (by rw [hblk]; omega)⟩
      rw [List.getElem?_append_left (by rw [h.len]; omega)]; exact h1
  · have old : ∀ i hd, i < k → (hs ++ [((a2, xs.length, c2) : Hd)])[i]? = some hd → hs[i]? = some hd := fun i hd hi hh => by
      rwa [List.getElem?_append_left (by rw [h.len]; exact hi)] at hh
    have new : ∀ hd, (hs ++ [((a2, xs.length, c2) : Hd)])[k]? = some hd → hd = (a2, xs.length, c2) := fun hd hh => by
      rw [List.getElem?_append_right (by rw [h.len]; exact Nat.le_refl _)] at hh
      simp [h.len] at hh
      exact hh.symm
    have blkO : ∀ i hd p, i < k → hs[i]? = some hd → hd.1 = some p → p.block < wr.heap.size := fun i hd p hi hh hp => by
      obtain ⟨hd2, ys, h1, _, _, h4⟩ := h.row i hi
      rw [hh] at h1
      have : hd = hd2 := by simpa using h1
      subst this
      exact (h4.blk p hp).2
    have lt : ∀ i hd, (hs ++ [((a2, xs.length, c2) : Hd)])[i]? = some hd → i ≤ k := fun i hd hh => by
      have := (List.getElem?_eq_some_iff.1 hh).1
      simp [h.len] at this
      omega
    intro i j hd hd' hij hi hj p q hp hq
    have li := lt i hd hi
    have lj := lt j hd' hj
    by_cases hik : i = k
    · subst hik
      have e1 := new hd hi
      subst e1
      have h5 := blkO j hd' q (by omega) (old j hd' (by omega) hj) hq
      have h6 := ho.blk p hp
      omega
    · by_cases hjk : j = k
      · subst hjk
        have e1 := new hd' hj
        subst e1
        have h5 := blkO i hd p (by omega) (old i hd (by omega) hi) hp
        have h6 := ho.blk q hq
        omega
      · exact h.apart i j hd hd' hij (old i hd (by omega) hi) (old j hd' (by omega) hj) p q hp hq

theorem Mk2.done {α : Type} {f : α → Value} {e ee : TypeId} {w wr : World} {n : Nat} {hs : List Hd} {xss : List (List α)} (h : Mk2 f e ee w wr n hs xss n) (hn : xss.length = n) : Own2 f e ee wr w.heap.size (some ⟨w.heap.size, 0, none⟩) n hs xss := by
  subst hn
  refine ⟨h.top.cast (by simp), h.len, fun i hi => ?_, h.apart⟩
  obtain ⟨hd, xs, h1, h2, h3, h4⟩ := h.row i hi
  refine ⟨hd, xs, h1, h2, h3, h4.mono (by omega), fun p q hp hq => ?_⟩
  have h5 := h4.blk q hq
  simp at hp
  subst hp
  simp
  omega

/-- A row of a slice of slices has turned, the others are as they were. -/
theorem Own2.turned {α : Type} {f : α → Value} {e ee : TypeId} {w w' : World} {base : Nat} {a : Option Addr} {c : Nat} {hs : List Hd} {xss : List (List α)} (h : Own2 f e ee w base a c hs xss) {k : Nat} {hd : Hd} (hk : hs[k]? = some hd) {ys : List α}
    (hg : w.grownBy w' (hd.1.map (·.block))) (ho : Own f e w' base hd.1 hd.2.2 ys) (hl : hd.2.1 = ys.length) : Own2 f e ee w' base a c hs (xss.set k ys) := by
  have hkl : k < hs.length := (List.getElem?_eq_some_iff.1 hk).1
  refine ⟨?_, by rw [List.length_set]; exact h.len, fun i hi => ?_, h.apart⟩
  · refine h.top.kept hg ?_
    intro g hgr p hp
    obtain ⟨hd2, xs, h1, _, _, _, h5⟩ := h.row k (by rw [← h.len]; exact hkl)
    rw [hk] at h1
    have : hd = hd2 := by simpa using h1
    subst this
    cases hd1 : hd.1 with
    | none => rw [hd1] at hgr; simp at hgr
    | some q => rw [hd1] at hgr; simp at hgr; have := h5 p q hp hd1; omega
  · rw [List.length_set] at hi
    obtain ⟨hd2, xs, h1, h2, h3, h4, h5⟩ := h.row i hi
    by_cases hik : i = k
    · subst hik
      rw [hk] at h1
      have : hd = hd2 := by simpa using h1
      subst this
      exact ⟨hd, ys, hk, by simp [hi], hl, ho, h5⟩
    · refine ⟨hd2, xs, h1, by rw [List.getElem?_set_ne (by omega)]; exact h2, h3, h4.kept hg ?_, h5⟩
      intro g hgr p hp
      cases hd1 : hd.1 with
      | none => rw [hd1] at hgr; simp at hgr
      | some q => rw [hd1] at hgr; simp at hgr; have := h.apart i k hd2 hd hik h1 hk p q hp hd1; omega

theorem Own2.blks {α : Type} {f : α → Value} {e ee : TypeId} {w : World} {base : Nat} {a : Option Addr} {c : Nat} {hs : List Hd} {xss : List (List α)} (h : Own2 f e ee w base a c hs xss) (i : Nat) (hd : Hd) (p : Addr) (hi : hs[i]? = some hd) (hp : hd.1 = some p) : p.block < w.heap.size := by
  have hl : i < xss.length := by rw [← h.len]; exact (List.getElem?_eq_some_iff.1 hi).1
  obtain ⟨hd2, xs, h1, _, _, h4, _⟩ := h.row i hl
  rw [hi] at h1
  have : hd = hd2 := by simpa using h1
  subst this
  exact (h4.blk p hp).2

/-- Either the sizes are small enough, or the answer is -1. -/
def SzOk (n : Nat) (e : Ending) : Prop := e = .returned (.int .i64 (-1)) ∨ (n ≤ 1048576 ∧ ∃ r : Int, 0 ≤ r ∧ e = .returned (.int .i64 r))

/-- The world behind the marks of all rows. -/
def RetMM (lo hi : Nat) (w : World) (en : Ending) (w' : World) : Prop := ∃ k : Int, 0 ≤ k ∧ k ≤ 4194304 ∧ en = .returned (.int .i64 k) ∧ TurnB lo hi w w'

end Go.Proofs.Ytfecdmenliohhaa

namespace Go.Proofs.Ytfecdmenliohhaa
open Go.RowKit

theorem grown_of_alloc (w : World) (o : Obj) (row : Option Nat) : w.grownBy (w.alloc o) row :=
  have hb : Below w.heap.size w (w.alloc o) := (Below.refl _ _).alloc (Nat.le_refl _) o
  ⟨hb.os, hb.tape, hb.output, hb.size, fun k hk _ => hb.block k hk⟩
theorem TurnB.alloc {lo hi : Nat} {w w' : World} (h : TurnB lo hi w w') (o : Obj) : TurnB lo hi w (w'.alloc o) :=
  h.trans (TurnB.of_grown (a := none) (grown_of_alloc _ _ _) (by simp))
theorem Blk.turned {w w' : World} {k : Nat} {cs : Array Value} {T : TypeId} (h : Blk w k cs T) {lo hi : Nat} (ht : TurnB lo hi w w') (hk : k < lo ∨ hi ≤ k) : Blk w' k cs T := by
  have := h.lt
  unfold Blk at *
  rw [ht.block k this hk]; exact h
abbrev boolM : Nat → Bool := fun k => decide (k % 3 = 0)
abbrev intM : Nat → Int := fun k => (k : Int)
theorem Own.off {α : Type} {f : α → Value} {e : TypeId} {w : World} {base : Nat} {a : Option Addr} {c : Nat} {xs : List α} (h : Own f e w base a c xs) {k : Nat} (hk : w.heap.size ≤ k) : some k ≠ a.map (·.block) := by
  cases ha : a with
  | none => simp
  | some p => have := h.blk p ha; simp; omega

end Go.Proofs.Ytfecdmenliohhaa

namespace Go.Proofs.Ytfecdmenliohhaa
open Go.RowKit

end Go.Proofs.Ytfecdmenliohhaa

namespace Go.Proofs.Ytfecdmenliohhaa
open Go.RowKit
theorem und_iis : Try.prog.underlying 31 = some (.slice (Try.prog.elem 31)) := by kernel_rfl
theorem siz_iis (w : World) : (sizeOf (Try.prog.elem 31)).run Try.prog w = .ok 1 w := by kernel_rfl
theorem und_iise : Try.prog.underlying 31 = some (.slice 25) := by kernel_rfl
theorem info_ii : (Try.prog.info? 25).map (fun i => (i.zero, i.size, i.bytes)) = some (some (hdV (none, 0, 0)), 1, 24) := by kernel_rfl
end Go.Proofs.Ytfecdmenliohhaa

namespace Go.Proofs.Ytfecdmenliohhaa
open Go.RowKit

set_option maxHeartbeats 400000 in
theorem indexFuncii_any (a : Option Addr) (c : Nat) (xs : List Hd) (ps : List Bool) (w : World) (F : Nat) (caps : Array Value) (hF : ∀ (vs : Array Value) (w : World), (callFunc F vs).run Try.prog w = .ok (.enter F vs) w) (hl : ps.length = xs.length) (hr : Rd hdV w a c xs)
    (hclo : ∀ k (h : k < ps.length) wr, Below w.heap.size w wr → Calls Try.prog F (#[hdV (xs[k]?.getD default)] ++ caps) wr fun e w' => e = .returned (.bool ps[k]) ∧ Below wr.heap.size wr w') :
    Calls Try.prog 48 #[.slice a ps.length c, .func (.func F) #[] caps] w fun e w' => e = .returned (.int .i64 (idxOf id ps)) ∧ Below w.heap.size w w' := by
  have hln := hr.len
  rw [← hl] at hln
  have HL := Lib.hid hl
  clear hl
  go_enter Try.func48, Try.ntmps48
  go_wp2
  go_loopw [5, 8] (fun _ i wr => ∃ k : Nat, k ≤ ps.length ∧ i = .int .i64 k ∧ Hid (∀ x ∈ ps.take k, id x = false) ∧ Below w.heap.size w wr) (fun _ i _ => ps.length - (intOf i).toNat)
  case atStart => exact ⟨0, Nat.zero_le _, rfl, by show ∀ x ∈ _, _; simp, Below.refl _ _⟩
  case round =>
    obtain ⟨k, hk, rfl, HP, hb⟩ := hrel
    have HC : Hid (∀ k (h : k < ps.length) wr, Below w.heap.size w wr → Calls Try.prog F (#[hdV (xs[k]?.getD default)] ++ caps) wr fun e w' => e = .returned (.bool ps[k]) ∧ Below wr.heap.size wr w') := hclo
    clear hclo
    by_cases hlt : k < ps.length
    · have hr' := hr.below hb (Nat.le_refl _)
      have hix := hr'.idx und_iis siz_iis
      rw [← HL.out] at hix
      have hcx := hr'.cell k (by rw [← HL.out]; exact hlt)
      have hq := HC.out k hlt wr hb
      clear HC
      obtain ⟨v, hv⟩ : ∃ v, hdV (xs[k]?.getD default) = v := ⟨_, rfl⟩
      rw [hv] at hcx hq
      obtain ⟨q, hpq⟩ : ∃ q, ps[k] = q := ⟨_, rfl⟩
      rw [hpq] at hq
      have HPQ := Lib.hid hpq
      have HQ := Lib.hid hq
      clear hv hpq hq hr'
      go_wp2_with fail
      refine HQ.out.mono ?_
      rintro e w1 ⟨rfl, hb1⟩
      cases q with
      | true =>
        clear HQ
        go_wp2
        go_ret
        refine ⟨ret_int ?_, hb.trans (hb1.mono hb.size)⟩
        rw [idxOf_here (h := hlt) (by simpa using HPQ.out) HP.out]
      | false =>
        clear HQ
        go_wp2
        go_roundw
        case rel => exact ⟨k + 1, by omega, by go_num, snoc_none hlt HP.out (by simpa using HPQ.out), hb.trans (hb1.mono hb.size)⟩
        case measure => simp [intOf]; omega
    · obtain rfl : k = ps.length := by omega
      go_wp2
      go_ret
      refine ⟨ret_int ?_, hb⟩
      rw [idxOf_none (by simpa using HP.out)]

set_option maxHeartbeats 400000 in
theorem containsFuncii_any (a : Option Addr) (c : Nat) (xs : List Hd) (ps : List Bool) (w : World) (F : Nat) (caps : Array Value) (hF : ∀ (vs : Array Value) (w : World), (callFunc F vs).run Try.prog w = .ok (.enter F vs) w) (hl : ps.length = xs.length) (hr : Rd hdV w a c xs)
    (hclo : ∀ k (h : k < ps.length) wr, Below w.heap.size w wr → Calls Try.prog F (#[hdV (xs[k]?.getD default)] ++ caps) wr fun e w' => e = .returned (.bool ps[k]) ∧ Below wr.heap.size wr w') :
    Calls Try.prog 33 #[.slice a ps.length c, .func (.func F) #[] caps] w fun e w' => e = .returned (.bool (ps.any id)) ∧ Below w.heap.size w w' := by
  have HC := Lib.hid (indexFuncii_any a c xs ps w F caps hF hl hr hclo)
  clear hclo hl
  go_enter Try.func33, Try.ntmps33
  go_wp2_with fail
  refine HC.out.mono ?_
  rintro e w1 ⟨rfl, hb1⟩
  have HB := Lib.hid (idxOf_any id ps)
  go_wp2
  go_ret
  exact ⟨ret_bool (by simpa using HB.out), hb1⟩

end Go.Proofs.Ytfecdmenliohhaa

namespace Go.Proofs.Ytfecdmenliohhaa
open Go.RowKit

/-- The two ends of edge j differ. -/
def apartB (xs : List Int) (j : Nat) : Bool := xs[2 * j]?.getD 0 != xs[2 * j + 1]?.getD 0
def edgesB (n : Int) (xs : List Int) : Bool :=
  inR n 2 32 && decide (xs.length % 2 = 0) && decide (xs.length ≤ 128) && xs.all (fun x => inR x 0 (n - 1)) && (List.range (xs.length / 2)).all (apartB xs)

theorem apart_all {xs : List Int} (h : ∀ j, j < xs.length / 2 → apartB xs j = true) : (List.range (xs.length / 2)).all (apartB xs) = true := by
  rw [List.all_eq_true]; intro j hj; exact h j (by simpa using hj)
theorem apart_not {xs : List Int} {j : Nat} (hj : j < xs.length / 2) (h : apartB xs j = false) : (List.range (xs.length / 2)).all (apartB xs) = false := by
  rw [List.all_eq_false]; exact ⟨j, by simpa using hj, by simp [h]⟩

set_option maxHeartbeats 1000000 in
theorem areEdges_any {a : Option Addr} {c : Nat} {xs : List Int} {n : Int} {w : World} (hr : Rd (Value.int .i64) w a c xs) :
    Calls Try.prog 28 #[.int .i64 n, .slice a xs.length c] w fun e w' => e = .returned (.bool (edgesB n xs)) ∧ Below w.heap.size w w' := by
  have hln := hr.len
  cases h1 : inR n 2 32 with
  | false =>
    go_enter Try.func28, Try.ntmps28
    go_wp2_with fail
    refine (within_any _ _ _ _).mono ?_
    rintro e w1 ⟨rfl, rfl⟩
    go_wp2
    go_ret
    exact ⟨ret_bool (by simp [edgesB, h1]), Below.refl _ _⟩
  | true =>
    have hn := (inR_eq _ _ _).1 h1
    have hn1 := hn.1
    have hn2 := hn.2
    clear hn
    by_cases h2 : xs.length % 2 = 0
    · have d2 : ((xs.length : Int) % 2 != 0) = false := by simp; omega
      have H2 := Lib.hid h2
      have hev : xs.length < 2 * (xs.length / 2) + 1 := by omega
      clear h2
      by_cases h3 : xs.length ≤ 128
      · have h3' : (xs.length : Int) ≤ 128 := by omega
        cases h4 : xs.all (fun x => inR x 0 (n - 1)) with
        | false =>
          go_enter Try.func28, Try.ntmps28
          go_wp2_with fail
          refine (within_any _ _ _ _).mono ?_
          rintro e w1 ⟨rfl, rfl⟩
          go_wp2_with fail
          refine (areWithin_any a c xs _ _ _ hr).mono ?_
          rintro e w2 ⟨rfl, hb2⟩
          rw [h4]
          go_wp2
          go_ret
          exact ⟨ret_bool (by simp only [edgesB, h4]; simp), hb2⟩
        | true =>
          have H4 := Lib.hid h4
          have H1 := Lib.hid h1
          go_enter Try.func28, Try.ntmps28
          go_wp2_with fail
          refine (within_any _ _ _ _).mono ?_
          rintro e w1 ⟨rfl, rfl⟩
          go_wp2_with fail
          refine (areWithin_any a c xs _ _ _ hr).mono ?_
          rintro e w2 ⟨rfl, hb2⟩
          rw [h4]
          clear h4
          go_wp2_with fail
          clear h1 d2
          go_loopw [5] (fun i wr => ∃ k : Nat, k ≤ xs.length / 2 ∧ i = .int .i64 ((2 * k : Nat) : Int) ∧ (∀ j, j < k → apartB xs j = true) ∧ Below w.heap.size w wr) (fun i _ => xs.length - (intOf i).toNat)
          case atStart => exact ⟨0, Nat.zero_le _, rfl, by intro j hj; omega, hb2⟩
          case round =>
            obtain ⟨k, hk, rfl, h0, hb⟩ := hrel
            have H0 := Lib.hid h0
            clear h0 hb2
            by_cases hlt : k < xs.length / 2
            · have hk1 : 2 * k + 1 < xs.length := by omega
              have hxr := hr.below hb (Nat.le_refl _)
              have hi0 := rd_idxAt hxr und_is siz_is (2 * k) (by omega) (2 * (k : Int)) (by omega)
              have hi1 := rd_idxAt hxr und_is siz_is (2 * k + 1) (by omega) (2 * (k : Int) + 1) (by omega)
              have hc0 := hxr.cell (2 * k) (by omega)
              have hc1 := hxr.cell (2 * k + 1) (by omega)
              have ew : IntKind.i64.wrap (2 * (k : Int) + 1) = 2 * (k : Int) + 1 := IntWalk.i64_in _ (by omega)
              obtain ⟨x, hx⟩ : ∃ s, xs[2 * k]?.getD 0 = s := ⟨_, rfl⟩
              obtain ⟨y, hy⟩ : ∃ s, xs[2 * k + 1]?.getD 0 = s := ⟨_, rfl⟩
              have hd : (default : Int) = 0 := rfl
              rw [hd, hx] at hc0
              rw [hd, hy] at hc1
              clear hd
              have HA : Hid (apartB xs k = (x != y)) := by show _ = _; simp [apartB, hx, hy]
              clear hx hy
              by_cases hxy : x = y
              · have d3 : (x == y) = true := by simp [hxy]
                have HX := Lib.hid hxy
                clear hxy
                go_wp2_with fail
                go_quiet (fail)
                go_wp2
                go_ret
                refine ⟨ret_bool ?_, hb.trans (below_of_drewN _ _ _)⟩
                have := apart_not hlt (by rw [HA.out, HX.out]; simp)
                simp [edgesB, this]
              · have d3 : (x == y) = false := by simp [hxy]
                have HX := Lib.hid hxy
                clear hxy
                go_wp2_with fail
                go_quiet (fail)
                go_wp2
                go_roundw
                case rel => exact ⟨k + 1, by omega, by go_num, by
                  intro j hj
                  by_cases e : j = k
                  · rw [e, HA.out]; simpa using HX.out
                  · exact H0.out j (by omega), hb.trans (below_of_drewN _ _ _)⟩
                case measure => simp [intOf]; omega
            · have hkk : k = xs.length / 2 := by omega
              have hge : (xs.length : Int) ≤ ((2 * k : Nat) : Int) := by omega
              have HK := Lib.hid hkk
              clear hkk
              go_wp2
              go_ret
              refine ⟨ret_bool ?_, hb⟩
              have h5 := apart_all (xs := xs) (by rw [← HK.out]; exact H0.out)
              have h6 := H4.out
              have h7 := H2.out
              simp only [edgesB, H1.out, h5, h6, h7]
              simp [h3]
      · have h3' : (128 : Int) < (xs.length : Int) := by omega
        go_enter Try.func28, Try.ntmps28
        go_wp2_with fail
        refine (within_any _ _ _ _).mono ?_
        rintro e w1 ⟨rfl, rfl⟩
        go_wp2
        go_ret
        exact ⟨ret_bool (by simp [edgesB, h3]), Below.refl _ _⟩
    · have d2 : ((xs.length : Int) % 2 != 0) = true := by simp; omega
      have H2 := Lib.hid h2
      clear h2
      go_enter Try.func28, Try.ntmps28
      go_wp2_with fail
      refine (within_any _ _ _ _).mono ?_
      rintro e w1 ⟨rfl, rfl⟩
      go_wp2
      go_ret
      exact ⟨ret_bool (by have := H2.out; simp [edgesB, this]), Below.refl _ _⟩

end Go.Proofs.Ytfecdmenliohhaa

namespace Go.Proofs.Ytfecdmenliohhaa
open Go.RowKit

theorem l00In_quiet {x lo hi : Int} {w : World} {n : Nat} : Calls Try.prog 42 #[.int .i64 x, .int .i64 lo, .int .i64 hi] (w.drewN n) fun e w'' => e = .returned (.bool (inR x lo hi)) ∧ ∃ m, w'' = w.drewN m :=
  (l00In_any x lo hi _).mono fun _ _ ⟨he, hw⟩ => ⟨he, n, hw.symm⟩

theorem all_pairs {p : Int → Bool} {xs : List Int} (hev : xs.length % 2 = 0) (h : ∀ j, j < xs.length / 2 → p (xs[2 * j]?.getD 0) = true ∧ p (xs[2 * j + 1]?.getD 0) = true) : xs.all p = true := by
  rw [List.all_eq_true]
  intro x hx
  obtain ⟨i, hi, rfl⟩ := List.getElem_of_mem hx
  have := h (i / 2) (by omega)
  rcases Nat.mod_two_eq_zero_or_one i with e | e
  · have e2 : 2 * (i / 2) = i := by omega
    rw [e2] at this
    simpa [hi] using this.1
  · have e2 : 2 * (i / 2) + 1 = i := by omega
    rw [e2] at this
    simpa [hi] using this.2
theorem not_all {p : Int → Bool} {xs : List Int} {i : Nat} (hi : i < xs.length) (h : p (xs[i]?.getD 0) = false) : xs.all p = false := by
  rw [List.all_eq_false]
  refine ⟨xs[i], List.getElem_mem hi, ?_⟩
  simp [hi] at h
  simp [h]

set_option maxHeartbeats 1000000 in
theorem l07Edges_any {a : Option Addr} {c : Nat} {xs : List Int} {n : Int} {w : World} (hr : Rd (Value.int .i64) w a c xs) :
    Calls Try.prog 29 #[.int .i64 n, .slice a xs.length c] w fun e w' => e = .returned (.bool (edgesB n xs)) ∧ Below w.heap.size w w' := by
  have hln := hr.len
  cases h1 : inR n 2 32 with
  | false =>
    go_enter Try.func29, Try.ntmps29
    go_wp2_with fail
    refine (l00In_any _ _ _ _).mono ?_
    rintro e w1 ⟨rfl, rfl⟩
    go_wp2
    go_ret
    exact ⟨ret_bool (by simp [edgesB, h1]), Below.refl _ _⟩
  | true =>
    have hn := (inR_eq _ _ _).1 h1
    have hn1 := hn.1
    have hn2 := hn.2
    clear hn
    by_cases h2 : xs.length % 2 = 0
    · have d2 : ((xs.length : Int) % 2 != 0) = false := by simp; omega
      have H2 := Lib.hid h2
      have hev : xs.length < 2 * (xs.length / 2) + 1 := by omega
      clear h2
      by_cases h3 : xs.length ≤ 128
      · have h3' : (xs.length : Int) ≤ 128 := by omega
        have H1 := Lib.hid h1
        go_enter Try.func29, Try.ntmps29
        go_wp2_with fail
        refine (l00In_any _ _ _ _).mono ?_
        rintro e w1 ⟨rfl, rfl⟩
        go_wp2_with fail
        clear h1 d2
        have en : IntKind.i64.wrap (n - 1) = n - 1 := IntWalk.i64_in _ (by omega)
        go_loopw [5] (fun i wr => ∃ k : Nat, k ≤ xs.length / 2 ∧ i = .int .i64 ((2 * k : Nat) : Int) ∧ (∀ j, j < k → inR (xs[2 * j]?.getD 0) 0 (n - 1) = true ∧ inR (xs[2 * j + 1]?.getD 0) 0 (n - 1) = true ∧ apartB xs j = true) ∧ Below w.heap.size w wr) (fun i _ => xs.length - (intOf i).toNat)
        case atStart => exact ⟨0, Nat.zero_le _, rfl, by intro j hj; omega, Below.refl _ _⟩
        case round =>
          obtain ⟨k, hk, rfl, h0, hb⟩ := hrel
          have H0 := Lib.hid h0
          clear h0
          by_cases hlt : k < xs.length / 2
          · have hk1 : 2 * k + 1 < xs.length := by omega
            have hxr := hr.below hb (Nat.le_refl _)
            have hi0 := rd_idxAt hxr und_is siz_is (2 * k) (by omega) (2 * (k : Int)) (by omega)
            have hi1 := rd_idxAt hxr und_is siz_is (2 * k + 1) (by omega) (2 * (k : Int) + 1) (by omega)
            have hc0 := hxr.cell (2 * k) (by omega)
            have hc1 := hxr.cell (2 * k + 1) (by omega)
            have ew : IntKind.i64.wrap (2 * (k : Int) + 1) = 2 * (k : Int) + 1 := IntWalk.i64_in _ (by omega)
            obtain ⟨x, hx⟩ : ∃ s, xs[2 * k]?.getD 0 = s := ⟨_, rfl⟩
            obtain ⟨y, hy⟩ : ∃ s, xs[2 * k + 1]?.getD 0 = s := ⟨_, rfl⟩
            have hd : (default : Int) = 0 := rfl
            rw [hd, hx] at hc0
            rw [hd, hy] at hc1
            clear hd
            have HX := Lib.hid hx
            have HY := Lib.hid hy
            clear hx hy
            cases hix : inR x 0 (n - 1) with
            | false =>
              have HA : Hid (edgesB n xs = false) := by show _ = _; unfold edgesB; rw [not_all (p := fun x => inR x 0 (n - 1)) (i := 2 * k) (by omega) (by rw [HX.out]; exact hix)]; simp
              go_wp2_with fail
              go_quiet ((go_at_call 42; exact l00In_quiet))
              go_wp2
              go_ret
              exact ⟨ret_bool (by rw [HA.out]), hb.trans (below_of_drewN _ _ _)⟩
            | true =>
              cases hiy : inR y 0 (n - 1) with
              | false =>
                have HA : Hid (edgesB n xs = false) := by show _ = _; unfold edgesB; rw [not_all (p := fun x => inR x 0 (n - 1)) (i := 2 * k + 1) (by omega) (by rw [HY.out]; exact hiy)]; simp
                go_wp2_with fail
                go_quiet ((go_at_call 42; exact l00In_quiet))
                go_wp2
                go_ret
                exact ⟨ret_bool (by rw [HA.out]), hb.trans (below_of_drewN _ _ _)⟩
              | true =>
                have HP : Hid (apartB xs k = (x != y)) := by show _ = _; simp [apartB, HX.out, HY.out]
                by_cases hxy : x = y
                · have d3 : (x == y) = true := by simp [hxy]
                  have HA : Hid (edgesB n xs = false) := by show _ = _; unfold edgesB; rw [apart_not hlt (by rw [HP.out, hxy]; simp)]; simp
                  clear hxy
                  go_wp2_with fail
                  go_quiet ((go_at_call 42; exact l00In_quiet))
                  go_wp2
                  go_ret
                  exact ⟨ret_bool (by rw [HA.out]), hb.trans (below_of_drewN _ _ _)⟩
                · have d3 : (x == y) = false := by simp [hxy]
                  have HXY := Lib.hid hxy
                  have HIX := Lib.hid hix
                  have HIY := Lib.hid hiy
                  clear hxy
                  go_wp2_with fail
                  go_quiet ((go_at_call 42; exact l00In_quiet))
                  go_wp2
                  go_roundw
                  case rel => exact ⟨k + 1, by omega, by go_num, by
                    intro j hj
                    by_cases e : j = k
                    · rw [e, HP.out, HX.out, HY.out]; exact ⟨HIX.out, HIY.out, by simpa using HXY.out⟩
                    · exact H0.out j (by omega), hb.trans (below_of_drewN _ _ _)⟩
                  case measure => simp [intOf]; omega
          · have hkk : k = xs.length / 2 := by omega
            have hge : (xs.length : Int) ≤ ((2 * k : Nat) : Int) := by omega
            have HK := Lib.hid hkk
            clear hkk
            go_wp2
            go_ret
            refine ⟨ret_bool ?_, hb⟩
            have h4 : ∀ j, j < xs.length / 2 → inR (xs[2 * j]?.getD 0) 0 (n - 1) = true ∧ inR (xs[2 * j + 1]?.getD 0) 0 (n - 1) = true ∧ apartB xs j = true := by rw [← HK.out]; exact H0.out
            have h5 := apart_all (xs := xs) (fun j hj => (h4 j hj).2.2)
            have h6 := all_pairs (p := fun x => inR x 0 (n - 1)) H2.out (fun j hj => ⟨(h4 j hj).1, (h4 j hj).2.1⟩)
            have h7 := H2.out
            unfold edgesB
            rw [H1.out, h5, h6, h7]
            simp [h3]
      · have h3' : (128 : Int) < (xs.length : Int) := by omega
        go_enter Try.func29, Try.ntmps29
        go_wp2_with fail
        refine (l00In_any _ _ _ _).mono ?_
        rintro e w1 ⟨rfl, rfl⟩
        go_wp2
        go_ret
        exact ⟨ret_bool (by simp [edgesB, h3]), Below.refl _ _⟩
    · have d2 : ((xs.length : Int) % 2 != 0) = true := by simp; omega
      have H2 := Lib.hid h2
      clear h2
      go_enter Try.func29, Try.ntmps29
      go_wp2_with fail
      refine (l00In_any _ _ _ _).mono ?_
      rintro e w1 ⟨rfl, rfl⟩
      go_wp2
      go_ret
      exact ⟨ret_bool (by have := H2.out; simp [edgesB, this]), Below.refl _ _⟩

end Go.Proofs.Ytfecdmenliohhaa

namespace Go.Proofs.Ytfecdmenliohhaa
open Go.RowKit

/-- One edge: the parts, and the indices of edges that have joined. -/
def fstep (xs : List Int) (st : List Int × List Int) (j : Nat) : List Int × List Int :=
  if st.1[(xs[2 * j]?.getD 0).toNat]?.getD 0 = st.1[(xs[2 * j + 1]?.getD 0).toNat]?.getD 0 then st
  else (st.1.map (fun p => if p = st.1[(xs[2 * j + 1]?.getD 0).toNat]?.getD 0 then st.1[(xs[2 * j]?.getD 0).toNat]?.getD 0 else p), st.2 ++ [(j : Int)])
def iota (N : Nat) : List Int := (List.range N).map fun (i : Nat) => (i : Int)
def forestK (xs : List Int) (N k : Nat) : List Int × List Int := (List.range k).foldl (fstep xs) (iota N, [])
theorem forestK_succ (xs : List Int) (N k : Nat) : forestK xs N (k + 1) = fstep xs (forestK xs N k) k := by
  unfold forestK; rw [List.range_succ, List.foldl_append]; rfl
theorem iota_snoc (k : Nat) : iota (k + 1) = iota k ++ [(k : Int)] := by simp [iota, List.range_succ]
theorem iota_length (k : Nat) : (iota k).length = k := by simp [iota]
theorem fstep_eq {xs : List Int} {gs os : List Int} {j : Nat} {p q : Int} (hq : gs[(xs[2 * j]?.getD 0).toNat]?.getD 0 = q) (hp : gs[(xs[2 * j + 1]?.getD 0).toNat]?.getD 0 = p) :
    fstep xs (gs, os) j = if q = p then (gs, os) else (gs.map (fun r => if r = p then q else r), os ++ [(j : Int)]) := by
  unfold fstep; simp only [hq, hp]
theorem forestK_len (xs : List Int) (N k : Nat) : (forestK xs N k).1.length = N ∧ (forestK xs N k).2.length ≤ k := by
  induction k with
  | zero => simp [forestK, iota]
  | succ k ih =>
    rw [forestK_succ]
    unfold fstep
    split
    · exact ⟨ih.1, by omega⟩
    · simp; omega

/-- What the law's edges say: bounds of the two ends. -/
theorem edges_bd {n : Int} {xs : List Int} (h : edgesB n xs = true) : 2 ≤ n ∧ n ≤ 32 ∧ xs.length % 2 = 0 ∧ xs.length ≤ 128 ∧ ∀ k, k < xs.length → 0 ≤ xs[k]?.getD 0 ∧ xs[k]?.getD 0 ≤ n - 1 := by
  simp only [edgesB, Bool.and_eq_true, decide_eq_true_eq] at h
  obtain ⟨⟨⟨⟨h1, h2⟩, h3⟩, h4⟩, _⟩ := h
  have hn := (inR_eq _ _ _).1 h1
  refine ⟨hn.1, hn.2, h2, h3, fun k hk => ?_⟩
  rw [List.all_eq_true] at h4
  have := (inR_eq _ _ _).1 (h4 xs[k] (List.getElem_mem hk))
  simpa [hk] using this

theorem map_set {gs : List Int} {m : Nat} {p q : Int} (hm : m < gs.length) (h : gs[m] = p) :
    ((gs.take m).map (fun r => if r = p then q else r) ++ gs.drop m).set m q = (gs.take (m + 1)).map (fun r => if r = p then q else r) ++ gs.drop (m + 1) := by
  have hl : ((gs.take m).map (fun r => if r = p then q else r)).length = m := by simp; omega
  rw [List.set_append_right _ _ (by omega), hl, Nat.sub_self]
  have hd := List.drop_eq_getElem_cons hm
  rw [hd, List.set_cons_zero, List.take_add_one, List.getElem?_eq_getElem hm]
  simp [h]
theorem map_keep {gs : List Int} {m : Nat} {p q : Int} (hm : m < gs.length) (h : ¬ gs[m] = p) :
    ((gs.take m).map (fun r => if r = p then q else r) ++ gs.drop m) = (gs.take (m + 1)).map (fun r => if r = p then q else r) ++ gs.drop (m + 1) := by
  have hd := List.drop_eq_getElem_cons hm
  rw [hd, List.take_add_one, List.getElem?_eq_getElem hm, Option.toList_some, List.map_append, List.append_assoc]
  simp only [List.map_cons, List.map_nil, if_neg h]
  rfl
theorem map_at {gs : List Int} {m : Nat} {p q : Int} (hm : m < gs.length) (hm2 : m < ((gs.take m).map (fun r => if r = p then q else r) ++ gs.drop m).length) :
    ((gs.take m).map (fun r => if r = p then q else r) ++ gs.drop m)[m] = gs[m] := by
  have hl : ((gs.take m).map (fun r => if r = p then q else r)).length = m := by simp; omega
  rw [List.getElem_append_right (by omega), List.getElem_drop]
  congr 1
  omega

/-- A list in new memory, and a number. -/
def RetSI (w : World) (xs : List Int) (n : Int) (en : Ending) (w' : World) : Prop :=
  ∃ a c, en = .returned (.tuple #[.slice a xs.length c, .int .i64 n]) ∧ Own (Value.int .i64) 2 w' w.heap.size a c xs ∧ Below w.heap.size w w'

set_option maxRecDepth 4000 in
set_option maxHeartbeats 2000000 in
theorem l07Forest_any {a1 : Option Addr} {c1 : Nat} {xs : List Int} {N : Nat} {w : World} (hr : Rd (Value.int .i64) w a1 c1 xs) (he : edgesB (N : Int) xs = true) :
    Calls Try.prog 30 #[.int .i64 N, .slice a1 xs.length c1] w (RetSI w (forestK xs N (xs.length / 2)).2 ((N : Int) - ((forestK xs N (xs.length / 2)).2.length : Int))) := by
  obtain ⟨hn1, hn2, hev, hl128, hbd⟩ := edges_bd he
  have hN1 : 2 ≤ N := by omega
  have hN2 : N ≤ 32 := by omega
  have hevn : xs.length = 2 * (xs.length / 2) := by omega
  have HEV := Lib.hid hevn
  have HBD := Lib.hid hbd
  clear he hn1 hn2 hev hbd hevn
  go_enter Try.func30, Try.ntmps30
  go_wp2_with fail
  go_loopw [6, 7] (fun g i wr => ∃ (k : Nat) (a : Option Addr) (c : Nat) (gs : List Int), k ≤ N ∧ i = .int .i64 k ∧ g = .slice a gs.length c ∧ Own (Value.int .i64) 2 wr w.heap.size a c gs ∧ Hid (gs = iota k) ∧ Below w.heap.size w wr) (fun _ i _ => N - (intOf i).toNat)
  case atStart => exact ⟨0, _, _, [], Nat.zero_le _, rfl, rfl, own_empty w _ (Nat.le_refl _) rfl, by show _ = _; rfl, (Below.refl _ _).alloc (Nat.le_refl _) _⟩
  case round =>
    obtain ⟨k, a, c, gs, hk, rfl, rfl, ho, HG, hb⟩ := hrel
    have HO := Lib.hid ho
    clear ho
    have hz := hb.size
    by_cases hlt : k < N
    · have hgl : gs.length ≤ 32 := by rw [HG.out, iota_length]; omega
      go_wp2_with (at_builtin; refine wpl_append1 (f := Value.int .i64) (d := 0) (base := w.heap.size) und_ise info_i (fun _ => rfl) _ HO.out rfl _ _ rfl rfl rfl (by omega) (by omega) hz ?_; intro a3 c3 w3 ho3 hg3)
      have hb3 := hb.trans (grown_belowOwn HO.out hg3 (Nat.le_refl _) hz)
      go_roundw
      case rel => exact ⟨k + 1, a3, c3, _, by omega, by go_num, by rw [List.length_append]; rfl, ho3, by show _ = _; rw [HG.out, iota_snoc], hb3⟩
      case measure => simp [intOf]; omega
    · obtain rfl : k = N := by omega
      have hgl : gs.length = k := by rw [HG.out, iota_length]
      rw [hgl]
      have HGL := Lib.hid hgl
      have HB := Lib.hid HO.out.blk
      clear hgl hlt hk
      obtain ⟨wa, rfl⟩ : ∃ wa : World, wa = wr := ⟨_, rfl⟩
      go_wp2_with fail
      go_loopw [8, 9, 10, 11, 12, 55] (fun out i _ _ _ _ wq => ∃ (m : Nat) (gs' os : List Int) (ao : Option Addr) (co : Nat), m ≤ xs.length / 2 ∧ i = .int .i64 ((2 * m : Nat) : Int) ∧ out = .slice ao os.length co ∧ Own (Value.int .i64) 2 wq w.heap.size a c gs' ∧ Own (Value.int .i64) 2 wq wa.heap.size ao co os ∧ Hid ((gs', os) = forestK xs k m) ∧ Below w.heap.size w wq ∧ wa.heap.size ≤ wq.heap.size) (fun _ i _ _ _ _ _ => xs.length - (intOf i).toNat)
      case atStart => exact ⟨0, gs, [], _, 0, Nat.zero_le _, rfl, rfl, HO.out.alloc _, own_empty wa _ (Nat.le_refl _) rfl, by show _ = _; rw [HG.out]; rfl, hb.alloc hb.size _, by simp⟩
      case round =>
        obtain ⟨m, gs', os, ao, co, hm, rfl, rfl, hog, hoo, HF, hbq, hM⟩ := hrel
        have hlen := forestK_len xs k m
        rw [← HF.out] at hlen
        have HL := Lib.hid hlen.1
        have hos : os.length ≤ m := hlen.2
        have hzq := hbq.size
        have HOO := Lib.hid hoo
        have HOG := Lib.hid hog
        clear hlen hoo HGL HG HO
        obtain ⟨wo, rfl⟩ : ∃ wo : World, wo = wr := ⟨_, rfl⟩
        by_cases hlt : m < xs.length / 2
        · have hm1 : 2 * m + 1 < xs.length := by omega
          have hxr := hr.below hbq (Nat.le_refl _)
          have hi0 := rd_idxAt hxr und_is siz_is (2 * m) (by omega) (2 * (m : Int)) (by omega)
          have hi1 := rd_idxAt hxr und_is siz_is (2 * m + 1) (by omega) (2 * (m : Int) + 1) (by omega)
          have hc0 := hxr.cell (2 * m) (by omega)
          have hc1 := hxr.cell (2 * m + 1) (by omega)
          have ew : IntKind.i64.wrap (2 * (m : Int) + 1) = 2 * (m : Int) + 1 := IntWalk.i64_in _ (by omega)
          have hb0 := HBD.out (2 * m) (by omega)
          have hb1 := HBD.out (2 * m + 1) (by omega)
          obtain ⟨x, hx⟩ : ∃ s, xs[2 * m]?.getD 0 = s := ⟨_, rfl⟩
          obtain ⟨y, hy⟩ : ∃ s, xs[2 * m + 1]?.getD 0 = s := ⟨_, rfl⟩
          have hd : (default : Int) = 0 := rfl
          rw [hx] at hb0
          rw [hy] at hb1
          rw [hd, hx] at hc0
          rw [hd, hy] at hc1
          obtain ⟨X, rfl⟩ : ∃ X : Nat, x = (X : Int) := ⟨x.toNat, by omega⟩
          obtain ⟨Y, rfl⟩ : ∃ X : Nat, y = (X : Int) := ⟨y.toNat, by omega⟩
          have hX : X < k := by omega
          have hY : Y < k := by omega
          have hX0 : (0 : Int) ≤ (X : Int) := by omega
          have hXi : (X : Int) < (k : Int) := by omega
          have hig := hog.idx und_is siz_is
          have hgX := hog.rd.cell X (by rw [HL.out]; exact hX)
          have hgY := hog.rd.cell Y (by rw [HL.out]; exact hY)
          rw [HL.out] at hig
          obtain ⟨q, hq⟩ : ∃ s, gs'[X]?.getD 0 = s := ⟨_, rfl⟩
          obtain ⟨p, hp⟩ : ∃ s, gs'[Y]?.getD 0 = s := ⟨_, rfl⟩
          have HS : Hid (forestK xs k (m + 1) = if q = p then (gs', os) else (gs'.map (fun r => if r = p then q else r), os ++ [(m : Int)])) := by
            show _ = _
            rw [forestK_succ, ← HF.out]
            exact fstep_eq (by rw [hx]; simpa using hq) (by rw [hy]; simpa using hp)
          rw [hd, hq] at hgX
          rw [hd, hp] at hgY
          clear hd hx hy hq hp hb0 hb1 HF
          by_cases hpq : p = q
          · have dpq : (p == q) = true := by simp [hpq]
            have HPQ := Lib.hid hpq
            clear hpq
            go_wp2
            go_roundw
            case rel => exact ⟨m + 1, gs', os, ao, co, by omega, by go_num, rfl, HOG.out.below (Below.refl _ _) (Nat.le_refl _), HOO.out.below (Below.refl _ _) (Nat.le_refl _), by show _ = _; rw [HS.out, if_pos HPQ.out.symm], hbq.trans (Below.refl _ _), hM⟩
            case measure => simp [intOf]; omega
          · have dpq : (p == q) = false := by simp [hpq]
            have HPQ := Lib.hid hpq
            clear hpq
            go_wp2_with (at_builtin; refine wpl_append1 (f := Value.int .i64) (d := 0) (base := wa.heap.size) und_ise info_i (fun _ => rfl) (m : Int) (HOO.out.below (Below.refl _ _) (Nat.le_refl _)) rfl _ _ rfl rfl rfl (by omega) (by omega) (by first | exact hM | (simp; exact hM)) ?_; intro a3 c3 w3 ho3 hg3)
            have hog3 := HOG.out.keptBlk hg3 HB.out HOO.out.blk (.inl (Nat.le_refl _))
            have hb3 := hbq.trans (grown_belowOwn HOO.out hg3 hb.size hbq.size)
            have hM3 := Nat.le_trans hM hg3.size
            have hl3 : (os ++ [(m : Int)]).length = os.length + 1 := by simp
            clear hg3
            go_loopw [12, 55] (fun _ j w4 => ∃ (t : Nat), t ≤ k ∧ j = .int .i64 t ∧ Own (Value.int .i64) 2 w4 w.heap.size a c ((gs'.take t).map (fun r => if r = p then q else r) ++ gs'.drop t) ∧ Own (Value.int .i64) 2 w4 wa.heap.size a3 c3 (os ++ [(m : Int)]) ∧ Below w.heap.size w w4 ∧ wa.heap.size ≤ w4.heap.size) (fun _ j _ => k - (intOf j).toNat)
            case atStart => exact ⟨0, Nat.zero_le _, rfl, by simpa using hog3, ho3, hb3, hM3⟩
            case round =>
              obtain ⟨t, ht, rfl, hg4, ho4, hb4, hM4⟩ := hrel
              clear hog3 ho3 hb3 hM3
              have hgl4 : ((gs'.take t).map (fun r => if r = p then q else r) ++ gs'.drop t).length = k := by have := HL.out; simp; omega
              by_cases hlt4 : t < k
              · have htg : t < gs'.length := by rw [HL.out]; exact hlt4
                have hig4 := hg4.idx und_is siz_is
                rw [hgl4] at hig4
                have hc4 := hg4.cell t (by omega)
                rw [map_at htg] at hc4
                have hf4 := hg4.free t (by omega)
                have HG4 := Lib.hid hg4
                have HO4 := Lib.hid ho4
                have HT4 := Lib.hid htg
                by_cases hgp : gs'[t] = p
                · have dgp : (gs'[t] == p) = true := by simp [hgp]
                  have hst := hg4.set t (by omega) q
                  rw [map_set htg hgp] at hst
                  have HG5 := Lib.hid hst.1
                  have HW5 := Lib.hid hst.2
                  clear hst hgp hg4 ho4 hgl4 hig hgX hgY hi0 hi1 hc0 hc1 HPQ dpq
                  go_wp2
                  go_roundw
                  case rel => exact ⟨t + 1, by omega, by go_num, HG5.out, HO4.out.keptBlk HW5.out HO4.out.blk HB.out (.inr (Nat.le_refl _)), hb4.trans (grown_belowOwn HG4.out HW5.out (Nat.le_refl _) hb4.size), Nat.le_trans hM4 HW5.out.size⟩
                  case measure => simp [intOf]; omega
                · have dgp : (gs'[t] == p) = false := by simp [hgp]
                  have HK4 := Lib.hid (map_keep (q := q) htg hgp)
                  clear hgp hg4 ho4 hgl4 hig hgX hgY hi0 hi1 hc0 hc1 HPQ dpq
                  go_wp2
                  go_roundw
                  case rel => exact ⟨t + 1, by omega, by go_num, HG4.out.cast HK4.out, HO4.out, hb4, hM4⟩
                  case measure => simp [intOf]; omega
              · obtain rfl : t = k := by omega
                have hfull : (gs'.take t).map (fun r => if r = p then q else r) ++ gs'.drop t = gs'.map (fun r => if r = p then q else r) := by
                  rw [List.take_of_length_le (by rw [HL.out]; exact Nat.le_refl _), List.drop_eq_nil_of_le (by rw [HL.out]; exact Nat.le_refl _)]; simp
                rw [hfull] at hg4
                have HG4 := Lib.hid hg4
                have HO4 := Lib.hid ho4
                clear hg4 ho4 hfull hgl4 hig hgX hgY hi0 hi1 hc0 hc1 dpq
                go_wp2
                go_roundw
                case rel => exact ⟨m + 1, _, _, a3, c3, by omega, by go_num, by rw [hl3], HG4.out, HO4.out, by show _ = _; rw [HS.out, if_neg (fun e => HPQ.out e.symm)], hb4, hM4⟩
                case measure => simp [intOf]; omega
        · have hmm : m = xs.length / 2 := by omega
          have hge : (xs.length : Int) ≤ ((2 * m : Nat) : Int) := by have := HEV.out; omega
          have HM := Lib.hid hmm
          clear hmm
          go_wp2
          go_ret2
          have hos2 : os = (forestK xs k (xs.length / 2)).2 := by rw [← HM.out, ← HF.out]
          subst hos2
          exact ⟨ao, co, rfl, HOO.out.mono hb.size, hbq⟩

end Go.Proofs.Ytfecdmenliohhaa

namespace Go.Proofs.Ytfecdmenliohhaa
open Go.RowKit

/-- A list in new memory, a number and a bool. -/
def RetSIB (w : World) (xs : List Int) (n : Int) (b : Bool) (en : Ending) (w' : World) : Prop :=
  ∃ a c, en = .returned (.tuple #[.slice a xs.length c, .int .i64 n, .bool b]) ∧ Own (Value.int .i64) 2 w' w.heap.size a c xs ∧ Below w.heap.size w w'

set_option maxRecDepth 4000 in
set_option maxHeartbeats 2000000 in
theorem implForest_yes {a1 : Option Addr} {c1 : Nat} {xs : List Int} {N : Nat} {w : World} (hr : Rd (Value.int .i64) w a1 c1 xs) (he : edgesB (N : Int) xs = true) :
    Calls Try.prog 9 #[.int .i64 N, .slice a1 xs.length c1] w (RetSIB w (forestK xs N (xs.length / 2)).2 ((N : Int) - ((forestK xs N (xs.length / 2)).2.length : Int)) true) := by
  obtain ⟨hn1, hn2, hev, hl128, hbd⟩ := edges_bd he
  have hN1 : 2 ≤ N := by omega
  have hN2 : N ≤ 32 := by omega
  have hevn : xs.length = 2 * (xs.length / 2) := by omega
  have HEV := Lib.hid hevn
  have HBD := Lib.hid hbd
  clear hn1 hn2 hev hbd hevn
  go_enter Try.func9, Try.ntmps9
  go_wp2_with fail
  refine (areEdges_any hr).mono ?_
  rintro e wE ⟨rfl, hbE⟩
  go_wp2_with fail
  clear he
  go_loopw [7, 8, 21] (fun g _ i wr => ∃ (k : Nat) (a : Option Addr) (c : Nat) (gs : List Int), k ≤ N ∧ i = .int .i64 k ∧ g = .slice a gs.length c ∧ Own (Value.int .i64) 2 wr w.heap.size a c gs ∧ Hid (gs = iota k) ∧ Below w.heap.size w wr) (fun _ _ i _ => N - (intOf i).toNat)
  case atStart => exact ⟨0, _, _, [], Nat.zero_le _, rfl, rfl, own_empty wE _ hbE.size rfl, by show _ = _; rfl, hbE.alloc hbE.size _⟩
  case round =>
    obtain ⟨k, a, c, gs, hk, rfl, rfl, ho, HG, hb⟩ := hrel
    have HO := Lib.hid ho
    clear ho
    have hz := hb.size
    by_cases hlt : k < N
    · have hgl : gs.length ≤ 32 := by rw [HG.out, iota_length]; omega
      go_wp2_with (at_builtin; refine wpl_append1 (f := Value.int .i64) (d := 0) (base := w.heap.size) und_ise info_i (fun _ => rfl) _ HO.out rfl _ _ rfl rfl rfl (by omega) (by omega) hz ?_; intro a3 c3 w3 ho3 hg3)
      have hb3 := hb.trans (grown_belowOwn HO.out hg3 (Nat.le_refl _) hz)
      go_roundw
      case rel => exact ⟨k + 1, a3, c3, _, by omega, by go_num, by rw [List.length_append]; rfl, ho3, by show _ = _; rw [HG.out, iota_snoc], hb3⟩
      case measure => simp [intOf]; omega
    · obtain rfl : k = N := by omega
      have hgl : gs.length = k := by rw [HG.out, iota_length]
      rw [hgl]
      have HGL := Lib.hid hgl
      have HB := Lib.hid HO.out.blk
      clear hgl hlt hk
      obtain ⟨wa, rfl⟩ : ∃ wa : World, wa = wr := ⟨_, rfl⟩
      go_wp2_with fail
      go_loopw [9, 10, 11, 12, 13, 14, 61] (fun out i _ _ _ _ _ wq => ∃ (m : Nat) (gs' os : List Int) (ao : Option Addr) (co : Nat), m ≤ xs.length / 2 ∧ i = .int .i64 ((2 * m : Nat) : Int) ∧ out = .slice ao os.length co ∧ Own (Value.int .i64) 2 wq w.heap.size a c gs' ∧ Own (Value.int .i64) 2 wq wa.heap.size ao co os ∧ Hid ((gs', os) = forestK xs k m) ∧ Below w.heap.size w wq ∧ wa.heap.size ≤ wq.heap.size) (fun _ i _ _ _ _ _ _ => xs.length - (intOf i).toNat)
      case atStart => exact ⟨0, gs, [], _, 0, Nat.zero_le _, rfl, rfl, HO.out.alloc _, own_empty wa _ (Nat.le_refl _) rfl, by show _ = _; rw [HG.out]; rfl, hb.alloc hb.size _, by simp⟩
      case round =>
        obtain ⟨m, gs', os, ao, co, hm, rfl, rfl, hog, hoo, HF, hbq, hM⟩ := hrel
        have hlen := forestK_len xs k m
        rw [← HF.out] at hlen
        have HL := Lib.hid hlen.1
        have hos : os.length ≤ m := hlen.2
        have hzq := hbq.size
        have HOO := Lib.hid hoo
        have HOG := Lib.hid hog
        clear hlen hoo HGL HG HO
        obtain ⟨wo, rfl⟩ : ∃ wo : World, wo = wr := ⟨_, rfl⟩
        by_cases hlt : m < xs.length / 2
        · have hm1 : 2 * m + 1 < xs.length := by omega
          have hxr := hr.below hbq (Nat.le_refl _)
          have hi0 := rd_idxAt hxr und_is siz_is (2 * m) (by omega) (2 * (m : Int)) (by omega)
          have hi1 := rd_idxAt hxr und_is siz_is (2 * m + 1) (by omega) (2 * (m : Int) + 1) (by omega)
          have hc0 := hxr.cell (2 * m) (by omega)
          have hc1 := hxr.cell (2 * m + 1) (by omega)
          have ew : IntKind.i64.wrap (2 * (m : Int) + 1) = 2 * (m : Int) + 1 := IntWalk.i64_in _ (by omega)
          have hb0 := HBD.out (2 * m) (by omega)
          have hb1 := HBD.out (2 * m + 1) (by omega)
          obtain ⟨x, hx⟩ : ∃ s, xs[2 * m]?.getD 0 = s := ⟨_, rfl⟩
          obtain ⟨y, hy⟩ : ∃ s, xs[2 * m + 1]?.getD 0 = s := ⟨_, rfl⟩
          have hd : (default : Int) = 0 := rfl
          rw [hx] at hb0
          rw [hy] at hb1
          rw [hd, hx] at hc0
          rw [hd, hy] at hc1
          obtain ⟨X, rfl⟩ : ∃ X : Nat, x = (X : Int) := ⟨x.toNat, by omega⟩
          obtain ⟨Y, rfl⟩ : ∃ X : Nat, y = (X : Int) := ⟨y.toNat, by omega⟩
          have hX : X < k := by omega
          have hY : Y < k := by omega
          have hX0 : (0 : Int) ≤ (X : Int) := by omega
          have hXi : (X : Int) < (k : Int) := by omega
          have hig := hog.idx und_is siz_is
          have hgX := hog.rd.cell X (by rw [HL.out]; exact hX)
          have hgY := hog.rd.cell Y (by rw [HL.out]; exact hY)
          rw [HL.out] at hig
          obtain ⟨q, hq⟩ : ∃ s, gs'[X]?.getD 0 = s := ⟨_, rfl⟩
          obtain ⟨p, hp⟩ : ∃ s, gs'[Y]?.getD 0 = s := ⟨_, rfl⟩
          have HS : Hid (forestK xs k (m + 1) = if q = p then (gs', os) else (gs'.map (fun r => if r = p then q else r), os ++ [(m : Int)])) := by
            show _ = _
            rw [forestK_succ, ← HF.out]
            exact fstep_eq (by rw [hx]; simpa using hq) (by rw [hy]; simpa using hp)
          rw [hd, hq] at hgX
          rw [hd, hp] at hgY
          clear hd hx hy hq hp hb0 hb1 HF
          by_cases hpq : q = p
          · have dpq : (q == p) = true := by simp [hpq]
            have HPQ := Lib.hid hpq
            clear hpq
            go_wp2_with fail
            go_quiet (fail)
            go_wp2
            go_roundw
            case rel => exact ⟨m + 1, gs', os, ao, co, by omega, by go_num, rfl, HOG.out.below (below_of_drewN _ _ _) (Nat.le_refl _), HOO.out.below (below_of_drewN _ _ _) (Nat.le_refl _), by show _ = _; rw [HS.out, if_pos HPQ.out], hbq.trans (below_of_drewN _ _ _), hM⟩
            case measure => simp [intOf]; omega
          · have dpq : (q == p) = false := by simp [hpq]
            have HPQ := Lib.hid hpq
            clear hpq
            go_wp2_with fail
            go_quiet (fail)
            go_wp2_with (at_builtin; refine wpl_append1 (f := Value.int .i64) (d := 0) (base := wa.heap.size) und_ise info_i (fun _ => rfl) (m : Int) (HOO.out.below (below_of_drewN _ _ _) (Nat.le_refl _)) rfl _ _ rfl rfl rfl (by omega) (by omega) (by first | exact hM | (simp; exact hM)) ?_; intro a3 c3 w3 ho3 hg3)
            have hog3 := (HOG.out.drewN nq).keptBlk hg3 HB.out HOO.out.blk (.inl (Nat.le_refl _))
            have hb3 := (hbq.trans (below_of_drewN wo nq _)).trans (grown_belowOwn (HOO.out.drewN nq) hg3 hb.size hbq.size)
            have hM3 := Nat.le_trans hM hg3.size
            have hl3 : (os ++ [(m : Int)]).length = os.length + 1 := by simp
            clear hg3
            go_loopw [13, 14, 61] (fun _ _ j w4 => ∃ (t : Nat), t ≤ k ∧ j = .int .i64 t ∧ Own (Value.int .i64) 2 w4 w.heap.size a c ((gs'.take t).map (fun r => if r = p then q else r) ++ gs'.drop t) ∧ Own (Value.int .i64) 2 w4 wa.heap.size a3 c3 (os ++ [(m : Int)]) ∧ Below w.heap.size w w4 ∧ wa.heap.size ≤ w4.heap.size) (fun _ _ j _ => k - (intOf j).toNat)
            case atStart => exact ⟨0, Nat.zero_le _, rfl, by simpa using hog3, ho3, hb3, hM3⟩
            case round =>
              obtain ⟨t, ht, rfl, hg4, ho4, hb4, hM4⟩ := hrel
              clear hog3 ho3 hb3 hM3
              have hgl4 : ((gs'.take t).map (fun r => if r = p then q else r) ++ gs'.drop t).length = k := by have := HL.out; simp; omega
              by_cases hlt4 : t < k
              · have htg : t < gs'.length := by rw [HL.out]; exact hlt4
                have hig4 := hg4.idx und_is siz_is
                rw [hgl4] at hig4
                have hc4 := hg4.cell t (by omega)
                rw [map_at htg] at hc4
                have hf4 := hg4.free t (by omega)
                have HG4 := Lib.hid hg4
                have HO4 := Lib.hid ho4
                have HT4 := Lib.hid htg
                by_cases hgp : gs'[t] = p
                · have dgp : (gs'[t] == p) = true := by simp [hgp]
                  have hst := hg4.set t (by omega) q
                  rw [map_set htg hgp] at hst
                  have HG5 := Lib.hid hst.1
                  have HW5 := Lib.hid hst.2
                  clear hst hgp hg4 ho4 hgl4 hig hgX hgY hi0 hi1 hc0 hc1 HPQ dpq
                  go_wp2
                  go_roundw
                  case rel => exact ⟨t + 1, by omega, by go_num, HG5.out, HO4.out.keptBlk HW5.out HO4.out.blk HB.out (.inr (Nat.le_refl _)), hb4.trans (grown_belowOwn HG4.out HW5.out (Nat.le_refl _) hb4.size), Nat.le_trans hM4 HW5.out.size⟩
                  case measure => simp [intOf]; omega
                · have dgp : (gs'[t] == p) = false := by simp [hgp]
                  have HK4 := Lib.hid (map_keep (q := q) htg hgp)
                  clear hgp hg4 ho4 hgl4 hig hgX hgY hi0 hi1 hc0 hc1 HPQ dpq
                  go_wp2
                  go_roundw
                  case rel => exact ⟨t + 1, by omega, by go_num, HG4.out.cast HK4.out, HO4.out, hb4, hM4⟩
                  case measure => simp [intOf]; omega
              · obtain rfl : t = k := by omega
                have hfull : (gs'.take t).map (fun r => if r = p then q else r) ++ gs'.drop t = gs'.map (fun r => if r = p then q else r) := by
                  rw [List.take_of_length_le (by rw [HL.out]; exact Nat.le_refl _), List.drop_eq_nil_of_le (by rw [HL.out]; exact Nat.le_refl _)]; simp
                rw [hfull] at hg4
                have HG4 := Lib.hid hg4
                have HO4 := Lib.hid ho4
                clear hg4 ho4 hfull hgl4 hig hgX hgY hi0 hi1 hc0 hc1 dpq
                go_wp2
                go_roundw
                case rel => exact ⟨m + 1, _, _, a3, c3, by omega, by go_num, by rw [hl3], HG4.out, HO4.out, by show _ = _; rw [HS.out, if_neg HPQ.out], hb4, hM4⟩
                case measure => simp [intOf]; omega
        · have hmm : m = xs.length / 2 := by omega
          have hge : (xs.length : Int) ≤ ((2 * m : Nat) : Int) := by have := HEV.out; omega
          have HM := Lib.hid hmm
          clear hmm
          go_wp2
          go_ret3
          have hos2 : os = (forestK xs k (xs.length / 2)).2 := by rw [← HM.out, ← HF.out]
          subst hos2
          exact ⟨ao, co, rfl, HOO.out.mono hb.size, hbq⟩

end Go.Proofs.Ytfecdmenliohhaa

namespace Go.Proofs.Ytfecdmenliohhaa
open Go.RowKit

def forestR (n : Int) (xs : List Int) : List Int := if edgesB n xs then (forestK xs n.toNat (xs.length / 2)).2 else []
def forestN (n : Int) (xs : List Int) : Int := if edgesB n xs then n - ((forestR n xs).length : Int) else 0

theorem retSIB_no {w w' : World} (hb : Below w.heap.size w w') : RetSIB w [] 0 false (.returned (.tuple #[.slice none 0 0, .int .i64 0, .bool false])) w' := ⟨none, 0, rfl, own_nil _ _ _ _, hb⟩

theorem implForest_any {a1 : Option Addr} {c1 : Nat} {xs : List Int} {n : Int} {w : World} (hr : Rd (Value.int .i64) w a1 c1 xs) :
    Calls Try.prog 9 #[.int .i64 n, .slice a1 xs.length c1] w (RetSIB w (forestR n xs) (forestN n xs) (edgesB n xs)) := by
  cases he : edgesB n xs with
  | false =>
    have e1 : forestR n xs = [] := by simp [forestR, he]
    have e2 : forestN n xs = 0 := by simp [forestN, he]
    rw [e1, e2]
    clear e1 e2
    go_enter Try.func9, Try.ntmps9
    go_wp2_with fail
    refine (areEdges_any hr).mono ?_
    rintro e w1 ⟨rfl, hb1⟩
    go_wp2
    go_ret3
    exact retSIB_no hb1
  | true =>
    obtain ⟨hn1, _⟩ := edges_bd he
    obtain ⟨N, rfl⟩ : ∃ N : Nat, n = (N : Int) := ⟨n.toNat, by omega⟩
    have := implForest_yes hr he
    simpa [forestN, forestR, he] using this

theorem specForest_any {a1 : Option Addr} {c1 : Nat} {xs : List Int} {n : Int} {w : World} (hr : Rd (Value.int .i64) w a1 c1 xs) :
    Calls Try.prog 10 #[.int .i64 n, .slice a1 xs.length c1] w (RetSIB w (forestR n xs) (forestN n xs) (edgesB n xs)) := by
  cases he : edgesB n xs with
  | false =>
    have e1 : forestR n xs = [] := by simp [forestR, he]
    have e2 : forestN n xs = 0 := by simp [forestN, he]
    rw [e1, e2]
    clear e1 e2
    go_enter Try.func10, Try.ntmps10
    go_wp2_with fail
    refine (l07Edges_any hr).mono ?_
    rintro e w1 ⟨rfl, hb1⟩
    go_wp2
    go_ret3
    exact retSIB_no hb1
  | true =>
    obtain ⟨hn1, _⟩ := edges_bd he
    obtain ⟨N, rfl⟩ : ∃ N : Nat, n = (N : Int) := ⟨n.toNat, by omega⟩
    have e1 : forestR (N : Int) xs = (forestK xs N (xs.length / 2)).2 := by simp [forestR, he]
    have e2 : forestN (N : Int) xs = (N : Int) - ((forestK xs N (xs.length / 2)).2.length : Int) := by simp [forestN, he, e1]
    rw [e1, e2]
    have H := Lib.hid he
    clear e1 e2 hn1
    go_enter Try.func10, Try.ntmps10
    go_wp2_with fail
    refine (l07Edges_any hr).mono ?_
    rintro e w1 ⟨rfl, hb1⟩
    go_wp2_with fail
    refine (l07Forest_any (hr.below hb1 (Nat.le_refl _)) H.out).mono ?_
    rintro e w2 ⟨a, c, rfl, ho, hb2⟩
    go_wp2
    go_ret3
    exact ⟨a, c, rfl, ho.mono hb1.size, hb1.trans (hb2.mono hb1.size)⟩

theorem forestR_len (n : Int) (xs : List Int) : (forestR n xs).length ≤ 64 := by
  unfold forestR
  split
  · rename_i h
    have h1 := (forestK_len xs n.toNat (xs.length / 2)).2
    obtain ⟨_, _, _, h2, _⟩ := edges_bd h
    omega
  · simp

end Go.Proofs.Ytfecdmenliohhaa

namespace Go.Proofs.Ytfecdmenliohhaa
open Go.RowKit

theorem areWorkers_any (n : Int) (w : World) : Calls Try.prog 32 #[.int .i64 n] w fun e w' => e = .returned (.bool (inR n 1 8)) ∧ w = w' := by
  go_enter Try.func32, Try.ntmps32
  go_wp2_with fail
  refine (within_any _ _ _ _).mono ?_
  rintro e w1 ⟨rfl, rfl⟩
  go_wp2
  go_ret
  exact ⟨rfl, rfl⟩

theorem fs1_any {a : Option Addr} {c : Nat} {xs : List Int} {n : Int} {p : Addr} {w : World} (hr : Rd (Value.int .i64) w a c xs) (hp : w.cell? p = some (.int .i64 n)) :
    Calls Try.prog 34 #[.slice a xs.length c, .pointer (some p)] w fun e w' => e = .returned (.bool (!edgesB n xs)) ∧ Below w.heap.size w w' := by
  go_enter Try.func34, Try.ntmps34
  go_wp2_with fail
  refine (areEdges_any hr).mono ?_
  rintro e w1 ⟨rfl, hb⟩
  go_wp2
  go_ret
  exact ⟨rfl, hb⟩
theorem call_fs1 (vs : Array Value) (w : World) : (callFunc 34 vs).run Try.prog w = .ok (.enter 34 vs) w := by kernel_rfl

theorem cell_lt {w : World} {p : Addr} {v : Value} (h : w.cell? p = some v) : p.block < w.heap.size := by
  unfold World.cell? at h
  split at h
  · rename_i he; exact (Array.getElem?_eq_some_iff.1 he).1
  · cases h
/-- Whether some list is none of edges. -/
def badE (n : Int) (xss : List (List Int)) : Bool := xss.any fun xs => !edgesB n xs
theorem containsFS_any {a : Option Addr} {c : Nat} {hs : List Hd} {xss : List (List Int)} {n : Int} {p : Addr} {w : World} (hr : Rd2 (Value.int .i64) w a c hs xss) (hp : w.cell? p = some (.int .i64 n)) :
    Calls Try.prog 33 #[.slice a xss.length c, .func (.func 34) #[] #[.pointer (some p)]] w fun e w' => e = .returned (.bool (badE n xss)) ∧ Below w.heap.size w w' := by
  have hl : (xss.map fun xs => !edgesB n xs).length = hs.length := by simp [hr.len]
  have h := containsFuncii_any a c hs (xss.map fun xs => !edgesB n xs) w 34 #[.pointer (some p)] call_fs1 hl hr.top (fun k hk wr hb => by
    have hk' : k < xss.length := by simpa using hk
    obtain ⟨hd, xs, h1, h2, h3, h4⟩ := hr.row k hk'
    have e1 : hs[k]?.getD default = hd := by rw [h1]; rfl
    have e2 : (xss.map fun xs => !edgesB n xs)[k] = !edgesB n xs := by
      have : xss[k] = xs := by simpa [List.getElem?_eq_getElem hk'] using h2
      simp [this]
    rw [e1, e2]
    have := fs1_any (n := n) (p := p) (h4.below hb (Nat.le_refl _)) (by rw [← hp]; exact hb.cell (cell_lt hp))
    obtain ⟨x1, x2, x3⟩ := hd
    simp only at h3
    subst h3
    exact this)
  have e3 : (xss.map fun xs => !edgesB n xs).length = xss.length := by simp
  have e4 : (xss.map fun xs => !edgesB n xs).any id = badE n xss := by simp [badE, List.any_map]
  rw [e3, e4] at h
  exact h

/-- What the reference makes. -/
def fsOk (n : Int) (xss : List (List Int)) (workers : Int) : Bool := inR n 2 32 && decide (xss.length ≤ 8) && inR workers 1 8 && !badE n xss
def fsN (n : Int) (xss : List (List Int)) : List Int := xss.map (forestN n)
def RetFS (w : World) (xs : List Int) (ok : Bool) (en : Ending) (w' : World) : Prop :=
  ∃ a c, en = .returned (.tuple #[.slice a xs.length c, .bool ok]) ∧ Own (Value.int .i64) 2 w' w.heap.size a c xs ∧ Below w.heap.size w w'
theorem retFS_no {w w' : World} (hb : Below w.heap.size w w') : RetFS w [] false (.returned (.tuple #[.slice none 0 0, .bool false])) w' := ⟨none, 0, rfl, own_nil _ _ _ _, hb⟩

set_option maxRecDepth 4000 in
set_option maxHeartbeats 2000000 in
theorem specFS_any {a : Option Addr} {c : Nat} {hs : List Hd} {xss : List (List Int)} {n workers : Int} {w : World} (hr : Rd2 (Value.int .i64) w a c hs xss) :
    Calls Try.prog 17 #[.int .i64 n, .slice a xss.length c, .int .i64 workers] w (RetFS w (if fsOk n xss workers then fsN n xss else []) (fsOk n xss workers)) := by
  have hln := hr.lens
  have no : fsOk n xss workers = false → ∀ {e w'}, RetFS w [] false e w' → RetFS w (if fsOk n xss workers = true then fsN n xss else []) (fsOk n xss workers) e w' := fun h {e w'} hx => by rw [h]; exact hx
  cases h1 : inR n 2 32 with
  | false =>
    refine Calls.mono ?_ (fun e w' => no (by simp [fsOk, h1]))
    clear no
    go_enter Try.func17, Try.ntmps17
    go_wp2_with fail
    refine (l00In_any _ _ _ _).mono ?_
    rintro e w1 ⟨rfl, rfl⟩
    rw [h1]
    go_wp2
    go_ret2
    exact retFS_no (Below.refl _ _)
  | true =>
  by_cases h2 : xss.length ≤ 8
  case neg =>
    refine Calls.mono ?_ (fun e w' => no (by simp [fsOk, h2]))
    clear no
    go_enter Try.func17, Try.ntmps17
    go_wp2_with fail
    refine (l00In_any _ _ _ _).mono ?_
    rintro e w1 ⟨rfl, rfl⟩
    rw [h1]
    go_wp2
    go_ret2
    exact retFS_no (Below.refl _ _)
  case pos =>
  cases h3 : inR workers 1 8 with
  | false =>
    refine Calls.mono ?_ (fun e w' => no (by simp [fsOk, h3]))
    clear no
    go_enter Try.func17, Try.ntmps17
    go_wp2_with fail
    refine (l00In_any _ _ _ _).mono ?_
    rintro e w1 ⟨rfl, rfl⟩
    rw [h1]
    go_wp2_with fail
    refine (l00In_any _ _ _ _).mono ?_
    rintro e w1 ⟨rfl, rfl⟩
    rw [h3]
    go_wp2
    go_ret2
    exact retFS_no (Below.refl _ _)
  | true =>
    have hok : fsOk n xss workers = !badE n xss := by simp [fsOk, h1, h2, h3]
    rw [hok]
    clear no hok
    obtain ⟨bk, hbk⟩ : ∃ b, (!badE n xss) = b := ⟨_, rfl⟩
    rw [hbk]
    obtain ⟨R, hR⟩ : ∃ r, (if bk = true then fsN n xss else []) = r := ⟨_, rfl⟩
    rw [hR]
    have HBK := Lib.hid hbk
    have HR := Lib.hid hR
    clear hbk hR
    have HH := Lib.hid (And.intro h1 h3)
    go_enter Try.func17, Try.ntmps17
    go_wp2_with fail
    refine (l00In_any _ _ _ _).mono ?_
    rintro e w1 ⟨rfl, rfl⟩
    rw [h1]
    go_wp2_with fail
    refine (l00In_any _ _ _ _).mono ?_
    rintro e w1 ⟨rfl, rfl⟩
    rw [h3]
    clear h1 h3
    go_wp2_with fail
    go_loopw [8, 28] (fun g i wr => ∃ (k : Nat) (a : Option Addr) (c : Nat) (gs : List Int), k ≤ xss.length ∧ i = .int .i64 k ∧ g = .slice a gs.length c ∧ Own (Value.int .i64) 2 wr w.heap.size a c gs ∧ Hid (gs = fsN n (xss.take k) ∧ badE n (xss.take k) = false) ∧ Below w.heap.size w wr) (fun _ i _ => xss.length - (intOf i).toNat)
    case atStart => exact ⟨0, _, _, [], Nat.zero_le _, rfl, rfl, own_empty _ _ (Nat.le_refl _) rfl, by show _ ∧ _; exact ⟨rfl, rfl⟩, (Below.refl _ _).alloc (Nat.le_refl _) _⟩
    case round =>
      obtain ⟨k, a3, c3, gs, hk, rfl, rfl, ho, HG, hb⟩ := hrel
      have HO := Lib.hid ho
      clear ho
      have hz := hb.size
      have hgl : gs.length = k := by rw [HG.out.1]; simp [fsN]; omega
      have HGL := Lib.hid hgl
      clear hgl
      by_cases hlt : k < xss.length
      · have hr' := hr.below hb (Nat.le_refl _)
        obtain ⟨a2, c2, hcx, hrow⟩ := hr'.at hlt
        have hix := hr'.top.idx und_iis siz_iis
        rw [hr'.len] at hix
        obtain ⟨xs, hxs⟩ : ∃ x, xss[k] = x := ⟨_, rfl⟩
        have htk : xss.take (k + 1) = xss.take k ++ [xs] := by rw [List.take_add_one, List.getElem?_eq_getElem hlt, hxs]; rfl
        have HTK := Lib.hid htk
        have hmem : xs ∈ xss := by rw [← hxs]; exact List.getElem_mem hlt
        have HMEM := Lib.hid hmem
        rw [hxs] at hcx hrow
        have hcE := l07Edges_any (n := n) hrow
        obtain ⟨ln, hln2⟩ : ∃ m, xs.length = m := ⟨_, rfl⟩
        rw [hln2] at hcx hcE
        have HCE := Lib.hid hcE
        have HROW := Lib.hid hrow
        have HLN := Lib.hid hln2
        clear hcE hrow htk hmem hxs hr' hln2
        have hgl2 : gs.length ≤ 8 := by rw [HGL.out]; omega
        cases he : edgesB n xs with
        | false =>
          have HE := Lib.hid he
          clear he
          go_wp2_with fail
          refine HCE.out.mono ?_
          rintro e w2 ⟨rfl, hb2⟩
          rw [HE.out]
          go_wp2
          go_ret2
          have hbad : badE n xss = true := List.any_eq_true.2 ⟨xs, HMEM.out, by simp [HE.out]⟩
          have e1 : bk = false := by rw [← HBK.out, hbad]; rfl
          have e2 : R = [] := by rw [← HR.out, e1]; rfl
          rw [e1, e2]
          exact retFS_no (hb.trans (hb2.mono hb.size))
        | true =>
          have HE := Lib.hid he
          clear he
          go_wp2_with fail
          refine HCE.out.mono ?_
          rintro e w2 ⟨rfl, hb2⟩
          rw [HE.out]
          have hq : Calls Try.prog 30 #[.int .i64 n, .slice a2 ln c2] w2 (fun e w' => ∃ s, e = .returned (.tuple #[s, .int .i64 (forestN n xs)]) ∧ Below w2.heap.size w2 w') := by
            obtain ⟨hn1, _⟩ := edges_bd HE.out
            obtain ⟨N, rfl⟩ : ∃ N : Nat, n = (N : Int) := ⟨n.toNat, by omega⟩
            have h := l07Forest_any (HROW.out.below hb2 (Nat.le_refl _)) HE.out
            rw [HLN.out] at h
            refine h.mono ?_
            rintro e w' ⟨a, c, rfl, _, hb⟩
            have e : forestN (N : Int) xs = (N : Int) - ((forestK xs N (ln / 2)).2.length : Int) := by rw [← HLN.out]; simp [forestN, forestR, HE.out]
            exact ⟨_, by rw [e], hb⟩
          have HQ := Lib.hid hq
          have hcx2 : w2.cell? (elt a k) = some (.slice a2 ln c2) := by rw [hb2.cell (cell_lt hcx)]; exact hcx
          clear hq
          go_wp2_with fail
          refine HQ.out.mono ?_
          rintro e w3 ⟨s3, rfl, hb3⟩
          obtain ⟨v, hv⟩ : ∃ v, forestN n xs = v := ⟨_, rfl⟩
          rw [hv]
          have HV := Lib.hid hv
          clear hv
          have hbx : Below w.heap.size w w3 := hb.trans ((hb2.trans (hb3.mono hb2.size)).mono hb.size)
          have hO3 := (HO.out.below (hb2.trans (hb3.mono hb2.size)) (Nat.le_refl _))
          have HO3 := Lib.hid hO3
          clear hO3
          have hz3 := hbx.size
          go_wp2_with (at_builtin; refine wpl_append1 (f := Value.int .i64) (d := 0) (base := w.heap.size) und_ise info_i (fun _ => rfl) v HO3.out rfl _ _ rfl rfl rfl (by omega) (by omega) hz3 ?_; intro a4 c4 w4 ho4 hg4)
          have hb4 := hbx.trans (grown_belowOwn HO3.out hg4 (Nat.le_refl _) hz3)
          go_roundw
          case rel => exact ⟨k + 1, a4, c4, _, by omega, by go_num, by rw [List.length_append]; rfl, ho4, by show _ ∧ _; rw [HTK.out]; exact ⟨by rw [HG.out.1]; simp [fsN, HV.out], by have := HG.out.2; simp only [badE] at this ⊢; rw [List.any_append, this]; simp [HE.out]⟩, hb4⟩
          case measure => simp [intOf]; omega
      · obtain rfl : k = xss.length := by omega
        have hbad : badE n xss = false := by simpa using HG.out.2
        have HBAD := Lib.hid hbad
        have hall : gs = fsN n xss := by simpa using HG.out.1
        have HALL := Lib.hid hall
        clear hbad hall
        go_wp2
        go_ret2
        have e1 : bk = true := by rw [← HBK.out, HBAD.out]; rfl
        have e2 : R = gs := by rw [← HR.out, e1, HALL.out]; rfl
        rw [e1, e2]
        exact ⟨a3, c3, rfl, HO.out, hb⟩

set_option maxHeartbeats 1000000 in
theorem sameInts_any {a1 a2 : Option Addr} {c1 c2 : Nat} {xs : List Int} {w : World} (hx : Rd (Value.int .i64) w a1 c1 xs) (hy : Rd (Value.int .i64) w a2 c2 xs) :
    Calls Try.prog 18 #[.slice a1 xs.length c1, .slice a2 xs.length c2] w fun e w' => e = .returned (.bool true) ∧ Below w.heap.size w w' := by
  have hlx := hx.len
  go_enter Try.func18, Try.ntmps18
  go_wp2
  go_loopw [5] (fun i wr => ∃ k : Nat, k ≤ xs.length ∧ i = .int .i64 k ∧ ∃ n, wr = w.drewN n) (fun i _ => xs.length - (intOf i).toNat)
  case atStart => exact ⟨0, Nat.zero_le _, rfl, 0, rfl⟩
  case round =>
    obtain ⟨k, hk, rfl, n, rfl⟩ := hrel
    by_cases hlt : k < xs.length
    · have hcx := hx.cell k hlt
      have hcy := hy.cell k hlt
      have hix := hx.idx und_is siz_is
      have hiy := hy.idx und_is siz_is
      go_wp2_with fail
      go_quiet (fail)
      go_wp2
      go_roundw
      case rel => exact ⟨k + 1, by omega, by go_num, _, rfl⟩
      case measure => simp [intOf]; omega
    · go_wp2
      go_ret
      exact ⟨rfl, below_of_drewN _ _ _⟩
end Go.Proofs.Ytfecdmenliohhaa

namespace Go.Proofs.Ytfecdmenliohhaa
open Go.RowKit

theorem eqI_same {a1 a2 : Option Addr} {c1 c2 : Nat} {xs : List Int} {w : World} (hx : Rd (Value.int .i64) w a1 c1 xs) (hy : Rd (Value.int .i64) w a2 c2 xs) :
    Calls Try.prog 21 #[.slice a1 xs.length c1, .slice a2 xs.length c2] w fun e w' => e = .returned (.bool true) ∧ Below w.heap.size w w' :=
  (eqI_any hx hy).mono fun _ _ ⟨he, hb⟩ => ⟨by rw [he]; simp, hb⟩

theorem szI_any {a : Option Addr} {c : Nat} {xs : List Int} {l : Int} {w : World} (hr : Rd (Value.int .i64) w a c xs) (l0 : 0 ≤ l) (l1 : l ≤ 1048576) :
    Calls Try.prog 44 #[.slice a xs.length c, .int .i64 l] w fun e w' => e = .returned (.int .i64 (if l < xs.length then -1 else l - xs.length)) ∧ w = w' := by
  have hln := hr.len
  by_cases h : l < xs.length
  · have e : (if l < (xs.length : Int) then -1 else l - (xs.length : Int)) = -1 := if_pos h
    rw [e]
    clear e
    go_enter Try.func44, Try.ntmps44
    go_wp2
    go_ret
    exact ⟨rfl, rfl⟩
  · have e : (if l < (xs.length : Int) then -1 else l - (xs.length : Int)) = l - xs.length := if_neg h
    rw [e]
    clear e
    go_enter Try.func44, Try.ntmps44
    go_wp2
    go_ret
    exact ⟨rfl, rfl⟩

set_option maxHeartbeats 800000 in
theorem szII_any {a : Option Addr} {c : Nat} {hs : List Hd} {xss : List (List Int)} {w : World} (hr : Rd2 (Value.int .i64) w a c hs xss) :
    Calls Try.prog 19 #[.slice a xss.length c, .int .i64 1048576] w fun e w' => SzOk (size2 xss) e ∧ w = w' := by
  have hln := hr.lens
  by_cases hbig : 1048576 < xss.length
  · go_enter Try.func19, Try.ntmps19
    go_wp2
    go_ret
    exact ⟨.inl rfl, rfl⟩
  · go_enter Try.func19, Try.ntmps19
    go_wp2
    go_loop [1, 5] (fun l i => ∃ (k : Nat) (r : Int), k ≤ xss.length ∧ i = .int .i64 k ∧ l = .int .i64 r ∧ 0 ≤ r ∧ r ≤ 1048576 ∧ Hid (r = 1048576 - xss.length - ((((xss.take k).map List.length).foldl (· + ·) 0 : Nat) : Int))) (fun _ i => xss.length - (intOf i).toNat)
    case atStart => exact ⟨0, _, Nat.zero_le _, rfl, rfl, by omega, by omega, by show _ = _; simp⟩
    case round =>
      obtain ⟨k, r, hk, rfl, rfl, hr0, hr1, HR⟩ := hrel
      by_cases hlt : k < xss.length
      · obtain ⟨a2, c2, hcx, hrow⟩ := hr.at hlt
        have hts := sum_take_succ hlt
        have HTS := Lib.hid hts
        have hix := hr.top.idx und_iis siz_iis
        rw [hr.len] at hix
        obtain ⟨n, hn⟩ : ∃ n, xss[k].length = n := ⟨_, rfl⟩
        have hc := szI_any (l := r) hrow hr0 hr1
        rw [hn] at hcx hc
        have HC := Lib.hid hc
        have HN := Lib.hid hn
        clear hts hc hn hrow
        by_cases hs : r < n
        · go_wp2_with fail
          refine HC.out.mono ?_
          rintro e w1 ⟨rfl, rfl⟩
          rw [if_pos hs]
          go_wp2
          go_ret
          exact ⟨.inl rfl, rfl⟩
        · go_wp2_with fail
          refine HC.out.mono ?_
          rintro e w1 ⟨rfl, rfl⟩
          rw [if_neg (by omega)]
          go_wp2
          go_round
          case rel => exact ⟨k + 1, r - n, by omega, by go_num, rfl, by omega, by omega, by show _ = _; rw [HTS.out, HR.out, HN.out]; omega⟩
          case measure => simp [intOf]; omega
      · obtain rfl : k = xss.length := by omega
        go_wp2
        go_ret
        refine ⟨.inr ⟨?_, r, hr0, rfl⟩, rfl⟩
        have h := HR.out
        rw [List.take_length] at h
        unfold size2
        omega

set_option maxHeartbeats 800000 in
theorem toII_any {a : Option Addr} {c : Nat} {hs : List Hd} {xss : List (List Int)} {w : World} (hr : Rd2 (Value.int .i64) w a c hs xss) (hn : size2 xss ≤ 1048576) :
    Calls Try.prog 20 #[.slice a xss.length c] w (RetSS (Value.int .i64) 2 25 w xss) := by
  have hl : xss.length ≤ 1048576 := by unfold size2 at hn; omega
  have HN := Lib.hid hn
  clear hn
  go_enter Try.func20, Try.ntmps20
  go_wp2_with (at_make; refine wpl_make (f := hdV) (d := (none, 0, 0)) und_iise info_ii rfl xss.length rfl _ _ rfl rfl rfl (by omega) (by omega) ?_; intro w1 ho0 hb0)
  go_loopw [4] (fun i wr => ∃ (k : Nat) (hs' : List Hd), k ≤ xss.length ∧ i = .int .i64 k ∧ Mk2 (Value.int .i64) 2 25 w wr xss.length hs' xss k) (fun i _ => xss.length - (intOf i).toNat)
  case atStart => exact ⟨0, [], Nat.zero_le _, rfl, ⟨by simpa using ho0, rfl, fun i hi => by omega, fun i j hd hd' _ h => by simp at h, hb0⟩⟩
  case round =>
    obtain ⟨k, hs', hk, rfl, hM⟩ := hrel
    clear ho0 hb0
    by_cases hlt : k < xss.length
    · have hr2 := hr.below hM.B (Nat.le_refl _)
      obtain ⟨a2, c2, hcx, hrow⟩ := hr2.at hlt
      have hix := hr2.top.idx und_iis siz_iis
      rw [hr2.len] at hix
      have hln : (hs' ++ List.replicate (xss.length - k) ((none, 0, 0) : Hd)).length = xss.length := by simp [hM.len]; omega
      have hio := hM.top.idx und_iis siz_iis
      rw [hln] at hio
      obtain ⟨v1, hcs⟩ : ∃ v, wr.cell? (elt (some ⟨w.heap.size, 0, none⟩) k) = some v := ⟨_, hM.top.cell k (by rw [hln]; exact hlt)⟩
      have hfz := hM.top.free k (by rw [hln]; exact hlt)
      have hxs : xss[k]? = some xss[k] := List.getElem?_eq_getElem hlt
      have hsz := size2_row hlt HN.out
      have HROW := Lib.hid hrow
      have HM := Lib.hid hM
      have HX := Lib.hid hxs
      generalize xss[k] = row at hcx HROW hsz HX
      clear hln hM hxs hr2 hrow
      go_wp2_with fail
      refine (toI_any HROW.out hsz).mono ?_
      rintro e w2 ⟨a3, c3, rfl, ho3, hb3⟩
      have hst := HM.out.step hlt HX.out hb3 ho3
      have hcs2 : w2.cell? (elt (some ⟨w.heap.size, 0, none⟩) k) = some v1 := k_below hb3 (Nat.le_refl _) hcs
      have hfz2 : w2.frozen? (elt (some ⟨w.heap.size, 0, none⟩) k) = false := by
        have htb := HM.out.top.blk ⟨w.heap.size, 0, none⟩ rfl
        rw [← hfz]
        exact hb3.frozen (p := elt (some ⟨w.heap.size, 0, none⟩) k) htb.2
      have HST := Lib.hid hst
      clear hst hb3 ho3 hcs hfz hcx
      go_wp2
      go_roundw
      case rel => exact ⟨k + 1, _, by omega, by go_num, HST.out⟩
      case measure => simp [intOf]; omega
    · obtain rfl : k = xss.length := by omega
      have HM := Lib.hid hM
      clear hM
      go_wp2
      go_ret
      exact ⟨_, _, _, rfl, HM.out.done rfl, HM.out.B⟩

set_option maxHeartbeats 800000 in
theorem eqII_same {a1 a2 : Option Addr} {c1 c2 : Nat} {hs1 hs2 : List Hd} {xss : List (List Int)} {w : World} (hx : Rd2 (Value.int .i64) w a1 c1 hs1 xss) (hy : Rd2 (Value.int .i64) w a2 c2 hs2 xss) :
    Calls Try.prog 22 #[.slice a1 xss.length c1, .slice a2 xss.length c2] w fun e w' => e = .returned (.bool true) ∧ Below w.heap.size w w' := by
  have hln := hx.lens
  have hd : ((xss.length : Int) != (xss.length : Int)) = false := by simp
  go_enter Try.func22, Try.ntmps22
  go_wp2
  go_loopw [5] (fun i wr => ∃ k : Nat, k ≤ xss.length ∧ i = .int .i64 k ∧ Below w.heap.size w wr) (fun i _ => xss.length - (intOf i).toNat)
  case atStart => exact ⟨0, Nat.zero_le _, rfl, Below.refl _ _⟩
  case round =>
    obtain ⟨k, hk, rfl, hb⟩ := hrel
    clear hd
    by_cases hlt : k < xss.length
    · obtain ⟨ι, hne, G, hG, hS⟩ := calm_family wr
      have hxr := hx.below hb (Nat.le_refl _)
      have hyr := hy.below hb (Nat.le_refl _)
      obtain ⟨b1, d1, hcx, hrx⟩ := hxr.at hlt
      obtain ⟨b2, d2, hcy, hry⟩ := hyr.at hlt
      have hcx' := fun i => k_at (hG i) hcx
      have hcy' := fun i => k_at (hG i) hcy
      have hix := hxr.top.idx und_iis siz_iis
      rw [hxr.len] at hix
      have hiy := hyr.top.idx und_iis siz_iis
      rw [hyr.len] at hiy
      have HC := Lib.hid (fun i => eqI_same (hrx.below (hG i) (Nat.le_refl _)) (hry.below (hG i) (Nat.le_refl _)))
      have HG := Lib.hid hG
      have HSU := Lib.hid hS
      generalize xss[k] = row at hcx' hcy' HC
      clear hG hS hcx hcy hrx hry hxr hyr
      go_wp2_with fail
      refine wp_region_calm (G := G) (by kernel_rfl) (by kernel_rfl) HSU.out ?_
      repeat (go_big_quiet_step ((go_at_call 21; exact calm_call HG.out HSU.out (HC.out _))))
      refine wpQuiet_nil ?_
      intro _ hw'
      obtain ⟨i, hw''⟩ := hw'
      subst hw''
      have hb2 := hb.trans ((HG.out i).mono hb.size)
      clear hcx' hcy' HC
      generalize G i = w2 at hb2 ⊢
      go_wp2
      go_roundw
      case rel => exact ⟨k + 1, by omega, by go_num, hb2⟩
      case measure => simp [intOf]; omega
    · go_wp2
      go_ret
      exact ⟨rfl, hb⟩

set_option maxHeartbeats 800000 in
theorem markII_any {a : Option Addr} {c base : Nat} {hs : List Hd} {xss : List (List Int)} {w : World} (ho : Own2 (Value.int .i64) 2 25 w base a c hs xss) (hn : size2 xss ≤ 1048576) {hi : Nat} (kh : ∀ (i : Nat) (hd : Hd) (p : Addr), hs[i]? = some hd → hd.1 = some p → p.block < hi) :
    Calls Try.prog 23 #[.slice a xss.length c, .int .i64 1] w (RetMM base hi w) := by
  have hln := ho.rd.lens
  have HN := Lib.hid hn
  have HO := Lib.hid ho
  have HL := Lib.hid ho.len
  have KH := Lib.hid kh
  clear ho hn kh
  go_enter Try.func23, Try.ntmps23
  go_wp2
  go_loopw [1, 5] (fun kk i wr => ∃ (k : Nat) (s : Nat) (yss : List (List Int)), k ≤ xss.length ∧ i = .int .i64 k ∧ kk = .int .i64 (s : Int) ∧ s ≤ 1048577 ∧ Hid (s = 1 + ((xss.take k).map List.length).foldl (· + ·) 0) ∧ Hid (yss.map List.length = xss.map List.length) ∧ Own2 (Value.int .i64) 2 25 wr base a c hs yss ∧ TurnB base hi w wr) (fun _ i _ => xss.length - (intOf i).toNat)
  case atStart => exact ⟨0, 1, xss, Nat.zero_le _, rfl, rfl, by omega, by show _ = _; simp, by show _ = _; rfl, HO.out, TurnB.refl _ _ _⟩
  case round =>
    obtain ⟨k, s, yss, hk, rfl, rfl, hs1, HS, HY, hO, hT⟩ := hrel
    by_cases hlt : k < xss.length
    · have hyl : yss.length = xss.length := by have := congrArg List.length HY.out; simpa using this
      obtain ⟨hd, ys, h1, h2, h3, h4, _⟩ := hO.row k (by rw [hyl]; exact hlt)
      have h5 : ys.length = xss[k].length := by
        have : (yss.map List.length)[k]? = (xss.map List.length)[k]? := by rw [HY.out]
        simpa [h2, hlt] using this
      have hsum := sum_take_succ hlt
      have hle := sum_take_le xss (k + 1)
      have hn := HN.out
      unfold size2 at hn
      have hbd : s + ys.length ≤ 1048577 := by rw [h5, HS.out]; omega
      have HSUM := Lib.hid hsum
      have H5 := Lib.hid h5
      have H1 := Lib.hid h1
      have H2 := Lib.hid h2
      have H3 := Lib.hid h3
      have HOO := Lib.hid hO
      have HHL := Lib.hid (hO.len)
      have hcx : wr.cell? (elt a k) = some (.slice hd.1 ys.length hd.2.2) := by
        rw [hO.top.rd.cell k (by rw [hO.len, hyl]; exact hlt), h1, Option.getD_some]
        show some (hdV hd) = _
        rw [hdV, h3]
      have hix := hO.top.idx und_iis siz_iis
      rw [HL.out] at hix
      have hbk : ∀ p, hd.1 = some p → base ≤ p.block ∧ p.block < hi := fun p hp => by
        obtain ⟨hd2, xs2, g1, _, _, g4, _⟩ := HO.out.row k hlt
        rw [H1.out] at g1
        have : hd = hd2 := by simpa using g1
        subst this
        exact ⟨(g4.blk p hp).1, KH.out k hd p H1.out hp⟩
      have HBK := Lib.hid hbk
      have HM := Lib.hid (markI_any (k0 := s) h4 (by omega))
      have HT := Lib.hid hT
      clear hbk hsum hle hn h5 h1 h2 h3 hyl hO h4 hT
      go_wp2_with fail
      refine HM.out.mono ?_
      rintro e w2 ⟨rfl, ho2, hg2⟩
      have hO2 := Lib.hid (HOO.out.turned H1.out hg2 ho2 (by rw [marks_length]; exact H3.out))
      have hT2 := Lib.hid (HT.out.trans (TurnB.of_grown hg2 HBK.out))
      clear hg2 ho2 hcx hix
      go_wp2
      go_roundw
      case rel =>
        refine ⟨k + 1, s + ys.length, _, by omega, by go_num, by go_num, by omega, ?_, ?_, hO2.out, hT2.out⟩
        · show _ = _
          rw [HSUM.out, HS.out, H5.out]; omega
        · show _ = _
          rw [List.map_set, marks_length, HY.out, H5.out]
          apply List.ext_getElem
          · simp
          · intro i hi hi2
            rw [List.getElem_set]
            split
            · rename_i he; subst he; simp
            · rfl
      case measure => simp [intOf]; omega
    · go_wp2
      go_ret
      exact ⟨_, by omega, by omega, rfl, hT⟩

end Go.Proofs.Ytfecdmenliohhaa
