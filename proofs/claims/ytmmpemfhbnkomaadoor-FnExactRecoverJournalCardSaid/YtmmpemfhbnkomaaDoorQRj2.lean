/- The walks of the laws' small helpers on slices of int64. slices.IndexFunc and slices.ContainsFunc at []int64, for whatever closure. within, l00In; numbers of a list within bounds. Names: letters of a text, in both texts. mark.., held.. on lists of bools. Slices of slices. mark.., held.. on sieves, zeros, windows, desks. held.. on sieves, zeros, windows, desks. -/
import Derived.Test.YtmmpemfhbnkomaaDoorRows
import Derived.Test.YtmmpemfhbnkomaaDoorQRj0
import Derived.IntWalk
import Derived.Test.YtmmpemfhbnkomaaDoorQRj1
set_option linter.unusedVariables false
set_option linter.unusedSimpArgs false
namespace Go.Proofs.YtmmpemfhbnkomaaDoor
open Go.RowKit

theorem und_is : Tryd.prog.underlying 35 = some (.slice (Tryd.prog.elem 35)) := by kernel_rfl
theorem siz_is (w : World) : (sizeOf (Tryd.prog.elem 35)).run Tryd.prog w = .ok 1 w := by kernel_rfl
theorem und_ise : Tryd.prog.underlying 35 = some (.slice 2) := by kernel_rfl
theorem info_i : (Tryd.prog.info? 2).map (fun i => (i.zero, i.size, i.bytes)) = some (some (.int .i64 0), 1, 8) := by kernel_rfl

theorem int_ne {a b : Int} (h : (a != b) = true) : ¬ a = b := by simpa using h

set_option maxHeartbeats 400000 in
theorem eqI_any {a1 a2 : Option Addr} {c1 c2 : Nat} {xs ys : List Int} {w : World} (hx : Rd (Value.int .i64) w a1 c1 xs) (hy : Rd (Value.int .i64) w a2 c2 ys) :
    Calls Tryd.prog 40 #[.slice a1 xs.length c1, .slice a2 ys.length c2] w fun e w' => e = .returned (.bool (decide (xs = ys))) ∧ Below w.heap.size w w' := by
  have hlx := hx.len
  have hly := hy.len
  go_enter Tryd.func40, Tryd.ntmps40
  by_cases hl : xs.length = ys.length
  · have hd : ((xs.length : Int) != (ys.length : Int)) = false := by simp [hl]
    have HL : Hid (xs.length = ys.length) := hl
    clear hl
    go_wp2
    go_loopw [5] (fun i wr => ∃ k : Nat, k ≤ xs.length ∧ i = .int .i64 k ∧ xs.take k = ys.take k ∧ ∃ n, wr = w.drewN n) (fun i _ => xs.length - (intOf i).toNat)
    case atStart => exact ⟨0, Nat.zero_le _, rfl, rfl, 0, rfl⟩
    case round =>
      obtain ⟨k, hk, rfl, ht, n, rfl⟩ := hrel
      have HT : Hid (xs.take k = ys.take k) := ht
      clear ht hd
      by_cases hlt : k < xs.length
      · have hlt2 : k < ys.length := by rw [← HL.out]; exact hlt
        have hcx := hx.cell k hlt
        have hcy := hy.cell k hlt2
        have hix := hx.idx und_is siz_is
        have hiy := hy.idx und_is siz_is
        go_wp2_with fail
        go_quiet (fail)
        go_wp2
        · have h := int_ne (by assumption)
          go_ret
          exact ⟨ret_bool (by simp [take_ne_of hlt hlt2 h]), by rw [World.drewN_drewN]; exact below_of_drewN _ _ _⟩
        · have h : ¬ (xs[k] != ys[k]) = true := by simp_all
          go_roundw
          case rel => exact ⟨k + 1, by omega, by go_num, take_eq_snoc hlt hlt2 HT.out (by simpa using h), _, rfl⟩
          case measure => simp [intOf]; omega
      · go_wp2
        go_ret
        have : k = xs.length := by omega
        subst this
        have h := HT.out
        rw [List.take_length, HL.out, List.take_length] at h
        exact ⟨ret_bool (by simp [h]), below_of_drewN _ _ _⟩
  · have hd : ((xs.length : Int) != (ys.length : Int)) = true := by simp; omega
    have HL : Hid (¬ xs.length = ys.length) := hl
    clear hl
    go_wp2
    go_ret
    refine ⟨ret_bool ?_, Below.refl _ _⟩
    have h := HL.out
    rw [decide_eq_false]
    rintro rfl
    exact h rfl

set_option maxHeartbeats 400000 in
theorem markI_any {a : Option Addr} {c base k0 : Nat} {xs : List Int} {w : World} (ho : Own (Value.int .i64) 2 w base a c xs) (hk : k0 + xs.length ≤ 4611686018427387904) :
    Calls Tryd.prog 41 #[.slice a xs.length c, .int .i64 k0] w (RetM (Value.int .i64) 2 w base a c (fun k => (k : Int)) k0 xs.length) := by
  go_enter Tryd.func41, Tryd.ntmps41
  go_wp2
  go_loopw [1, 5] (fun kk i wr => ∃ k : Nat, k ≤ xs.length ∧ i = .int .i64 k ∧ kk = .int .i64 ((k0 + k : Nat) : Int) ∧ Own (Value.int .i64) 2 wr base a c (marks (fun k => (k : Int)) k0 k ++ xs.drop k) ∧ w.grownBy wr (a.map (·.block))) (fun _ i _ => xs.length - (intOf i).toNat)
  case atStart => exact ⟨0, Nat.zero_le _, rfl, rfl, by simpa [marks] using ho, World.grownBy.refl _ _⟩
  case round =>
    obtain ⟨k, hk, rfl, rfl, hw, hg⟩ := hrel
    clear ho
    have hln : (marks (fun k => (k : Int)) k0 k ++ xs.drop k).length = xs.length := by simp [marks_length]; omega
    by_cases hlt : k < xs.length
    · have hio := hw.idx und_is siz_is
      rw [hln] at hio
      obtain ⟨v0, hcs⟩ : ∃ v, wr.cell? (elt a k) = some v := ⟨_, hw.cell k (by omega)⟩
      have hfz := hw.free k (by omega)
      have hst := hw.set k (by omega) ((k0 + k : Nat) : Int)
      rw [marks_set (fun k => (k : Int)) k0 k xs hlt] at hst
      have HG : Hid (wr.grownBy _ _) := hst.2
      have HS : Hid (Own _ _ _ _ _ _ _) := hst.1
      have HC : Hid (w.grownBy _ _) := hg
      clear hst hg hln
      go_wp2
      go_roundw
      case rel => exact ⟨k + 1, by omega, by go_num, by go_num, by simpa using HS.out, grown_trans HC.out (by simpa using HG.out)⟩
      case measure => simp [intOf]; omega
    · obtain rfl : k = xs.length := by omega
      have HO : Hid (Own _ _ _ _ _ _ _) := hw
      have HC : Hid (w.grownBy _ _) := hg
      clear hw hln hg
      go_wp2
      go_ret
      exact ⟨rfl, HO.out.cast (by simp), HC.out⟩

set_option maxHeartbeats 400000 in
theorem heldI_any {a : Option Addr} {c k0 : Nat} {n : Nat} {w : World} (hr : Rd (Value.int .i64) w a c (marks (fun k => (k : Int)) k0 n)) (hk : k0 + n ≤ 4611686018427387904) :
    Calls Tryd.prog 42 #[.slice a n c, .int .i64 k0] w fun e w' => e = .returned (.int .i64 ((k0 + n : Nat) : Int)) ∧ Below w.heap.size w w' := by
  go_enter Tryd.func42, Tryd.ntmps42
  go_wp2
  go_loop [1, 5] (fun kk i => ∃ k : Nat, k ≤ n ∧ i = .int .i64 k ∧ kk = .int .i64 ((k0 + k : Nat) : Int)) (fun _ i => n - (intOf i).toNat)
  case atStart => exact ⟨0, Nat.zero_le _, rfl, rfl⟩
  case round =>
    obtain ⟨k, hk, rfl, rfl⟩ := hrel
    by_cases hlt : k < n
    · have hio := hr.idx und_is siz_is
      rw [marks_length] at hio
      have hcs := hr.cell k (by rw [marks_length]; exact hlt)
      rw [marks_get _ _ _ _ hlt, Option.getD_some] at hcs
      have hne : (((k0 : Int) + (k : Int)) != ((k0 : Int) + (k : Int))) = false := by simp
      go_wp2
      go_round
      case rel => exact ⟨k + 1, by omega, by go_num, by go_num⟩
      case measure => simp [intOf]; omega
    · obtain rfl : k = n := by omega
      go_wp2
      go_ret
      exact ⟨rfl, Below.refl _ _⟩

end Go.Proofs.YtmmpemfhbnkomaaDoor

namespace Go.Proofs.YtmmpemfhbnkomaaDoor
open Go.RowKit

set_option maxHeartbeats 400000 in
theorem indexFunci_any (a : Option Addr) (c : Nat) (xs : List Int) (w : World) (F : Nat) (caps : Array Value) (p : Int → Bool) (hF : ∀ (vs : Array Value) (w : World), (callFunc F vs).run Tryd.prog w = .ok (.enter F vs) w) (hr : Rd (Value.int .i64) w a c xs)
    (hclo : ∀ k (h : k < xs.length) wr, Below w.heap.size w wr → Calls Tryd.prog F (#[(Value.int .i64) xs[k]] ++ caps) wr fun e w' => e = .returned (.bool (p xs[k])) ∧ Below wr.heap.size wr w') :
    Calls Tryd.prog 119 #[.slice a xs.length c, .func (.func F) #[] caps] w fun e w' => e = .returned (.int .i64 (idxOf p xs)) ∧ Below w.heap.size w w' := by
  have hln := hr.len
  go_enter Tryd.func119, Tryd.ntmps119
  go_wp2
  go_loopw [5, 8] (fun _ i wr => ∃ k : Nat, k ≤ xs.length ∧ i = .int .i64 k ∧ (∀ x ∈ xs.take k, p x = false) ∧ Below w.heap.size w wr) (fun _ i _ => xs.length - (intOf i).toNat)
  case atStart => exact ⟨0, Nat.zero_le _, rfl, by simp, Below.refl _ _⟩
  case round =>
    obtain ⟨k, hk, rfl, hp, hb⟩ := hrel
    have HP : Hid (∀ x ∈ xs.take k, p x = false) := hp
    clear hp
    by_cases hlt : k < xs.length
    · have hr' := hr.below hb (Nat.le_refl _)
      have hix := hr'.idx und_is siz_is
      have hcx := hr'.cell k hlt
      have HC : Hid (∀ k (h : k < xs.length) wr, Below w.heap.size w wr → Calls Tryd.prog F (#[(Value.int .i64) xs[k]] ++ caps) wr fun e w' => e = .returned (.bool (p xs[k])) ∧ Below wr.heap.size wr w') := hclo
      clear hclo
      simp only [List.getElem?_eq_getElem hlt, Option.getD_some] at hcx
      go_wp2_with fail
      refine (HC.out k hlt wr hb).mono ?_
      rintro e w1 ⟨rfl, hb1⟩
      by_cases hpx : p xs[k] = true
      · have HX : Hid (p xs[k] = true) := hpx
        rw [hpx]
        clear hpx
        go_wp2
        go_ret
        refine ⟨ret_int ?_, hb.trans (hb1.mono hb.size)⟩
        rw [idxOf_here HX.out HP.out]
      · have hpx' : p xs[k] = false := by simpa using hpx
        have HX : Hid (p xs[k] = false) := hpx'
        rw [hpx']
        clear hpx hpx'
        go_wp2
        go_roundw
        case rel => exact ⟨k + 1, by omega, by go_num, snoc_none hlt HP.out HX.out, hb.trans (hb1.mono hb.size)⟩
        case measure => simp [intOf]; omega
    · obtain rfl : k = xs.length := by omega
      have HC : Hid (∀ k (h : k < xs.length) wr, Below w.heap.size w wr → Calls Tryd.prog F (#[(Value.int .i64) xs[k]] ++ caps) wr fun e w' => e = .returned (.bool (p xs[k])) ∧ Below wr.heap.size wr w') := hclo
      clear hclo
      go_wp2
      go_ret
      refine ⟨ret_int ?_, hb⟩
      rw [idxOf_none (by simpa using HP.out)]

set_option maxHeartbeats 400000 in
theorem containsFunci_any (a : Option Addr) (c : Nat) (xs : List Int) (w : World) (F : Nat) (caps : Array Value) (p : Int → Bool) (hF : ∀ (vs : Array Value) (w : World), (callFunc F vs).run Tryd.prog w = .ok (.enter F vs) w) (hr : Rd (Value.int .i64) w a c xs)
    (hclo : ∀ k (h : k < xs.length) wr, Below w.heap.size w wr → Calls Tryd.prog F (#[(Value.int .i64) xs[k]] ++ caps) wr fun e w' => e = .returned (.bool (p xs[k])) ∧ Below wr.heap.size wr w') :
    Calls Tryd.prog 100 #[.slice a xs.length c, .func (.func F) #[] caps] w fun e w' => e = .returned (.bool (xs.any p)) ∧ Below w.heap.size w w' := by
  have HC := Lib.hid (indexFunci_any a c xs w F caps p hF hr hclo)
  clear hclo
  go_enter Tryd.func100, Tryd.ntmps100
  go_wp2_with fail
  refine HC.out.mono ?_
  rintro e w1 ⟨rfl, hb1⟩
  have HB := Lib.hid (idxOf_any p xs)
  go_wp2
  go_ret
  exact ⟨ret_bool (by simpa using HB.out), hb1⟩

end Go.Proofs.YtmmpemfhbnkomaaDoor

namespace Go.Proofs.YtmmpemfhbnkomaaDoor
open Go.RowKit

def inR (n lo hi : Int) : Bool := decide (lo ≤ n ∧ n ≤ hi)
theorem inR_eq (n lo hi : Int) : inR n lo hi = true ↔ lo ≤ n ∧ n ≤ hi := by simp [inR]

theorem within_any (n lo hi : Int) (w : World) : Calls Tryd.prog 69 #[.int .i64 n, .int .i64 lo, .int .i64 hi] w fun e w' => e = .returned (.bool (inR n lo hi)) ∧ w = w' := by
  by_cases h1 : lo ≤ n
  · go_enter Tryd.func69, Tryd.ntmps69
    go_wp2
    go_ret
    exact ⟨ret_bool (by simp [inR]; omega), rfl⟩
  · have h2 : decide (lo ≤ n) = false := by simpa using h1
    go_enter Tryd.func69, Tryd.ntmps69
    go_wp2
    go_ret
    exact ⟨ret_bool (by simp [inR]; omega), rfl⟩

theorem l00In_any (n lo hi : Int) (w : World) : Calls Tryd.prog 71 #[.int .i64 n, .int .i64 lo, .int .i64 hi] w fun e w' => e = .returned (.bool (inR n lo hi)) ∧ w = w' := by
  by_cases h1 : lo ≤ n
  · go_enter Tryd.func71, Tryd.ntmps71
    go_wp2
    go_ret
    exact ⟨ret_bool (by simp [inR]; omega), rfl⟩
  · have h2 : decide (lo ≤ n) = false := by simpa using h1
    go_enter Tryd.func71, Tryd.ntmps71
    go_wp2
    go_ret
    exact ⟨ret_bool (by simp [inR]; omega), rfl⟩

theorem areWithin1_any (x lo hi : Int) (p1 p2 : Addr) (w : World) (h1 : w.cell? p1 = some (.int .i64 lo)) (h2 : w.cell? p2 = some (.int .i64 hi)) :
    Calls Tryd.prog 101 #[.int .i64 x, .pointer (some p1), .pointer (some p2)] w fun e w' => e = .returned (.bool (!inR x lo hi)) ∧ w = w' := by
  go_enter Tryd.func101, Tryd.ntmps101
  go_wp2_with (go_at_call 69; refine (within_any _ _ _ _).mono ?_; rintro e w1 ⟨rfl, rfl⟩)
  go_ret
  exact ⟨rfl, rfl⟩

theorem call_areWithin1 (vs : Array Value) (w : World) : (callFunc 101 vs).run Tryd.prog w = .ok (.enter 101 vs) w := by kernel_rfl

theorem areWithin_any (a : Option Addr) (c : Nat) (xs : List Int) (lo hi : Int) (w : World) (hr : Rd (Value.int .i64) w a c xs) :
    Calls Tryd.prog 83 #[.slice a xs.length c, .int .i64 lo, .int .i64 hi] w fun e w' => e = .returned (.bool (xs.all (fun x => inR x lo hi))) ∧ Below w.heap.size w w' := by
  have hb : Below w.heap.size w ((w.alloc (.cells #[.int .i64 lo] 2)).alloc (.cells #[.int .i64 hi] 2)) := ((Below.refl _ _).alloc (Nat.le_refl _) _).alloc (by simp) _
  have hc := containsFunci_any a c xs ((w.alloc (.cells #[.int .i64 lo] 2)).alloc (.cells #[.int .i64 hi] 2)) 101 #[.pointer (some ⟨w.heap.size, 0, none⟩), .pointer (some ⟨w.heap.size + 1, 0, none⟩)] (fun x => !inR x lo hi) call_areWithin1 (hr.below hb (Nat.le_refl _)) (by
    intro k h wr hbr
    refine (areWithin1_any _ lo hi _ _ wr ?_ ?_).mono ?_
    · rw [hbr.cell (by simp; omega)]; rw [World.cell?_alloc_past _ _ _ (by simp), World.cell?_alloc_at _ _ _ _ rfl]; rfl
    · rw [hbr.cell (by simp)]; rw [World.cell?_alloc_at _ _ _ _ (by simp)]; rfl
    · rintro e w1 ⟨rfl, rfl⟩; exact ⟨rfl, Below.refl _ _⟩)
  have HC := Lib.hid hc
  have HB := Lib.hid hb
  clear hc hb
  go_enter Tryd.func83, Tryd.ntmps83
  go_wp2_with fail
  refine HC.out.mono ?_
  rintro e w1 ⟨rfl, hb1⟩
  go_wp2
  go_ret
  refine ⟨ret_bool ?_, HB.out.trans (hb1.mono (by simp; omega))⟩
  rw [Bool.eq_iff_iff]; simp [List.all_eq_true, List.any_eq_true]

theorem rd_idxAt {α : Type} [Inhabited α] {f : α → Value} {w : World} {a : Option Addr} {c : Nat} {xs : List α} (h : Rd f w a c xs) {P : Program} {T : TypeId} (hT : P.underlying T = some (.slice (P.elem T))) (hs : ∀ w, (sizeOf (P.elem T)).run P w = .ok 1 w) (k : Nat) (hk : k < xs.length) (i : Int) (hi : i = (k : Int)) :
    ∀ w' : World, (Instr.indexAt T (.slice a xs.length c) (.int .i64 i)).run P w' = .ok (.pointer (some (elt a k))) w' := by
  subst hi; exact fun w' => h.idx hT hs w' k hk

end Go.Proofs.YtmmpemfhbnkomaaDoor

namespace Go.Proofs.YtmmpemfhbnkomaaDoor
open Go.RowKit

/-- A text's byte. -/
def byt (s : ByteArray) (k : Nat) : Nat := (s.get! k).toNat
theorem byt_eq {s : ByteArray} {k : Nat} (h : k < s.size) : (s[k]'h).toNat = byt s k := by
  unfold byt
  cases s with
  | mk d =>
    have hd : k < d.size := h
    simp [ByteArray.get!, hd]
    rfl
theorem byt_lt (s : ByteArray) (k : Nat) : byt s k < 256 := UInt8.toNat_lt _

def lowB (s : ByteArray) (k : Nat) : Bool := decide (97 ≤ byt s k) && decide (byt s k ≤ 122)
def nameB (s : ByteArray) : Bool := decide (1 ≤ s.size) && decide (s.size ≤ 8) && (List.range s.size).all (lowB s)
theorem nameB_no {s : ByteArray} {k : Nat} (hk : k < s.size) (h : lowB s k = false) : nameB s = false := by
  unfold nameB
  have : (List.range s.size).all (lowB s) = false := by rw [List.all_eq_false]; exact ⟨k, List.mem_range.2 hk, by rw [h]; simp⟩
  rw [this]; simp
theorem nameB_yes {s : ByteArray} (h : ∀ k, k < s.size → lowB s k = true) : nameB s = (decide (1 ≤ s.size) && decide (s.size ≤ 8)) := by
  unfold nameB
  have : (List.range s.size).all (lowB s) = true := by rw [List.all_eq_true]; intro k hk; exact h k (List.mem_range.1 hk)
  rw [this]; simp

end Go.Proofs.YtmmpemfhbnkomaaDoor

namespace Go.Proofs.YtmmpemfhbnkomaaDoor
open Go.RowKit

theorem mod3 (k0 k : Nat) : (((k0 : Int) + (k : Int)) % 3 == 0) = decide ((k0 + k) % 3 = 0) := by
  rw [Bool.eq_iff_iff]; simp; omega

set_option maxHeartbeats 400000 in
theorem markB_any {a : Option Addr} {c base k0 : Nat} {xs : List Bool} {w : World} (ho : Own (Value.bool) 4 w base a c xs) (hk : k0 + xs.length ≤ 4611686018427387904) :
    Calls Tryd.prog 35 #[.slice a xs.length c, .int .i64 k0] w (RetM (Value.bool) 4 w base a c (fun k => decide (k % 3 = 0)) k0 xs.length) := by
  go_enter Tryd.func35, Tryd.ntmps35
  go_wp2
  go_loopw [1, 5] (fun kk i wr => ∃ k : Nat, k ≤ xs.length ∧ i = .int .i64 k ∧ kk = .int .i64 ((k0 + k : Nat) : Int) ∧ Own (Value.bool) 4 wr base a c (marks (fun k => decide (k % 3 = 0)) k0 k ++ xs.drop k) ∧ w.grownBy wr (a.map (·.block))) (fun _ i _ => xs.length - (intOf i).toNat)
  case atStart => exact ⟨0, Nat.zero_le _, rfl, rfl, by simpa [marks] using ho, World.grownBy.refl _ _⟩
  case round =>
    obtain ⟨k, hk, rfl, rfl, hw, hg⟩ := hrel
    clear ho
    have hln : (marks (fun k => decide (k % 3 = 0)) k0 k ++ xs.drop k).length = xs.length := by simp [marks_length]; omega
    by_cases hlt : k < xs.length
    · have hio := hw.idx und_bs siz_bs
      rw [hln] at hio
      obtain ⟨v0, hcs⟩ : ∃ v, wr.cell? (elt a k) = some v := ⟨_, hw.cell k (by omega)⟩
      have hfz := hw.free k (by omega)
      have hst := hw.set k (by omega) (decide ((k0 + k) % 3 = 0))
      rw [marks_set (fun k => decide (k % 3 = 0)) k0 k xs hlt] at hst
      have HG : Hid (wr.grownBy _ _) := hst.2
      have HS : Hid (Own _ _ _ _ _ _ _) := hst.1
      have HC : Hid (w.grownBy _ _) := hg
      clear hst hg hln
      have hv : (((k0 : Int) + (k : Int)) % 3 == 0) = decide ((k0 + k) % 3 = 0) := mod3 k0 k
      go_wp2
      go_roundw
      case rel => exact ⟨k + 1, by omega, by go_num, by go_num, by simpa using HS.out, grown_trans HC.out (by simpa using HG.out)⟩
      case measure => simp [intOf]; omega
    · obtain rfl : k = xs.length := by omega
      have HO : Hid (Own _ _ _ _ _ _ _) := hw
      have HC : Hid (w.grownBy _ _) := hg
      clear hw hln hg
      go_wp2
      go_ret
      exact ⟨rfl, HO.out.cast (by simp), HC.out⟩


set_option maxHeartbeats 400000 in
theorem heldB_any {a : Option Addr} {c k0 : Nat} {n : Nat} {w : World} (hr : Rd (Value.bool) w a c (marks (fun k => decide (k % 3 = 0)) k0 n)) (hk : k0 + n ≤ 4611686018427387904) :
    Calls Tryd.prog 36 #[.slice a n c, .int .i64 k0] w fun e w' => e = .returned (.int .i64 ((k0 + n : Nat) : Int)) ∧ Below w.heap.size w w' := by
  go_enter Tryd.func36, Tryd.ntmps36
  go_wp2
  go_loop [1, 5] (fun kk i => ∃ k : Nat, k ≤ n ∧ i = .int .i64 k ∧ kk = .int .i64 ((k0 + k : Nat) : Int)) (fun _ i => n - (intOf i).toNat)
  case atStart => exact ⟨0, Nat.zero_le _, rfl, rfl⟩
  case round =>
    obtain ⟨k, hk, rfl, rfl⟩ := hrel
    by_cases hlt : k < n
    · have hio := hr.idx und_bs siz_bs
      rw [marks_length] at hio
      have hcs := hr.cell k (by rw [marks_length]; exact hlt)
      rw [marks_get _ _ _ _ hlt, Option.getD_some] at hcs
      have hv : (((k0 : Int) + (k : Int)) % 3 == 0) = decide ((k0 + k) % 3 = 0) := mod3 k0 k
      obtain ⟨b, hb⟩ : ∃ b, decide ((k0 + k) % 3 = 0) = b := ⟨_, rfl⟩
      rw [hb] at hcs hv
      have hne : (b != b) = false := by simp
      clear hb
      go_wp2
      go_round
      case rel => exact ⟨k + 1, by omega, by go_num, by go_num⟩
      case measure => simp [intOf]; omega
    · obtain rfl : k = n := by omega
      go_wp2
      go_ret
      exact ⟨rfl, Below.refl _ _⟩

end Go.Proofs.YtmmpemfhbnkomaaDoor

namespace Go.Proofs.YtmmpemfhbnkomaaDoor
open Go.RowKit

/-- A slice's value: its address, its length, its capacity. -/
abbrev Hd := Option Addr × Nat × Nat
def hdV (h : Hd) : Value := .slice h.1 h.2.1 h.2.2
theorem hdV_one (h : Hd) : (hdV h).oneCell' = true := rfl

/-- A slice of slices reads as a list of lists. -/
structure Rd2 {α : Type} [Inhabited α] (f : α → Value) (w : World) (a : Option Addr) (c : Nat) (hs : List Hd) (xss : List (List α)) : Prop where
  top : Rd hdV w a c hs
  len : hs.length = xss.length
  row : ∀ i, i < xss.length → ∃ (hd : Hd) (xs : List α), hs[i]? = some hd ∧ xss[i]? = some xs ∧ hd.2.1 = xs.length ∧ Rd f w hd.1 hd.2.2 xs

section
variable {α : Type} [Inhabited α] {f : α → Value} {w w' : World} {a : Option Addr} {c : Nat} {hs : List Hd} {xss : List (List α)}
theorem Rd2.below (h : Rd2 f w a c hs xss) {B : Nat} (hb : Below B w w') (hB : w.heap.size ≤ B) : Rd2 f w' a c hs xss :=
  ⟨h.top.below hb hB, h.len, fun i hi => let ⟨hd, xs, h1, h2, h3, h4⟩ := h.row i hi; ⟨hd, xs, h1, h2, h3, h4.below hb hB⟩⟩
/-- Row i. -/
theorem Rd2.at (h : Rd2 f w a c hs xss) {i : Nat} (hi : i < xss.length) : ∃ a2 c2, w.cell? (elt a i) = some (.slice a2 xss[i].length c2) ∧ Rd f w a2 c2 xss[i] := by
  obtain ⟨hd, xs, h1, h2, h3, h4⟩ := h.row i hi
  have hx : xss[i] = xs := by
    rw [List.getElem?_eq_getElem hi] at h2; simpa using h2
  rw [hx]
  refine ⟨hd.1, hd.2.2, ?_, h4⟩
  rw [h.top.cell i (by rw [h.len]; exact hi), h1, Option.getD_some, ← h3]
  rfl
theorem Rd2.lens (h : Rd2 f w a c hs xss) : xss.length ≤ 9223372036854775807 := by rw [← h.len]; exact h.top.len
end

/-- A slice of slices that a call has made: all in rows of their own. -/
structure Own2 {α : Type} (f : α → Value) (e ee : TypeId) (w : World) (base : Nat) (a : Option Addr) (c : Nat) (hs : List Hd) (xss : List (List α)) : Prop where
  top : Own hdV ee w base a c hs
  len : hs.length = xss.length
  row : ∀ i, i < xss.length → ∃ (hd : Hd) (xs : List α), hs[i]? = some hd ∧ xss[i]? = some xs ∧ hd.2.1 = xs.length ∧ Own f e w base hd.1 hd.2.2 xs ∧ ∀ p q : Addr, a = some p → hd.1 = some q → p.block ≠ q.block
  apart : ∀ (i j : Nat) (hd hd' : Hd), i ≠ j → hs[i]? = some hd → hs[j]? = some hd' → ∀ p q : Addr, hd.1 = some p → hd'.1 = some q → p.block ≠ q.block

section
variable {α : Type} {f : α → Value} {e ee : TypeId} {w w' : World} {base : Nat} {a : Option Addr} {c : Nat} {hs : List Hd} {xss : List (List α)}
theorem Own2.rd [Inhabited α] (h : Own2 f e ee w base a c hs xss) : Rd2 f w a c hs xss :=
  ⟨h.top.rd, h.len, fun i hi => let ⟨hd, xs, h1, h2, h3, h4, _⟩ := h.row i hi; ⟨hd, xs, h1, h2, h3, h4.rd⟩⟩
theorem Own2.below (h : Own2 f e ee w base a c hs xss) {B : Nat} (hb : Below B w w') (hB : w.heap.size ≤ B) : Own2 f e ee w' base a c hs xss :=
  ⟨h.top.below hb hB, h.len, fun i hi => let ⟨hd, xs, h1, h2, h3, h4, h5⟩ := h.row i hi; ⟨hd, xs, h1, h2, h3, h4.below hb hB, h5⟩, h.apart⟩
theorem Own2.mono (h : Own2 f e ee w base a c hs xss) {b' : Nat} (hb : b' ≤ base) : Own2 f e ee w b' a c hs xss :=
  ⟨h.top.mono hb, h.len, fun i hi => let ⟨hd, xs, h1, h2, h3, h4, h5⟩ := h.row i hi; ⟨hd, xs, h1, h2, h3, h4.mono hb, h5⟩, h.apart⟩
end

/-- A slice of slices in new memory. -/
def RetSS {α : Type} (f : α → Value) (e ee : TypeId) (w : World) (xss : List (List α)) (en : Ending) (w' : World) : Prop :=
  ∃ a c hs, en = .returned (.slice a xss.length c) ∧ Own2 f e ee w' w.heap.size a c hs xss ∧ Below w.heap.size w w'

/-- Only blocks from lo to hi have turned. -/
structure TurnB (lo hi : Nat) (w w' : World) : Prop where
  os : w'.os = w.os
  tape : w'.tape = w.tape
  output : w'.output = w.output
  size : w.heap.size ≤ w'.heap.size
  block : ∀ k, k < w.heap.size → (k < lo ∨ hi ≤ k) → w'.heap[k]? = w.heap[k]?
theorem TurnB.refl (lo hi : Nat) (w : World) : TurnB lo hi w w := ⟨rfl, rfl, rfl, Nat.le_refl _, fun _ _ _ => rfl⟩
theorem TurnB.trans {lo hi : Nat} {w w1 w2 : World} (h : TurnB lo hi w w1) (h2 : TurnB lo hi w1 w2) : TurnB lo hi w w2 :=
  ⟨h2.os.trans h.os, h2.tape.trans h.tape, h2.output.trans h.output, Nat.le_trans h.size h2.size, fun k hk hr => (h2.block k (Nat.lt_of_lt_of_le hk h.size) hr).trans (h.block k hk hr)⟩
theorem TurnB.of_grown {lo hi : Nat} {w w' : World} {a : Option Addr} (h : w.grownBy w' (a.map (·.block))) (ha : ∀ p, a = some p → lo ≤ p.block ∧ p.block < hi) : TurnB lo hi w w' :=
  ⟨h.os, h.tape, h.output, h.size, fun k hk hr => h.block k hk (by
    cases a with
    | none => simp
    | some p => have := ha p rfl; simp; omega)⟩
theorem TurnB.below {lo hi : Nat} {w w' : World} (h : TurnB lo hi w w') {B : Nat} (hB : B ≤ lo) (hs : B ≤ w.heap.size) : Below B w w' :=
  ⟨h.os, h.tape, h.output, h.size, fun k hk => h.block k (by omega) (by omega)⟩
theorem Own.heap {α : Type} {f : α → Value} {e : TypeId} {w w' : World} {base : Nat} {a : Option Addr} {c : Nat} {xs : List α} (h : Own f e w base a c xs) (hk : ∀ p, a = some p → w'.heap[p.block]? = w.heap[p.block]?) : Own f e w' base a c xs := by
  refine ⟨h.1, ?_⟩
  rcases h.2 with h2 | ⟨g, cap, cur, h1, h2, h3, h4⟩
  · exact .inl h2
  · refine .inr ⟨g, cap, cur, h1, h2, ?_, h4⟩
    simp only [Value.slice.injEq] at h1
    rw [hk _ h1.1]; exact h3
theorem Own.turned {α : Type} {f : α → Value} {e : TypeId} {w w' : World} {base : Nat} {a : Option Addr} {c : Nat} {xs : List α} (h : Own f e w base a c xs) {lo hi : Nat} (ht : TurnB lo hi w w') (hd : ∀ p, a = some p → p.block < lo ∨ hi ≤ p.block) : Own f e w' base a c xs :=
  h.heap fun p hp => ht.block p.block (h.blk p hp).2 (hd p hp)

/-- How many elements there are. -/
def size2 {α : Type} (xss : List (List α)) : Nat := xss.length + (xss.map List.length).foldl (· + ·) 0
theorem foldl_add (l : List Nat) (z : Nat) : l.foldl (· + ·) z = z + l.foldl (· + ·) 0 := by
  induction l generalizing z with
  | nil => simp
  | cons x l ih => simp only [List.foldl_cons]; rw [ih (z + x), ih (0 + x)]; omega
theorem sum_take_succ {α : Type} {xss : List (List α)} {k : Nat} (h : k < xss.length) : ((xss.take (k + 1)).map List.length).foldl (· + ·) 0 = ((xss.take k).map List.length).foldl (· + ·) 0 + xss[k].length := by
  rw [List.take_add_one, List.getElem?_eq_getElem h, List.map_append, List.foldl_append]; rfl
theorem sum_take_le {α : Type} (xss : List (List α)) (k : Nat) : ((xss.take k).map List.length).foldl (· + ·) 0 ≤ (xss.map List.length).foldl (· + ·) 0 := by
  have h : xss.map List.length = (xss.take k).map List.length ++ (xss.drop k).map List.length := by rw [← List.map_append, List.take_append_drop]
  rw [h, List.foldl_append, foldl_add _ (List.foldl _ _ _)]
  omega
theorem size2_row {α : Type} {xss : List (List α)} {k : Nat} (h : k < xss.length) {n : Nat} (hn : size2 xss ≤ n) : xss[k].length ≤ n := by
  have h1 := sum_take_le xss (k + 1)
  rw [sum_take_succ h] at h1
  unfold size2 at hn
  omega

/-- The rows that have been made up to k. -/
structure Mk2 {α : Type} (f : α → Value) (e ee : TypeId) (w wr : World) (n : Nat) (hs : List Hd) (xss : List (List α)) (k : Nat) : Prop where
  top : Own hdV ee wr w.heap.size (some ⟨w.heap.size, 0, none⟩) n (hs ++ List.replicate (n - k) ((none, 0, 0) : Hd))
  len : hs.length = k
  row : ∀ i, i < k → ∃ (hd : Hd) (xs : List α), hs[i]? = some hd ∧ xss[i]? = some xs ∧ hd.2.1 = xs.length ∧ Own f e wr (w.heap.size + 1) hd.1 hd.2.2 xs
  apart : ∀ (i j : Nat) (hd hd' : Hd), i ≠ j → hs[i]? = some hd → hs[j]? = some hd' → ∀ p q : Addr, hd.1 = some p → hd'.1 = some q → p.block ≠ q.block
  B : Below w.heap.size w wr
theorem fill_set {hs : List Hd} {n k : Nat} (hk : k < n) (hl : hs.length = k) (h : Hd) : (hs ++ List.replicate (n - k) ((none, 0, 0) : Hd)).set k h = (hs ++ [h]) ++ List.replicate (n - (k + 1)) ((none, 0, 0) : Hd) := by
  subst hl
  rw [List.set_append_right _ _ (Nat.le_refl _), Nat.sub_self, show n - hs.length = (n - (hs.length + 1)) + 1 by omega, List.replicate_succ, List.set_cons_zero]
  simp

theorem Mk2.step {α : Type} {f : α → Value} {e ee : TypeId} {w wr w1 : World} {n : Nat} {hs : List Hd} {xss : List (List α)} {k : Nat} (h : Mk2 f e ee w wr n hs xss k) (hk : k < n) {a2 : Option Addr} {c2 : Nat} {xs : List α} (hx : xss[k]? = some xs)
    (hb : Below wr.heap.size wr w1) (ho : Own f e w1 wr.heap.size a2 c2 xs) :
    Mk2 f e ee w (w1.setCell (elt (some ⟨w.heap.size, 0, none⟩) k) (hdV (a2, xs.length, c2))) n (hs ++ [(a2, xs.length, c2)]) xss (k + 1) := by
  have hlen : (hs ++ List.replicate (n - k) ((none, 0, 0) : Hd)).length = n := by simp [h.len]; omega
  have htb := h.top.blk ⟨w.heap.size, 0, none⟩ rfl
  have hset := (h.top.below hb (Nat.le_refl _)).set k (by rw [hlen]; exact hk) (a2, xs.length, c2)
  have hblk : (elt (some ⟨w.heap.size, 0, none⟩) k).block = w.heap.size := rfl
  refine ⟨hset.1.cast (fill_set hk h.len _), by simp [h.len], ?_, ?_, (h.B.trans (hb.mono h.B.size)).setCell (by rw [hblk]; exact Nat.le_refl _) _⟩
  · intro i hi
    by_cases hik : i = k
    · subst hik
      refine ⟨(a2, xs.length, c2), xs, ?_, hx, rfl, (ho.mono (by omega)).setFar _ _ (by rw [hblk]; omega)⟩
      rw [List.getElem?_append_right (by rw [h.len]; exact Nat.le_refl _)]
      simp [h.len]
    · obtain ⟨hd, ys, h1, h2, h3, h4⟩ := h.row i (by omega)
      refine ⟨hd, ys, ?_, h2, h3, (h4.below hb (Nat.le_refl _)).setFar _ _ (by rw [hblk]; omega)⟩
      rw [List.getElem?_append_left (by rw [h.len]; omega)]; exact h1
  · have old : ∀ i hd, i < k → (hs ++ [((a2, xs.length, c2) : Hd)])[i]? = some hd → hs[i]? = some hd := fun i hd hi hh => by
      rwa [List.getElem?_append_left (by rw [h.len]; exact hi)] at hh
    have new : ∀ hd, (hs ++ [((a2, xs.length, c2) : Hd)])[k]? = some hd → hd = (a2, xs.length, c2) := fun hd hh => by
      rw [List.getElem?_append_right (by rw [h.len]; exact Nat.le_refl _)] at hh
      simp [h.len] at hh
      exact hh.symm
    have blkO : ∀ i hd p, i < k → hs[i]? = some hd → hd.1 = some p → p.block < wr.heap.size := fun i hd p hi hh hp => by
      obtain ⟨hd2, ys, h1, _, _, h4⟩ := h.row i hi
      rw [hh] at h1
      have : hd = hd2 := by simpa using h1
      subst this
      exact (h4.blk p hp).2
    have lt : ∀ i hd, (hs ++ [((a2, xs.length, c2) : Hd)])[i]? = some hd → i ≤ k := fun i hd hh => by
      have := (List.getElem?_eq_some_iff.1 hh).1
      simp [h.len] at this
      omega
    intro i j hd hd' hij hi hj p q hp hq
    have li := lt i hd hi
    have lj := lt j hd' hj
    by_cases hik : i = k
    · subst hik
      have e1 := new hd hi
      subst e1
      have h5 := blkO j hd' q (by omega) (old j hd' (by omega) hj) hq
      have h6 := ho.blk p hp
      omega
    · by_cases hjk : j = k
      · subst hjk
        have e1 := new hd' hj
        subst e1
        have h5 := blkO i hd p (by omega) (old i hd (by omega) hi) hp
        have h6 := ho.blk q hq
        omega
      · exact h.apart i j hd hd' hij (old i hd (by omega) hi) (old j hd' (by omega) hj) p q hp hq

theorem Mk2.done {α : Type} {f : α → Value} {e ee : TypeId} {w wr : World} {n : Nat} {hs : List Hd} {xss : List (List α)} (h : Mk2 f e ee w wr n hs xss n) (hn : xss.length = n) : Own2 f e ee wr w.heap.size (some ⟨w.heap.size, 0, none⟩) n hs xss := by
  subst hn
  refine ⟨h.top.cast (by simp), h.len, fun i hi => ?_, h.apart⟩
  obtain ⟨hd, xs, h1, h2, h3, h4⟩ := h.row i hi
  refine ⟨hd, xs, h1, h2, h3, h4.mono (by omega), fun p q hp hq => ?_⟩
  have h5 := h4.blk q hq
  simp at hp
  subst hp
  simp
  omega

/-- A row of a slice of slices has turned, the others are as they were. -/
theorem Own2.turned {α : Type} {f : α → Value} {e ee : TypeId} {w w' : World} {base : Nat} {a : Option Addr} {c : Nat} {hs : List Hd} {xss : List (List α)} (h : Own2 f e ee w base a c hs xss) {k : Nat} {hd : Hd} (hk : hs[k]? = some hd) {ys : List α}
    (hg : w.grownBy w' (hd.1.map (·.block))) (ho : Own f e w' base hd.1 hd.2.2 ys) (hl : hd.2.1 = ys.length) : Own2 f e ee w' base a c hs (xss.set k ys) := by
  have hkl : k < hs.length := (List.getElem?_eq_some_iff.1 hk).1
  refine ⟨?_, by rw [List.length_set]; exact h.len, fun i hi => ?_, h.apart⟩
  · refine h.top.kept hg ?_
    intro g hgr p hp
    obtain ⟨hd2, xs, h1, _, _, _, h5⟩ := h.row k (by rw [← h.len]; exact hkl)
    rw [hk] at h1
    have : hd = hd2 := by simpa using h1
    subst this
    cases hd1 : hd.1 with
    | none => rw [hd1] at hgr; simp at hgr
    | some q => rw [hd1] at hgr; simp at hgr; have := h5 p q hp hd1; omega
  · rw [List.length_set] at hi
    obtain ⟨hd2, xs, h1, h2, h3, h4, h5⟩ := h.row i hi
    by_cases hik : i = k
    · subst hik
      rw [hk] at h1
      have : hd = hd2 := by simpa using h1
      subst this
      exact ⟨hd, ys, hk, by simp [hi], hl, ho, h5⟩
    · refine ⟨hd2, xs, h1, by rw [List.getElem?_set_ne (by omega)]; exact h2, h3, h4.kept hg ?_, h5⟩
      intro g hgr p hp
      cases hd1 : hd.1 with
      | none => rw [hd1] at hgr; simp at hgr
      | some q => rw [hd1] at hgr; simp at hgr; have := h.apart i k hd2 hd hik h1 hk p q hp hd1; omega

theorem Own2.blks {α : Type} {f : α → Value} {e ee : TypeId} {w : World} {base : Nat} {a : Option Addr} {c : Nat} {hs : List Hd} {xss : List (List α)} (h : Own2 f e ee w base a c hs xss) (i : Nat) (hd : Hd) (p : Addr) (hi : hs[i]? = some hd) (hp : hd.1 = some p) : p.block < w.heap.size := by
  have hl : i < xss.length := by rw [← h.len]; exact (List.getElem?_eq_some_iff.1 hi).1
  obtain ⟨hd2, xs, h1, _, _, h4, _⟩ := h.row i hl
  rw [hi] at h1
  have : hd = hd2 := by simpa using h1
  subst this
  exact (h4.blk p hp).2

/-- Either the sizes are small enough, or the answer is -1. -/
def SzOk (n : Nat) (e : Ending) : Prop := e = .returned (.int .i64 (-1)) ∨ (n ≤ 1048576 ∧ ∃ r : Int, 0 ≤ r ∧ e = .returned (.int .i64 r))

/-- The world behind the marks of all rows. -/
def RetMM (lo hi : Nat) (w : World) (en : Ending) (w' : World) : Prop := ∃ k : Int, 0 ≤ k ∧ k ≤ 4194304 ∧ en = .returned (.int .i64 k) ∧ TurnB lo hi w w'

end Go.Proofs.YtmmpemfhbnkomaaDoor

namespace Go.Proofs.YtmmpemfhbnkomaaDoor
open Go.RowKit

theorem grown_of_alloc (w : World) (o : Obj) (row : Option Nat) : w.grownBy (w.alloc o) row :=
  have hb : Below w.heap.size w (w.alloc o) := (Below.refl _ _).alloc (Nat.le_refl _) o
  ⟨hb.os, hb.tape, hb.output, hb.size, fun k hk _ => hb.block k hk⟩
theorem TurnB.alloc {lo hi : Nat} {w w' : World} (h : TurnB lo hi w w') (o : Obj) : TurnB lo hi w (w'.alloc o) :=
  h.trans (TurnB.of_grown (a := none) (grown_of_alloc _ _ _) (by simp))
theorem Blk.turned {w w' : World} {k : Nat} {cs : Array Value} {T : TypeId} (h : Blk w k cs T) {lo hi : Nat} (ht : TurnB lo hi w w') (hk : k < lo ∨ hi ≤ k) : Blk w' k cs T := by
  have := h.lt
  unfold Blk at *
  rw [ht.block k this hk]; exact h
abbrev boolM : Nat → Bool := fun k => decide (k % 3 = 0)
abbrev intM : Nat → Int := fun k => (k : Int)
theorem Own.off {α : Type} {f : α → Value} {e : TypeId} {w : World} {base : Nat} {a : Option Addr} {c : Nat} {xs : List α} (h : Own f e w base a c xs) {k : Nat} (hk : w.heap.size ≤ k) : some k ≠ a.map (·.block) := by
  cases ha : a with
  | none => simp
  | some p => have := h.blk p ha; simp; omega

set_option maxHeartbeats 800000 in
theorem markSieve_any {a : Option Addr} {c base k0 : Nat} {xs : List Bool} {R S : Int} {w : World} (ho : Own (Value.bool) 4 w base a c xs) (hk : k0 + xs.length ≤ 4611686018427387904) :
    Calls Tryd.prog 15 #[.agg #[.int .i64 R, .int .i64 S, .slice a xs.length c], .int .i64 k0] w (RetM (Value.bool) 4 w base a c boolM k0 xs.length) := by
  have HO := Lib.hid (ho.alloc (.cells #[.int .i64 R, .int .i64 S, .slice a xs.length c] 30))
  have HG := Lib.hid (grown_of_alloc w (.cells #[.int .i64 R, .int .i64 S, .slice a xs.length c] 30) (a.map (·.block)))
  go_enter Tryd.func15, Tryd.ntmps15
  go_wp2_with fail
  refine (markB_any HO.out hk).mono ?_
  rintro e w1 ⟨rfl, hm, hg⟩
  have HM := Lib.hid hm
  have HC := Lib.hid (grown_trans HG.out hg)
  clear hm hg
  go_wp2
  go_ret
  exact ⟨rfl, HM.out, HC.out⟩

set_option maxHeartbeats 800000 in
theorem markZeros_any {a : Option Addr} {c base k0 : Nat} {xs : List Int} {Z : Int} {w : World} (ho : Own (Value.int .i64) 2 w base a c xs) (hk : k0 + xs.length ≤ 4611686018427387904) :
    Calls Tryd.prog 20 #[.agg #[.int .i64 Z, .slice a xs.length c], .int .i64 k0] w (RetM (Value.int .i64) 2 w base a c intM k0 xs.length) := by
  have HO := Lib.hid (ho.alloc (.cells #[.int .i64 Z, .slice a xs.length c] 37))
  have HG := Lib.hid (grown_of_alloc w (.cells #[.int .i64 Z, .slice a xs.length c] 37) (a.map (·.block)))
  go_enter Tryd.func20, Tryd.ntmps20
  go_wp2_with fail
  refine (markI_any HO.out hk).mono ?_
  rintro e w1 ⟨rfl, hm, hg⟩
  have HM := Lib.hid hm
  have HC := Lib.hid (grown_trans HG.out hg)
  clear hm hg
  go_wp2
  go_ret
  exact ⟨rfl, HM.out, HC.out⟩

set_option maxHeartbeats 800000 in
theorem markWindow_any {ta sa : Option Addr} {tc sc base k0 : Nat} {ts ss : List Int} {L P : Int} {w : World} (ht : Own (Value.int .i64) 2 w base ta tc ts) (hs : Own (Value.int .i64) 2 w base sa sc ss) (hsep : Sep ta sa) {hi : Nat} (kt : ∀ p, ta = some p → p.block < hi) (ks : ∀ p, sa = some p → p.block < hi) (hk : k0 + ts.length + ss.length ≤ 4611686018427387904) :
    Calls Tryd.prog 25 #[.agg #[.int .i64 L, .int .i64 P, .slice ta ts.length tc, .slice sa ss.length sc], .int .i64 k0] w fun e w' => e = .returned (.int .i64 ((k0 + ts.length + ss.length : Nat) : Int)) ∧ Own (Value.int .i64) 2 w' base ta tc (marks intM k0 ts.length) ∧ Own (Value.int .i64) 2 w' base sa sc (marks intM (k0 + ts.length) ss.length) ∧ TurnB base hi w w' := by
  have I0 : Hid (Blk (w.alloc (.cells #[.int .i64 L, .int .i64 P, .slice ta ts.length tc, .slice sa ss.length sc] 43)) w.heap.size #[.int .i64 L, .int .i64 P, .slice ta ts.length tc, .slice sa ss.length sc] 43) := Lib.hid (Blk.new _ _ _)
  have HT := Lib.hid (ht.alloc (.cells #[.int .i64 L, .int .i64 P, .slice ta ts.length tc, .slice sa ss.length sc] 43))
  have HS := Lib.hid (hs.alloc (.cells #[.int .i64 L, .int .i64 P, .slice ta ts.length tc, .slice sa ss.length sc] 43))
  have HG := Lib.hid ((TurnB.refl base hi w).alloc (.cells #[.int .i64 L, .int .i64 P, .slice ta ts.length tc, .slice sa ss.length sc] 43))
  have HB : Hid ((∀ p, ta = some p → base ≤ p.block ∧ p.block < hi) ∧ (∀ p, sa = some p → base ≤ p.block ∧ p.block < hi)) := Lib.hid (And.intro (fun p hp => ⟨(ht.blk p hp).1, kt p hp⟩) (fun p hp => ⟨(hs.blk p hp).1, ks p hp⟩))
  have HN := Lib.hid (And.intro (ht.off (Nat.le_refl _)) (hs.off (Nat.le_refl _)))
  have HP := Lib.hid hsep
  clear ht hs hsep kt ks
  go_enter Tryd.func25, Tryd.ntmps25
  go_wp2_with fail
  generalize w.alloc (.cells #[.int .i64 L, .int .i64 P, .slice ta ts.length tc, .slice sa ss.length sc] 43) = w0 at I0 HT HS HG ⊢
  refine (markI_any HT.out (by omega)).mono ?_
  rintro e w1 ⟨rfl, hm, hg⟩
  have HT1 := Lib.hid hm
  have HS1 := Lib.hid (HS.out.keptS hg (fun p q hp hq e => HP.out q p hq hp e.symm))
  have I1 := Lib.hid (I0.out.grown hg HN.out.1)
  have HG1 := Lib.hid (HG.out.trans (TurnB.of_grown hg HB.out.1))
  clear hm hg HT HS I0 HG
  have i3 := I1.out.cell (i := 3) (v := .slice sa ss.length sc) rfl
  go_wp2_with fail
  refine (markI_any (k0 := k0 + ts.length) HS1.out (by omega)).mono ?_
  rintro e w2 ⟨rfl, hm, hg⟩
  have HS2 := Lib.hid hm
  have HT2 := Lib.hid (HT1.out.keptS hg HP.out)
  have HG2 := Lib.hid (HG1.out.trans (TurnB.of_grown hg HB.out.2))
  clear hm hg i3
  go_wp2
  go_ret
  exact ⟨rfl, HT2.out, HS2.out, HG2.out⟩

end Go.Proofs.YtmmpemfhbnkomaaDoor

namespace Go.Proofs.YtmmpemfhbnkomaaDoor
open Go.RowKit

set_option maxHeartbeats 800000 in
theorem heldSieve_any {a : Option Addr} {c k0 n : Nat} {R S : Int} {w : World} (hr : Rd (Value.bool) w a c (marks boolM k0 n)) (hk : k0 + n ≤ 4611686018427387904) :
    Calls Tryd.prog 16 #[.agg #[.int .i64 R, .int .i64 S, .slice a n c], .int .i64 k0] w fun e w' => e = .returned (.int .i64 ((k0 + n : Nat) : Int)) ∧ Below w.heap.size w w' := by
  have hB : Below w.heap.size w (w.alloc (.cells #[.int .i64 R, .int .i64 S, .slice a n c] 30)) := (Below.refl _ _).alloc (Nat.le_refl _) _
  have HR := Lib.hid (hr.below hB (Nat.le_refl _))
  have HB := Lib.hid hB
  clear hr hB
  go_enter Tryd.func16, Tryd.ntmps16
  go_wp2_with fail
  refine (heldB_any HR.out hk).mono ?_
  rintro e w1 ⟨rfl, hb⟩
  have HC := Lib.hid (HB.out.trans (hb.mono HB.out.size))
  clear hb
  go_wp2
  go_ret
  exact ⟨rfl, HC.out⟩

set_option maxHeartbeats 800000 in
theorem heldZeros_any {a : Option Addr} {c k0 n : Nat} {Z : Int} {w : World} (hr : Rd (Value.int .i64) w a c (marks intM k0 n)) (hk : k0 + n ≤ 4611686018427387904) :
    Calls Tryd.prog 21 #[.agg #[.int .i64 Z, .slice a n c], .int .i64 k0] w fun e w' => e = .returned (.int .i64 ((k0 + n : Nat) : Int)) ∧ Below w.heap.size w w' := by
  have hB : Below w.heap.size w (w.alloc (.cells #[.int .i64 Z, .slice a n c] 37)) := (Below.refl _ _).alloc (Nat.le_refl _) _
  have HR := Lib.hid (hr.below hB (Nat.le_refl _))
  have HB := Lib.hid hB
  clear hr hB
  go_enter Tryd.func21, Tryd.ntmps21
  go_wp2_with fail
  refine (heldI_any HR.out hk).mono ?_
  rintro e w1 ⟨rfl, hb⟩
  have HC := Lib.hid (HB.out.trans (hb.mono HB.out.size))
  clear hb
  go_wp2
  go_ret
  exact ⟨rfl, HC.out⟩

set_option maxHeartbeats 800000 in
theorem heldWindow_any {ta sa : Option Addr} {tc sc k0 n m : Nat} {L P : Int} {w : World} (ht : Rd (Value.int .i64) w ta tc (marks intM k0 n)) (hs : Rd (Value.int .i64) w sa sc (marks intM (k0 + n) m)) (hk : k0 + n + m ≤ 4611686018427387904) :
    Calls Tryd.prog 26 #[.agg #[.int .i64 L, .int .i64 P, .slice ta n tc, .slice sa m sc], .int .i64 k0] w fun e w' => e = .returned (.int .i64 ((k0 + n + m : Nat) : Int)) ∧ Below w.heap.size w w' := by
  have hB : Below w.heap.size w (w.alloc (.cells #[.int .i64 L, .int .i64 P, .slice ta n tc, .slice sa m sc] 43)) := (Below.refl _ _).alloc (Nat.le_refl _) _
  have I0 : Hid (Blk (w.alloc (.cells #[.int .i64 L, .int .i64 P, .slice ta n tc, .slice sa m sc] 43)) w.heap.size #[.int .i64 L, .int .i64 P, .slice ta n tc, .slice sa m sc] 43) := Lib.hid (Blk.new _ _ _)
  have HB := Lib.hid hB
  clear hB
  go_enter Tryd.func26, Tryd.ntmps26
  go_wp2_with fail
  generalize w.alloc (.cells #[.int .i64 L, .int .i64 P, .slice ta n tc, .slice sa m sc] 43) = w0 at HB I0 ⊢
  refine (heldI_any (ht.below HB.out (Nat.le_refl _)) (by omega)).mono ?_
  rintro e w1 ⟨rfl, hb⟩
  have HC := Lib.hid (HB.out.trans (hb.mono HB.out.size))
  have I1 := Lib.hid (I0.out.below hb (Nat.le_refl _))
  clear hb HB I0
  have i3 := I1.out.cell (i := 3) (v := .slice sa m sc) rfl
  go_wp2_with fail
  refine (heldI_any (k0 := k0 + n) (hs.below HC.out (Nat.le_refl _)) (by omega)).mono ?_
  rintro e w2 ⟨rfl, hb⟩
  have HD := Lib.hid (HC.out.trans (hb.mono HC.out.size))
  clear hb
  go_wp2
  go_ret
  exact ⟨rfl, HD.out⟩

end Go.Proofs.YtmmpemfhbnkomaaDoor
