/- The walks of the laws' small helpers on slices of int64. slices.IndexFunc and slices.ContainsFunc at []int64, for whatever closure. within, l00In; numbers of a list within bounds. Names: letters of a text, in both texts. mark.., held.. on lists of bools. Slices of slices. mark.., held.. on sieves, zeros, windows, desks. held.. on sieves, zeros, windows, desks. The laws' helpers on lists of lists of float32. slices.IndexFunc and slices.ContainsFunc at [][]float32, for whatever closure. Near pairs: what both texts say, in plain words; the program's closure. The laws' helpers on lists of lists of bool. slices.IndexFunc and slices.ContainsFunc at [][]bool, for whatever closure. Bands: the program's text. Bands: the program's text at every input. Pairs of equal bands, near vectors of small whole numbers: plain. What the law FnBanded is told of its pairs: plain. Bands: the reference's text. Bands: the reference's text at every input. -/
import Derived.Test.YtdpolaedfjljmaaRows
import Derived.Test.YtdpolaedfjljmaaQBd1
import Derived.IntWalk
import Derived.Test.YtdpolaedfjljmaaQBd2
namespace Go.Proofs.Ytdpolaedfjljmaa
open Go.RowKit

theorem und_is : Try.prog.underlying 22 = some (.slice (Try.prog.elem 22)) := by kernel_rfl
theorem siz_is (w : World) : (sizeOf (Try.prog.elem 22)).run Try.prog w = .ok 1 w := by kernel_rfl
theorem und_ise : Try.prog.underlying 22 = some (.slice 2) := by kernel_rfl
theorem info_i : (Try.prog.info? 2).map (fun i => (i.zero, i.size, i.bytes)) = some (some (.int .i64 0), 1, 8) := by kernel_rfl

theorem int_ne {a b : Int} (h : (a != b) = true) : ¬ a = b := by simpa using h

set_option maxHeartbeats 400000 in
theorem eqI_any {a1 a2 : Option Addr} {c1 c2 : Nat} {xs ys : List Int} {w : World} (hx : Rd (Value.int .i64) w a1 c1 xs) (hy : Rd (Value.int .i64) w a2 c2 ys) :
    Calls Try.prog 110 #[.slice a1 xs.length c1, .slice a2 ys.length c2] w fun e w' => e = .returned (.bool (decide (xs = ys))) ∧ Below w.heap.size w w' := by
  have hlx := hx.len
  have hly := hy.len
  go_enter Try.func110, Try.ntmps110
  by_cases hl : xs.length = ys.length
  · have hd : ((xs.length : Int) != (ys.length : Int)) = false := by simp [hl]
    have HL : Hid (xs.length = ys.length) := hl
    clear hl
    go_wp2
    go_loopw [5] (fun i wr => ∃ k : Nat, k ≤ xs.length ∧ i = .int .i64 k ∧ xs.take k = ys.take k ∧ ∃ n, wr = w.drewN n) (fun i _ => xs.length - (intOf i).toNat)
    case atStart => exact ⟨0, Nat.zero_le _, rfl, rfl, 0, rfl⟩
    case round =>
      obtain ⟨k, hk, rfl, ht, n, rfl⟩ := hrel
      have HT : Hid (xs.take k = ys.take k) := ht
      clear ht hd
      by_cases hlt : k < xs.length
      · have hlt2 : k < ys.length := by rw [← HL.out]; exact hlt
        have hcx := hx.cell k hlt
        have hcy := hy.cell k hlt2
        have hix := hx.idx und_is siz_is
        have hiy := hy.idx und_is siz_is
        go_wp2_with fail
        go_quiet (fail)
        go_wp2
        · have h := int_ne (by assumption)
          go_ret
          exact ⟨ret_bool (by simp [take_ne_of hlt hlt2 h]), by rw [World.drewN_drewN]; exact below_of_drewN _ _ _⟩
        · have h : ¬ (xs[k] != ys[k]) = true := by simp_all
          go_roundw
          case rel => exact ⟨k + 1, by omega, by go_num, take_eq_snoc hlt hlt2 HT.out (by simpa using h), _, rfl⟩
          case measure => simp [intOf]; omega
      · go_wp2
        go_ret
        have : k = xs.length := by omega
        subst this
        have h := HT.out
        rw [List.take_length, HL.out, List.take_length] at h
        exact ⟨ret_bool (by simp [h]), below_of_drewN _ _ _⟩
  · have hd : ((xs.length : Int) != (ys.length : Int)) = true := by simp; omega
    have HL : Hid (¬ xs.length = ys.length) := hl
    clear hl
    go_wp2
    go_ret
    refine ⟨ret_bool ?_, Below.refl _ _⟩
    have h := HL.out
    rw [decide_eq_false]
    rintro rfl
    exact h rfl

set_option maxHeartbeats 400000 in
theorem markI_any {a : Option Addr} {c base k0 : Nat} {xs : List Int} {w : World} (ho : Own (Value.int .i64) 2 w base a c xs) (hk : k0 + xs.length ≤ 4611686018427387904) :
    Calls Try.prog 59 #[.slice a xs.length c, .int .i64 k0] w (RetM (Value.int .i64) 2 w base a c (fun k => (k : Int)) k0 xs.length) := by
  go_enter Try.func59, Try.ntmps59
  go_wp2
  go_loopw [1, 5] (fun kk i wr => ∃ k : Nat, k ≤ xs.length ∧ i = .int .i64 k ∧ kk = .int .i64 ((k0 + k : Nat) : Int) ∧ Own (Value.int .i64) 2 wr base a c (marks (fun k => (k : Int)) k0 k ++ xs.drop k) ∧ w.grownBy wr (a.map (·.block))) (fun _ i _ => xs.length - (intOf i).toNat)
  case atStart => exact ⟨0, Nat.zero_le _, rfl, rfl, by simpa [marks] using ho, World.grownBy.refl _ _⟩
  case round =>
    obtain ⟨k, hk, rfl, rfl, hw, hg⟩ := hrel
    clear ho
    have hln : (marks (fun k => (k : Int)) k0 k ++ xs.drop k).length = xs.length := by simp [marks_length]; omega
    by_cases hlt : k < xs.length
    · have hio := hw.idx und_is siz_is
      rw [hln] at hio
      obtain ⟨v0, hcs⟩ : ∃ v, wr.cell? (elt a k) = some v := ⟨_, hw.cell k (by omega)⟩
      have hfz := hw.free k (by omega)
      have hst := hw.set k (by omega) ((k0 + k : Nat) : Int)
      rw [marks_set (fun k => (k : Int)) k0 k xs hlt] at hst
      have HG : Hid (wr.grownBy _ _) := hst.2
      have HS : Hid (Own _ _ _ _ _ _ _) := hst.1
      have HC : Hid (w.grownBy _ _) := hg
      clear hst hg hln
      go_wp2
      go_roundw
      case rel => exact ⟨k + 1, by omega, by go_num, by go_num, by simpa using HS.out, grown_trans HC.out (by simpa using HG.out)⟩
      case measure => simp [intOf]; omega
    · obtain rfl : k = xs.length := by omega
      have HO : Hid (Own _ _ _ _ _ _ _) := hw
      have HC : Hid (w.grownBy _ _) := hg
      clear hw hln hg
      go_wp2
      go_ret
      exact ⟨rfl, HO.out.cast (by simp), HC.out⟩

set_option maxHeartbeats 400000 in
theorem heldI_any {a : Option Addr} {c k0 : Nat} {n : Nat} {w : World} (hr : Rd (Value.int .i64) w a c (marks (fun k => (k : Int)) k0 n)) (hk : k0 + n ≤ 4611686018427387904) :
    Calls Try.prog 60 #[.slice a n c, .int .i64 k0] w fun e w' => e = .returned (.int .i64 ((k0 + n : Nat) : Int)) ∧ Below w.heap.size w w' := by
  go_enter Try.func60, Try.ntmps60
  go_wp2
  go_loop [1, 5] (fun kk i => ∃ k : Nat, k ≤ n ∧ i = .int .i64 k ∧ kk = .int .i64 ((k0 + k : Nat) : Int)) (fun _ i => n - (intOf i).toNat)
  case atStart => exact ⟨0, Nat.zero_le _, rfl, rfl⟩
  case round =>
    obtain ⟨k, hk, rfl, rfl⟩ := hrel
    by_cases hlt : k < n
    · have hio := hr.idx und_is siz_is
      rw [marks_length] at hio
      have hcs := hr.cell k (by rw [marks_length]; exact hlt)
      rw [marks_get _ _ _ _ hlt, Option.getD_some] at hcs
      have hne : (((k0 : Int) + (k : Int)) != ((k0 : Int) + (k : Int))) = false := by simp
      go_wp2
      go_round
      case rel => exact ⟨k + 1, by omega, by go_num, by go_num⟩
      case measure => simp [intOf]; omega
    · obtain rfl : k = n := by omega
      go_wp2
      go_ret
      exact ⟨rfl, Below.refl _ _⟩

end Go.Proofs.Ytdpolaedfjljmaa

namespace Go.Proofs.Ytdpolaedfjljmaa
open Go.RowKit

set_option maxHeartbeats 400000 in
theorem indexFunci_any (a : Option Addr) (c : Nat) (xs : List Int) (w : World) (F : Nat) (caps : Array Value) (p : Int → Bool) (hF : ∀ (vs : Array Value) (w : World), (callFunc F vs).run Try.prog w = .ok (.enter F vs) w) (hr : Rd (Value.int .i64) w a c xs)
    (hclo : ∀ k (h : k < xs.length) wr, Below w.heap.size w wr → Calls Try.prog F (#[(Value.int .i64) xs[k]] ++ caps) wr fun e w' => e = .returned (.bool (p xs[k])) ∧ Below wr.heap.size wr w') :
    Calls Try.prog 158 #[.slice a xs.length c, .func (.func F) #[] caps] w fun e w' => e = .returned (.int .i64 (idxOf p xs)) ∧ Below w.heap.size w w' := by
  have hln := hr.len
  go_enter Try.func158, Try.ntmps158
  go_wp2
  go_loopw [5, 8] (fun _ i wr => ∃ k : Nat, k ≤ xs.length ∧ i = .int .i64 k ∧ (∀ x ∈ xs.take k, p x = false) ∧ Below w.heap.size w wr) (fun _ i _ => xs.length - (intOf i).toNat)
  case atStart => exact ⟨0, Nat.zero_le _, rfl, by simp, Below.refl _ _⟩
  case round =>
    obtain ⟨k, hk, rfl, hp, hb⟩ := hrel
    have HP : Hid (∀ x ∈ xs.take k, p x = false) := hp
    clear hp
    by_cases hlt : k < xs.length
    · have hr' := hr.below hb (Nat.le_refl _)
      have hix := hr'.idx und_is siz_is
      have hcx := hr'.cell k hlt
      have HC : Hid (∀ k (h : k < xs.length) wr, Below w.heap.size w wr → Calls Try.prog F (#[(Value.int .i64) xs[k]] ++ caps) wr fun e w' => e = .returned (.bool (p xs[k])) ∧ Below wr.heap.size wr w') := hclo
      clear hclo
      simp only [List.getElem?_eq_getElem hlt, Option.getD_some] at hcx
      go_wp2_with fail
      refine (HC.out k hlt wr hb).mono ?_
      rintro e w1 ⟨rfl, hb1⟩
      by_cases hpx : p xs[k] = true
      · have HX : Hid (p xs[k] = true) := hpx
        rw [hpx]
        clear hpx
        go_wp2
        go_ret
        refine ⟨ret_int ?_, hb.trans (hb1.mono hb.size)⟩
        rw [idxOf_here HX.out HP.out]
      · have hpx' : p xs[k] = false := by simpa using hpx
        have HX : Hid (p xs[k] = false) := hpx'
        rw [hpx']
        clear hpx hpx'
        go_wp2
        go_roundw
        case rel => exact ⟨k + 1, by omega, by go_num, snoc_none hlt HP.out HX.out, hb.trans (hb1.mono hb.size)⟩
        case measure => simp [intOf]; omega
    · obtain rfl : k = xs.length := by omega
      have HC : Hid (∀ k (h : k < xs.length) wr, Below w.heap.size w wr → Calls Try.prog F (#[(Value.int .i64) xs[k]] ++ caps) wr fun e w' => e = .returned (.bool (p xs[k])) ∧ Below wr.heap.size wr w') := hclo
      clear hclo
      go_wp2
      go_ret
      refine ⟨ret_int ?_, hb⟩
      rw [idxOf_none (by simpa using HP.out)]

set_option maxHeartbeats 400000 in
theorem containsFunci_any (a : Option Addr) (c : Nat) (xs : List Int) (w : World) (F : Nat) (caps : Array Value) (p : Int → Bool) (hF : ∀ (vs : Array Value) (w : World), (callFunc F vs).run Try.prog w = .ok (.enter F vs) w) (hr : Rd (Value.int .i64) w a c xs)
    (hclo : ∀ k (h : k < xs.length) wr, Below w.heap.size w wr → Calls Try.prog F (#[(Value.int .i64) xs[k]] ++ caps) wr fun e w' => e = .returned (.bool (p xs[k])) ∧ Below wr.heap.size wr w') :
    Calls Try.prog 125 #[.slice a xs.length c, .func (.func F) #[] caps] w fun e w' => e = .returned (.bool (xs.any p)) ∧ Below w.heap.size w w' := by
  have HC := Lib.hid (indexFunci_any a c xs w F caps p hF hr hclo)
  clear hclo
  go_enter Try.func125, Try.ntmps125
  go_wp2_with fail
  refine HC.out.mono ?_
  rintro e w1 ⟨rfl, hb1⟩
  have HB := Lib.hid (idxOf_any p xs)
  go_wp2
  go_ret
  exact ⟨ret_bool (by simpa using HB.out), hb1⟩

end Go.Proofs.Ytdpolaedfjljmaa

namespace Go.Proofs.Ytdpolaedfjljmaa
open Go.RowKit

def inR (n lo hi : Int) : Bool := decide (lo ≤ n ∧ n ≤ hi)
theorem inR_eq (n lo hi : Int) : inR n lo hi = true ↔ lo ≤ n ∧ n ≤ hi := by simp [inR]

theorem within_any (n lo hi : Int) (w : World) : Calls Try.prog 102 #[.int .i64 n, .int .i64 lo, .int .i64 hi] w fun e w' => e = .returned (.bool (inR n lo hi)) ∧ w = w' := by
  by_cases h1 : lo ≤ n
  · go_enter Try.func102, Try.ntmps102
    go_wp2
    go_ret
    exact ⟨ret_bool (by simp [inR]; omega), rfl⟩
  · have h2 : decide (lo ≤ n) = false := by simpa using h1
    go_enter Try.func102, Try.ntmps102
    go_wp2
    go_ret
    exact ⟨ret_bool (by simp [inR]; omega), rfl⟩

theorem l00In_any (n lo hi : Int) (w : World) : Calls Try.prog 90 #[.int .i64 n, .int .i64 lo, .int .i64 hi] w fun e w' => e = .returned (.bool (inR n lo hi)) ∧ w = w' := by
  by_cases h1 : lo ≤ n
  · go_enter Try.func90, Try.ntmps90
    go_wp2
    go_ret
    exact ⟨ret_bool (by simp [inR]; omega), rfl⟩
  · have h2 : decide (lo ≤ n) = false := by simpa using h1
    go_enter Try.func90, Try.ntmps90
    go_wp2
    go_ret
    exact ⟨ret_bool (by simp [inR]; omega), rfl⟩

theorem areWithin1_any (x lo hi : Int) (p1 p2 : Addr) (w : World) (h1 : w.cell? p1 = some (.int .i64 lo)) (h2 : w.cell? p2 = some (.int .i64 hi)) :
    Calls Try.prog 157 #[.int .i64 x, .pointer (some p1), .pointer (some p2)] w fun e w' => e = .returned (.bool (!inR x lo hi)) ∧ w = w' := by
  go_enter Try.func157, Try.ntmps157
  go_wp2_with (go_at_call 102; refine (within_any _ _ _ _).mono ?_; rintro e w1 ⟨rfl, rfl⟩)
  go_ret
  exact ⟨rfl, rfl⟩

theorem call_areWithin1 (vs : Array Value) (w : World) : (callFunc 157 vs).run Try.prog w = .ok (.enter 157 vs) w := by kernel_rfl

theorem areWithin_any (a : Option Addr) (c : Nat) (xs : List Int) (lo hi : Int) (w : World) (hr : Rd (Value.int .i64) w a c xs) :
    Calls Try.prog 124 #[.slice a xs.length c, .int .i64 lo, .int .i64 hi] w fun e w' => e = .returned (.bool (xs.all (fun x => inR x lo hi))) ∧ Below w.heap.size w w' := by
  have hb : Below w.heap.size w ((w.alloc (.cells #[.int .i64 lo] 2)).alloc (.cells #[.int .i64 hi] 2)) := ((Below.refl _ _).alloc (Nat.le_refl _) _).alloc (by simp) _
  have hc := containsFunci_any a c xs ((w.alloc (.cells #[.int .i64 lo] 2)).alloc (.cells #[.int .i64 hi] 2)) 157 #[.pointer (some ⟨w.heap.size, 0, none⟩), .pointer (some ⟨w.heap.size + 1, 0, none⟩)] (fun x => !inR x lo hi) call_areWithin1 (hr.below hb (Nat.le_refl _)) (by
    intro k h wr hbr
    refine (areWithin1_any _ lo hi _ _ wr ?_ ?_).mono ?_
    · rw [hbr.cell (by simp; omega)]; rw [World.cell?_alloc_past _ _ _ (by simp), World.cell?_alloc_at _ _ _ _ rfl]; rfl
    · rw [hbr.cell (by simp)]; rw [World.cell?_alloc_at _ _ _ _ (by simp)]; rfl
    · rintro e w1 ⟨rfl, rfl⟩; exact ⟨rfl, Below.refl _ _⟩)
  have HC := Lib.hid hc
  have HB := Lib.hid hb
  clear hc hb
  go_enter Try.func124, Try.ntmps124
  go_wp2_with fail
  refine HC.out.mono ?_
  rintro e w1 ⟨rfl, hb1⟩
  go_wp2
  go_ret
  refine ⟨ret_bool ?_, HB.out.trans (hb1.mono (by simp; omega))⟩
  rw [Bool.eq_iff_iff]; simp [List.all_eq_true, List.any_eq_true]

theorem rd_idxAt {α : Type} [Inhabited α] {f : α → Value} {w : World} {a : Option Addr} {c : Nat} {xs : List α} (h : Rd f w a c xs) {P : Program} {T : TypeId} (hT : P.underlying T = some (.slice (P.elem T))) (hs : ∀ w, (sizeOf (P.elem T)).run P w = .ok 1 w) (k : Nat) (hk : k < xs.length) (i : Int) (hi : i = (k : Int)) :
    ∀ w' : World, (Instr.indexAt T (.slice a xs.length c) (.int .i64 i)).run P w' = .ok (.pointer (some (elt a k))) w' := by
  subst hi; exact fun w' => h.idx hT hs w' k hk

end Go.Proofs.Ytdpolaedfjljmaa

namespace Go.Proofs.Ytdpolaedfjljmaa
open Go.RowKit

/-- A text's byte. -/
def byt (s : ByteArray) (k : Nat) : Nat := (s.get! k).toNat
theorem byt_eq {s : ByteArray} {k : Nat} (h : k < s.size) : (s[k]'h).toNat = byt s k := by
  unfold byt
  cases s with
  | mk d =>
    have hd : k < d.size := h
    simp [ByteArray.get!, hd]
    rfl
theorem byt_lt (s : ByteArray) (k : Nat) : byt s k < 256 := UInt8.toNat_lt _

def lowB (s : ByteArray) (k : Nat) : Bool := decide (97 ≤ byt s k) && decide (byt s k ≤ 122)
def nameB (s : ByteArray) : Bool := decide (1 ≤ s.size) && decide (s.size ≤ 8) && (List.range s.size).all (lowB s)
theorem nameB_no {s : ByteArray} {k : Nat} (hk : k < s.size) (h : lowB s k = false) : nameB s = false := by
  unfold nameB
  have : (List.range s.size).all (lowB s) = false := by rw [List.all_eq_false]; exact ⟨k, List.mem_range.2 hk, by rw [h]; simp⟩
  rw [this]; simp
theorem nameB_yes {s : ByteArray} (h : ∀ k, k < s.size → lowB s k = true) : nameB s = (decide (1 ≤ s.size) && decide (s.size ≤ 8)) := by
  unfold nameB
  have : (List.range s.size).all (lowB s) = true := by rw [List.all_eq_true]; intro k hk; exact h k (List.mem_range.1 hk)
  rw [this]; simp

set_option maxHeartbeats 1000000 in
theorem isName_any {s : ByteArray} {w : World} (hs : s.size ≤ 9223372036854775807) : Calls Try.prog 70 #[.string s] w fun e w' => e = .returned (.bool (nameB s)) ∧ w = w' := by
  obtain ⟨b, hb⟩ : ∃ b, nameB s = b := ⟨_, rfl⟩
  have HB := Lib.hid hb
  rw [hb]
  clear hb
  go_enter Try.func70, Try.ntmps70
  go_wp2
  go_loopw [3, 6] (fun _ vi wr => ∃ k : Nat, vi = .int .i64 k ∧ k ≤ s.size ∧ Hid (∀ j, j < k → lowB s j = true) ∧ wr = w) (fun _ vi _ => s.size - (intOf vi).toNat)
  case atStart => exact ⟨0, rfl, Nat.zero_le _, Lib.hid (fun j h => by omega), rfl⟩
  case round =>
    obtain ⟨k, rfl, hk, HP, rfl⟩ := hrel
    by_cases hlt : k < s.size
    · have hltz : (k : Int) < (s.size : Int) := by omega
      have hbe := byt_eq hlt
      have ewk : IntKind.i64.wrap ((k : Int) + 1) = (k : Int) + 1 := IntWalk.i64_in _ (by omega)
      have hlw : lowB s k = (decide (97 ≤ byt s k) && decide (byt s k ≤ 122)) := rfl
      have HLW := Lib.hid hlw
      clear hlw
      obtain ⟨x, hx⟩ : ∃ x, byt s k = x := ⟨_, rfl⟩
      rw [hx] at hbe HLW
      clear hx
      by_cases h1 : x < 97
      · have hd1 : decide ((x : Int) < 97) = true := decide_eq_true (by omega)
        have HE : Hid (b = false) := Lib.hid (by rw [← HB.out]; exact nameB_no hlt (by rw [HLW.out, decide_eq_false (by omega)]; rfl))
        go_wp2
        go_ret
        exact ⟨ret_bool HE.out.symm, rfl⟩
      · have hd1 : decide ((x : Int) < 97) = false := decide_eq_false (by omega)
        by_cases h2 : 122 < x
        · have hd2 : decide ((122 : Int) < (x : Int)) = true := decide_eq_true (by omega)
          have HE : Hid (b = false) := Lib.hid (by rw [← HB.out]; exact nameB_no hlt (by rw [HLW.out, decide_eq_false (show ¬ x ≤ 122 by omega), Bool.and_false]))
          go_wp2
          go_ret
          exact ⟨ret_bool HE.out.symm, rfl⟩
        · have hd2 : decide ((122 : Int) < (x : Int)) = false := decide_eq_false (by omega)
          have HP1 : Hid (∀ j, j < k + 1 → lowB s j = true) := Lib.hid (fun j h => by
            by_cases e : j = k
            · rw [e, HLW.out, decide_eq_true (by omega), decide_eq_true (by omega)]; rfl
            · exact HP.out j (by omega))
          go_wp2
          go_roundw
          case rel => exact ⟨k + 1, by go_num, by omega, HP1, trivial⟩
          case measure => simp [intOf]; omega
    · obtain rfl : k = s.size := by omega
      have hltz : ¬ (s.size : Int) < (s.size : Int) := by omega
      have HE : Hid (b = (decide (1 ≤ s.size) && decide (s.size ≤ 8))) := Lib.hid (by rw [← HB.out]; exact nameB_yes HP.out)
      by_cases h1 : 1 ≤ s.size
      · have hd1 : decide ((1 : Int) ≤ (s.size : Int)) = true := decide_eq_true (by omega)
        have hd2 : decide ((s.size : Int) ≤ 8) = decide (s.size ≤ 8) := by by_cases h : s.size ≤ 8 <;> simp [h] <;> omega
        have hd3 : decide (1 ≤ s.size) = true := decide_eq_true h1
        go_wp2
        go_ret
        exact ⟨ret_bool (by rw [HE.out, hd3]; simp), rfl⟩
      · have hd1 : decide ((1 : Int) ≤ (s.size : Int)) = false := decide_eq_false (by omega)
        have hd3 : decide (1 ≤ s.size) = false := decide_eq_false h1
        go_wp2
        go_ret
        exact ⟨ret_bool (by rw [HE.out, hd3]; rfl), rfl⟩

set_option maxHeartbeats 1000000 in
theorem l07Name_any {s : ByteArray} {w : World} (hs : s.size ≤ 9223372036854775807) : Calls Try.prog 113 #[.string s] w fun e w' => e = .returned (.bool (nameB s)) ∧ w = w' := by
  obtain ⟨b, hb⟩ : ∃ b, nameB s = b := ⟨_, rfl⟩
  have HB := Lib.hid hb
  rw [hb]
  clear hb
  go_enter Try.func113, Try.ntmps113
  go_wp2
  go_loopw [3] (fun vi wr => ∃ k : Nat, vi = .int .i64 k ∧ k ≤ s.size ∧ Hid (∀ j, j < k → lowB s j = true) ∧ wr = w) (fun vi _ => s.size - (intOf vi).toNat)
  case atStart => exact ⟨0, rfl, Nat.zero_le _, Lib.hid (fun j h => by omega), rfl⟩
  case round =>
    obtain ⟨k, rfl, hk, HP, rfl⟩ := hrel
    by_cases hlt : k < s.size
    · have hltz : (k : Int) < (s.size : Int) := by omega
      have hbe := byt_eq hlt
      have ewk : IntKind.i64.wrap ((k : Int) + 1) = (k : Int) + 1 := IntWalk.i64_in _ (by omega)
      have hlw : lowB s k = (decide (97 ≤ byt s k) && decide (byt s k ≤ 122)) := rfl
      have HLW := Lib.hid hlw
      clear hlw
      obtain ⟨x, hx⟩ : ∃ x, byt s k = x := ⟨_, rfl⟩
      rw [hx] at hbe HLW
      clear hx
      by_cases h1 : x < 97
      · have hd1 : decide ((x : Int) < 97) = true := decide_eq_true (by omega)
        have HE : Hid (b = false) := Lib.hid (by rw [← HB.out]; exact nameB_no hlt (by rw [HLW.out, decide_eq_false (by omega)]; rfl))
        go_wp2
        go_ret
        exact ⟨ret_bool HE.out.symm, rfl⟩
      · have hd1 : decide ((x : Int) < 97) = false := decide_eq_false (by omega)
        by_cases h2 : 122 < x
        · have hd2 : decide ((122 : Int) < (x : Int)) = true := decide_eq_true (by omega)
          have HE : Hid (b = false) := Lib.hid (by rw [← HB.out]; exact nameB_no hlt (by rw [HLW.out, decide_eq_false (show ¬ x ≤ 122 by omega), Bool.and_false]))
          go_wp2
          go_ret
          exact ⟨ret_bool HE.out.symm, rfl⟩
        · have hd2 : decide ((122 : Int) < (x : Int)) = false := decide_eq_false (by omega)
          have HP1 : Hid (∀ j, j < k + 1 → lowB s j = true) := Lib.hid (fun j h => by
            by_cases e : j = k
            · rw [e, HLW.out, decide_eq_true (by omega), decide_eq_true (by omega)]; rfl
            · exact HP.out j (by omega))
          go_wp2
          go_roundw
          case rel => exact ⟨k + 1, by go_num, by omega, HP1, trivial⟩
          case measure => simp [intOf]; omega
    · obtain rfl : k = s.size := by omega
      have hltz : ¬ (s.size : Int) < (s.size : Int) := by omega
      have HE : Hid (b = (decide (1 ≤ s.size) && decide (s.size ≤ 8))) := Lib.hid (by rw [← HB.out]; exact nameB_yes HP.out)
      by_cases h1 : 1 ≤ s.size
      · have hd1 : decide ((1 : Int) ≤ (s.size : Int)) = true := decide_eq_true (by omega)
        have hd2 : decide ((s.size : Int) ≤ 8) = decide (s.size ≤ 8) := by by_cases h : s.size ≤ 8 <;> simp [h] <;> omega
        have hd3 : decide (1 ≤ s.size) = true := decide_eq_true h1
        go_wp2
        go_ret
        exact ⟨ret_bool (by rw [HE.out, hd3]; simp), rfl⟩
      · have hd1 : decide ((1 : Int) ≤ (s.size : Int)) = false := decide_eq_false (by omega)
        have hd3 : decide (1 ≤ s.size) = false := decide_eq_false h1
        go_wp2
        go_ret
        exact ⟨ret_bool (by rw [HE.out, hd3]; rfl), rfl⟩

end Go.Proofs.Ytdpolaedfjljmaa

namespace Go.Proofs.Ytdpolaedfjljmaa
open Go.RowKit

theorem mod3 (k0 k : Nat) : (((k0 : Int) + (k : Int)) % 3 == 0) = decide ((k0 + k) % 3 = 0) := by
  rw [Bool.eq_iff_iff]; simp; omega

end Go.Proofs.Ytdpolaedfjljmaa

namespace Go.Proofs.Ytdpolaedfjljmaa
open Go.RowKit

/-- A slice's value: its address, its length, its capacity. -/
abbrev Hd := Option Addr × Nat × Nat
def hdV (h : Hd) : Value := .slice h.1 h.2.1 h.2.2
theorem hdV_one (h : Hd) : (hdV h).oneCell' = true := rfl

/-- A slice of slices reads as a list of lists. -/
structure Rd2 {α : Type} [Inhabited α] (f : α → Value) (w : World) (a : Option Addr) (c : Nat) (hs : List Hd) (xss : List (List α)) : Prop where
  top : Rd hdV w a c hs
  len : hs.length = xss.length
  row : ∀ i, i < xss.length → ∃ (hd : Hd) (xs : List α), hs[i]? = some hd ∧ xss[i]? = some xs ∧ hd.2.1 = xs.length ∧ Rd f w hd.1 hd.2.2 xs

section
variable {α : Type} [Inhabited α] {f : α → Value} {w w' : World} {a : Option Addr} {c : Nat} {hs : List Hd} {xss : List (List α)}
theorem Rd2.below (h : Rd2 f w a c hs xss) {B : Nat} (hb : Below B w w') (hB : w.heap.size ≤ B) : Rd2 f w' a c hs xss :=
  ⟨h.top.below hb hB, h.len, fun i hi => let ⟨hd, xs, h1, h2, h3, h4⟩ := h.row i hi; ⟨hd, xs, h1, h2, h3, h4.below hb hB⟩⟩
/-- Row i. -/
theorem Rd2.at (h : Rd2 f w a c hs xss) {i : Nat} (hi : i < xss.length) : ∃ a2 c2, w.cell? (elt a i) = some (.slice a2 xss[i].length c2) ∧ Rd f w a2 c2 xss[i] := by
  obtain ⟨hd, xs, h1, h2, h3, h4⟩ := h.row i hi
  have hx : xss[i] = xs := by
    rw [List.getElem?_eq_getElem hi] at h2; simpa using h2
  rw [hx]
  refine ⟨hd.1, hd.2.2, ?_, h4⟩
  rw [h.top.cell i (by rw [h.len]; exact hi), h1, Option.getD_some, ← h3]
  rfl
theorem Rd2.lens (h : Rd2 f w a c hs xss) : xss.length ≤ 9223372036854775807 := by rw [← h.len]; exact h.top.len
end

/-- A slice of slices that a call has made: all in rows of their own. -/
structure Own2 {α : Type} (f : α → Value) (e ee : TypeId) (w : World) (base : Nat) (a : Option Addr) (c : Nat) (hs : List Hd) (xss : List (List α)) : Prop where
  top : Own hdV ee w base a c hs
  len : hs.length = xss.length
  row : ∀ i, i < xss.length → ∃ (hd : Hd) (xs : List α), hs[i]? = some hd ∧ xss[i]? = some xs ∧ hd.2.1 = xs.length ∧ Own f e w base hd.1 hd.2.2 xs ∧ ∀ p q : Addr, a = some p → hd.1 = some q → p.block ≠ q.block
  apart : ∀ (i j : Nat) (hd hd' : Hd), i ≠ j → hs[i]? = some hd → hs[j]? = some hd' → ∀ p q : Addr, hd.1 = some p → hd'.1 = some q → p.block ≠ q.block

section
variable {α : Type} {f : α → Value} {e ee : TypeId} {w w' : World} {base : Nat} {a : Option Addr} {c : Nat} {hs : List Hd} {xss : List (List α)}
theorem Own2.rd [Inhabited α] (h : Own2 f e ee w base a c hs xss) : Rd2 f w a c hs xss :=
  ⟨h.top.rd, h.len, fun i hi => let ⟨hd, xs, h1, h2, h3, h4, _⟩ := h.row i hi; ⟨hd, xs, h1, h2, h3, h4.rd⟩⟩
theorem Own2.below (h : Own2 f e ee w base a c hs xss) {B : Nat} (hb : Below B w w') (hB : w.heap.size ≤ B) : Own2 f e ee w' base a c hs xss :=
  ⟨h.top.below hb hB, h.len, fun i hi => let ⟨hd, xs, h1, h2, h3, h4, h5⟩ := h.row i hi; ⟨hd, xs, h1, h2, h3, h4.below hb hB, h5⟩, h.apart⟩
theorem Own2.mono (h : Own2 f e ee w base a c hs xss) {b' : Nat} (hb : b' ≤ base) : Own2 f e ee w b' a c hs xss :=
  ⟨h.top.mono hb, h.len, fun i hi => let ⟨hd, xs, h1, h2, h3, h4, h5⟩ := h.row i hi; ⟨hd, xs, h1, h2, h3, h4.mono hb, h5⟩, h.apart⟩
end

/-- A slice of slices in new memory. -/
def RetSS {α : Type} (f : α → Value) (e ee : TypeId) (w : World) (xss : List (List α)) (en : Ending) (w' : World) : Prop :=
  ∃ a c hs, en = .returned (.slice a xss.length c) ∧ Own2 f e ee w' w.heap.size a c hs xss ∧ Below w.heap.size w w'

/-- Only blocks from lo to hi have turned. -/
structure Turned (lo hi : Nat) (w w' : World) : Prop where
  os : w'.os = w.os
  tape : w'.tape = w.tape
  output : w'.output = w.output
  size : w.heap.size ≤ w'.heap.size
  block : ∀ k, k < w.heap.size → (k < lo ∨ hi ≤ k) → w'.heap[k]? = w.heap[k]?
theorem Turned.refl (lo hi : Nat) (w : World) : Turned lo hi w w := ⟨rfl, rfl, rfl, Nat.le_refl _, fun _ _ _ => rfl⟩
theorem Turned.trans {lo hi : Nat} {w w1 w2 : World} (h : Turned lo hi w w1) (h2 : Turned lo hi w1 w2) : Turned lo hi w w2 :=
  ⟨h2.os.trans h.os, h2.tape.trans h.tape, h2.output.trans h.output, Nat.le_trans h.size h2.size, fun k hk hr => (h2.block k (Nat.lt_of_lt_of_le hk h.size) hr).trans (h.block k hk hr)⟩
theorem Turned.of_grown {lo hi : Nat} {w w' : World} {a : Option Addr} (h : w.grownBy w' (a.map (·.block))) (ha : ∀ p, a = some p → lo ≤ p.block ∧ p.block < hi) : Turned lo hi w w' :=
  ⟨h.os, h.tape, h.output, h.size, fun k hk hr => h.block k hk (by
    cases a with
    | none => simp
    | some p => have := ha p rfl; simp; omega)⟩
theorem Turned.below {lo hi : Nat} {w w' : World} (h : Turned lo hi w w') {B : Nat} (hB : B ≤ lo) (hs : B ≤ w.heap.size) : Below B w w' :=
  ⟨h.os, h.tape, h.output, h.size, fun k hk => h.block k (by omega) (by omega)⟩
theorem Own.heap {α : Type} {f : α → Value} {e : TypeId} {w w' : World} {base : Nat} {a : Option Addr} {c : Nat} {xs : List α} (h : Own f e w base a c xs) (hk : ∀ p, a = some p → w'.heap[p.block]? = w.heap[p.block]?) : Own f e w' base a c xs := by
  refine ⟨h.1, ?_⟩
  rcases h.2 with h2 | ⟨g, cap, cur, h1, h2, h3, h4⟩
  · exact .inl h2
  · refine .inr ⟨g, cap, cur, h1, h2, ?_, h4⟩
    simp only [Value.slice.injEq] at h1
    rw [hk _ h1.1]; exact h3
theorem Own.turned {α : Type} {f : α → Value} {e : TypeId} {w w' : World} {base : Nat} {a : Option Addr} {c : Nat} {xs : List α} (h : Own f e w base a c xs) {lo hi : Nat} (ht : Turned lo hi w w') (hd : ∀ p, a = some p → p.block < lo ∨ hi ≤ p.block) : Own f e w' base a c xs :=
  h.heap fun p hp => ht.block p.block (h.blk p hp).2 (hd p hp)

/-- How many elements there are. -/
def size2 {α : Type} (xss : List (List α)) : Nat := xss.length + (xss.map List.length).foldl (· + ·) 0
theorem foldl_add (l : List Nat) (z : Nat) : l.foldl (· + ·) z = z + l.foldl (· + ·) 0 := by
  induction l generalizing z with
  | nil => simp
  | cons x l ih => simp only [List.foldl_cons]; rw [ih (z + x), ih (0 + x)]; omega
theorem sum_take_succ {α : Type} {xss : List (List α)} {k : Nat} (h : k < xss.length) : ((xss.take (k + 1)).map List.length).foldl (· + ·) 0 = ((xss.take k).map List.length).foldl (· + ·) 0 + xss[k].length := by
  rw [List.take_add_one, List.getElem?_eq_getElem h, List.map_append, List.foldl_append]; rfl
theorem sum_take_le {α : Type} (xss : List (List α)) (k : Nat) : ((xss.take k).map List.length).foldl (· + ·) 0 ≤ (xss.map List.length).foldl (· + ·) 0 := by
  have h : xss.map List.length = (xss.take k).map List.length ++ (xss.drop k).map List.length := by rw [← List.map_append, List.take_append_drop]
  rw [h, List.foldl_append, foldl_add _ (List.foldl _ _ _)]
  omega
theorem size2_row {α : Type} {xss : List (List α)} {k : Nat} (h : k < xss.length) {n : Nat} (hn : size2 xss ≤ n) : xss[k].length ≤ n := by
  have h1 := sum_take_le xss (k + 1)
  rw [sum_take_succ h] at h1
  unfold size2 at hn
  omega

/-- The rows that have been made up to k. -/
structure Mk2 {α : Type} (f : α → Value) (e ee : TypeId) (w wr : World) (n : Nat) (hs : List Hd) (xss : List (List α)) (k : Nat) : Prop where
  top : Own hdV ee wr w.heap.size (some ⟨w.heap.size, 0, none⟩) n (hs ++ List.replicate (n - k) ((none, 0, 0) : Hd))
  len : hs.length = k
  row : ∀ i, i < k → ∃ (hd : Hd) (xs : List α), hs[i]? = some hd ∧ xss[i]? = some xs ∧ hd.2.1 = xs.length ∧ Own f e wr (w.heap.size + 1) hd.1 hd.2.2 xs
  apart : ∀ (i j : Nat) (hd hd' : Hd), i ≠ j → hs[i]? = some hd → hs[j]? = some hd' → ∀ p q : Addr, hd.1 = some p → hd'.1 = some q → p.block ≠ q.block
  B : Below w.heap.size w wr
theorem fill_set {hs : List Hd} {n k : Nat} (hk : k < n) (hl : hs.length = k) (h : Hd) : (hs ++ List.replicate (n - k) ((none, 0, 0) : Hd)).set k h = (hs ++ [h]) ++ List.replicate (n - (k + 1)) ((none, 0, 0) : Hd) := by
  subst hl
  rw [List.set_append_right _ _ (Nat.le_refl _), Nat.sub_self, show n - hs.length = (n - (hs.length + 1)) + 1 by omega, List.replicate_succ, List.set_cons_zero]
  simp

theorem Mk2.step {α : Type} {f : α → Value} {e ee : TypeId} {w wr w1 : World} {n : Nat} {hs : List Hd} {xss : List (List α)} {k : Nat} (h : Mk2 f e ee w wr n hs xss k) (hk : k < n) {a2 : Option Addr} {c2 : Nat} {xs : List α} (hx : xss[k]? = some xs)
    (hb : Below wr.heap.size wr w1) (ho : Own f e w1 wr.heap.size a2 c2 xs) :
    Mk2 f e ee w (w1.setCell (elt (some ⟨w.heap.size, 0, none⟩) k) (hdV (a2, xs.length, c2))) n (hs ++ [(a2, xs.length, c2)]) xss (k + 1) := by
  have hlen : (hs ++ List.replicate (n - k) ((none, 0, 0) : Hd)).length = n := by simp [h.len]; omega
  have htb := h.top.blk ⟨w.heap.size, 0, none⟩ rfl
  have hset := (h.top.below hb (Nat.le_refl _)).set k (by rw [hlen]; exact hk) (a2, xs.length, c2)
  have hblk : (elt (some ⟨w.heap.size, 0, none⟩) k).block = w.heap.size := rfl
  refine ⟨hset.1.cast (fill_set hk h.len _), by simp [h.len], ?_, ?_, (h.B.trans (hb.mono h.B.size)).setCell (by rw [hblk]; exact Nat.le_refl _) _⟩
  · intro i hi
    by_cases hik : i = k
    · subst hik
      refine ⟨(a2, xs.length, c2), xs, ?_, hx, rfl, (ho.mono (by omega)).setFar _ _ (by rw [hblk]; omega)⟩
      rw [List.getElem?_append_right (by rw [h.len]; exact Nat.le_refl _)]
      simp [h.len]
    · obtain ⟨hd, ys, h1, h2, h3, h4⟩ := h.row i (by omega)
      refine ⟨hd, ys, ?_, h2, h3, (h4.below hb (Nat.le_refl _)).setFar _ _ (by rw [hblk]; omega)⟩
      rw [List.getElem?_append_left (by rw [h.len]; omega)]; exact h1
  · have old : ∀ i hd, i < k → (hs ++ [((a2, xs.length, c2) : Hd)])[i]? = some hd → hs[i]? = some hd := fun i hd hi hh => by
      rwa [List.getElem?_append_left (by rw [h.len]; exact hi)] at hh
    have new : ∀ hd, (hs ++ [((a2, xs.length, c2) : Hd)])[k]? = some hd → hd = (a2, xs.length, c2) := fun hd hh => by
      rw [List.getElem?_append_right (by rw [h.len]; exact Nat.le_refl _)] at hh
      simp [h.len] at hh
      exact hh.symm
    have blkO : ∀ i hd p, i < k → hs[i]? = some hd → hd.1 = some p → p.block < wr.heap.size := fun i hd p hi hh hp => by
      obtain ⟨hd2, ys, h1, _, _, h4⟩ := h.row i hi
      rw [hh] at h1
      have : hd = hd2 := by simpa using h1
      subst this
      exact (h4.blk p hp).2
    have lt : ∀ i hd, (hs ++ [((a2, xs.length, c2) : Hd)])[i]? = some hd → i ≤ k := fun i hd hh => by
      have := (List.getElem?_eq_some_iff.1 hh).1
      simp [h.len] at this
      omega
    intro i j hd hd' hij hi hj p q hp hq
    have li := lt i hd hi
    have lj := lt j hd' hj
    by_cases hik : i = k
    · subst hik
      have e1 := new hd hi
      subst e1
      have h5 := blkO j hd' q (by omega) (old j hd' (by omega) hj) hq
      have h6 := ho.blk p hp
      omega
    · by_cases hjk : j = k
      · subst hjk
        have e1 := new hd' hj
        subst e1
        have h5 := blkO i hd p (by omega) (old i hd (by omega) hi) hp
        have h6 := ho.blk q hq
        omega
      · exact h.apart i j hd hd' hij (old i hd (by omega) hi) (old j hd' (by omega) hj) p q hp hq

theorem Mk2.done {α : Type} {f : α → Value} {e ee : TypeId} {w wr : World} {n : Nat} {hs : List Hd} {xss : List (List α)} (h : Mk2 f e ee w wr n hs xss n) (hn : xss.length = n) : Own2 f e ee wr w.heap.size (some ⟨w.heap.size, 0, none⟩) n hs xss := by
  subst hn
  refine ⟨h.top.cast (by simp), h.len, fun i hi => ?_, h.apart⟩
  obtain ⟨hd, xs, h1, h2, h3, h4⟩ := h.row i hi
  refine ⟨hd, xs, h1, h2, h3, h4.mono (by omega), fun p q hp hq => ?_⟩
  have h5 := h4.blk q hq
  simp at hp
  subst hp
  simp
  omega

/-- A row of a slice of slices has turned, the others are as they were. -/
theorem Own2.turned {α : Type} {f : α → Value} {e ee : TypeId} {w w' : World} {base : Nat} {a : Option Addr} {c : Nat} {hs : List Hd} {xss : List (List α)} (h : Own2 f e ee w base a c hs xss) {k : Nat} {hd : Hd} (hk : hs[k]? = some hd) {ys : List α}
    (hg : w.grownBy w' (hd.1.map (·.block))) (ho : Own f e w' base hd.1 hd.2.2 ys) (hl : hd.2.1 = ys.length) : Own2 f e ee w' base a c hs (xss.set k ys) := by
  have hkl : k < hs.length := (List.getElem?_eq_some_iff.1 hk).1
  refine ⟨?_, by rw [List.length_set]; exact h.len, fun i hi => ?_, h.apart⟩
  · refine h.top.kept hg ?_
    intro g hgr p hp
    obtain ⟨hd2, xs, h1, _, _, _, h5⟩ := h.row k (by rw [← h.len]; exact hkl)
    rw [hk] at h1
    have : hd = hd2 := by simpa using h1
    subst this
    cases hd1 : hd.1 with
    | none => rw [hd1] at hgr; simp at hgr
    | some q => rw [hd1] at hgr; simp at hgr; have := h5 p q hp hd1; omega
  · rw [List.length_set] at hi
    obtain ⟨hd2, xs, h1, h2, h3, h4, h5⟩ := h.row i hi
    by_cases hik : i = k
    · subst hik
      rw [hk] at h1
      have : hd = hd2 := by simpa using h1
      subst this
      exact ⟨hd, ys, hk, by simp [hi], hl, ho, h5⟩
    · refine ⟨hd2, xs, h1, by rw [List.getElem?_set_ne (by omega)]; exact h2, h3, h4.kept hg ?_, h5⟩
      intro g hgr p hp
      cases hd1 : hd.1 with
      | none => rw [hd1] at hgr; simp at hgr
      | some q => rw [hd1] at hgr; simp at hgr; have := h.apart i k hd2 hd hik h1 hk p q hp hd1; omega

theorem Own2.blks {α : Type} {f : α → Value} {e ee : TypeId} {w : World} {base : Nat} {a : Option Addr} {c : Nat} {hs : List Hd} {xss : List (List α)} (h : Own2 f e ee w base a c hs xss) (i : Nat) (hd : Hd) (p : Addr) (hi : hs[i]? = some hd) (hp : hd.1 = some p) : p.block < w.heap.size := by
  have hl : i < xss.length := by rw [← h.len]; exact (List.getElem?_eq_some_iff.1 hi).1
  obtain ⟨hd2, xs, h1, _, _, h4, _⟩ := h.row i hl
  rw [hi] at h1
  have : hd = hd2 := by simpa using h1
  subst this
  exact (h4.blk p hp).2

/-- Either the sizes are small enough, or the answer is -1. -/
def SzOk (n : Nat) (e : Ending) : Prop := e = .returned (.int .i64 (-1)) ∨ (n ≤ 1048576 ∧ ∃ r : Int, 0 ≤ r ∧ e = .returned (.int .i64 r))

/-- The world behind the marks of all rows. -/
def RetMM (lo hi : Nat) (w : World) (en : Ending) (w' : World) : Prop := ∃ k : Int, 0 ≤ k ∧ k ≤ 4194304 ∧ en = .returned (.int .i64 k) ∧ Turned lo hi w w'

end Go.Proofs.Ytdpolaedfjljmaa

namespace Go.Proofs.Ytdpolaedfjljmaa
open Go.RowKit

theorem grown_of_alloc (w : World) (o : Obj) (row : Option Nat) : w.grownBy (w.alloc o) row :=
  have hb : Below w.heap.size w (w.alloc o) := (Below.refl _ _).alloc (Nat.le_refl _) o
  ⟨hb.os, hb.tape, hb.output, hb.size, fun k hk _ => hb.block k hk⟩
theorem Turned.alloc {lo hi : Nat} {w w' : World} (h : Turned lo hi w w') (o : Obj) : Turned lo hi w (w'.alloc o) :=
  h.trans (Turned.of_grown (a := none) (grown_of_alloc _ _ _) (by simp))
theorem Blk.turned {w w' : World} {k : Nat} {cs : Array Value} {T : TypeId} (h : Blk w k cs T) {lo hi : Nat} (ht : Turned lo hi w w') (hk : k < lo ∨ hi ≤ k) : Blk w' k cs T := by
  have := h.lt
  unfold Blk at *
  rw [ht.block k this hk]; exact h
abbrev boolM : Nat → Bool := fun k => decide (k % 3 = 0)
abbrev intM : Nat → Int := fun k => (k : Int)
theorem Own.off {α : Type} {f : α → Value} {e : TypeId} {w : World} {base : Nat} {a : Option Addr} {c : Nat} {xs : List α} (h : Own f e w base a c xs) {k : Nat} (hk : w.heap.size ≤ k) : some k ≠ a.map (·.block) := by
  cases ha : a with
  | none => simp
  | some p => have := h.blk p ha; simp; omega

end Go.Proofs.Ytdpolaedfjljmaa

namespace Go.Proofs.Ytdpolaedfjljmaa
open Go.RowKit

end Go.Proofs.Ytdpolaedfjljmaa

namespace Go.Proofs.Ytdpolaedfjljmaa
open Go.RowKit

theorem und_ffs : Try.prog.underlying 59 = some (.slice (Try.prog.elem 59)) := by kernel_rfl
theorem siz_ffs (w : World) : (sizeOf (Try.prog.elem 59)).run Try.prog w = .ok 1 w := by kernel_rfl
theorem und_ffse : Try.prog.underlying 59 = some (.slice 61) := by kernel_rfl
theorem info_ff : (Try.prog.info? 61).map (fun i => (i.zero, i.size, i.bytes)) = some (some (hdV (none, 0, 0)), 1, 24) := by kernel_rfl

end Go.Proofs.Ytdpolaedfjljmaa

namespace Go.Proofs.Ytdpolaedfjljmaa
open Go.RowKit

set_option maxHeartbeats 400000 in
theorem indexFuncff_any (a : Option Addr) (c : Nat) (xs : List Hd) (ps : List Bool) (w : World) (F : Nat) (caps : Array Value) (hF : ∀ (vs : Array Value) (w : World), (callFunc F vs).run Try.prog w = .ok (.enter F vs) w) (hl : ps.length = xs.length) (hr : Rd hdV w a c xs)
    (hclo : ∀ k (h : k < ps.length) wr, Below w.heap.size w wr → Calls Try.prog F (#[hdV (xs[k]?.getD default)] ++ caps) wr fun e w' => e = .returned (.bool ps[k]) ∧ Below wr.heap.size wr w') :
    Calls Try.prog 138 #[.slice a ps.length c, .func (.func F) #[] caps] w fun e w' => e = .returned (.int .i64 (idxOf id ps)) ∧ Below w.heap.size w w' := by
  have hln := hr.len
  rw [← hl] at hln
  have HL := Lib.hid hl
  clear hl
  go_enter Try.func138, Try.ntmps138
  go_wp2
  go_loopw [5, 8] (fun _ i wr => ∃ k : Nat, k ≤ ps.length ∧ i = .int .i64 k ∧ Hid (∀ x ∈ ps.take k, id x = false) ∧ Below w.heap.size w wr) (fun _ i _ => ps.length - (intOf i).toNat)
  case atStart => exact ⟨0, Nat.zero_le _, rfl, by show ∀ x ∈ _, _; simp, Below.refl _ _⟩
  case round =>
    obtain ⟨k, hk, rfl, HP, hb⟩ := hrel
    have HC : Hid (∀ k (h : k < ps.length) wr, Below w.heap.size w wr → Calls Try.prog F (#[hdV (xs[k]?.getD default)] ++ caps) wr fun e w' => e = .returned (.bool ps[k]) ∧ Below wr.heap.size wr w') := hclo
    clear hclo
    by_cases hlt : k < ps.length
    · have hr' := hr.below hb (Nat.le_refl _)
      have hix := hr'.idx und_ffs siz_ffs
      rw [← HL.out] at hix
      have hcx := hr'.cell k (by rw [← HL.out]; exact hlt)
      have hq := HC.out k hlt wr hb
      clear HC
      obtain ⟨v, hv⟩ : ∃ v, hdV (xs[k]?.getD default) = v := ⟨_, rfl⟩
      rw [hv] at hcx hq
      obtain ⟨q, hpq⟩ : ∃ q, ps[k] = q := ⟨_, rfl⟩
      rw [hpq] at hq
      have HPQ := Lib.hid hpq
      have HQ := Lib.hid hq
      clear hv hpq hq hr'
      go_wp2_with fail
      refine HQ.out.mono ?_
      rintro e w1 ⟨rfl, hb1⟩
      cases q with
      | true =>
        clear HQ
        go_wp2
        go_ret
        refine ⟨ret_int ?_, hb.trans (hb1.mono hb.size)⟩
        rw [idxOf_here (h := hlt) (by simpa using HPQ.out) HP.out]
      | false =>
        clear HQ
        go_wp2
        go_roundw
        case rel => exact ⟨k + 1, by omega, by go_num, snoc_none hlt HP.out (by simpa using HPQ.out), hb.trans (hb1.mono hb.size)⟩
        case measure => simp [intOf]; omega
    · obtain rfl : k = ps.length := by omega
      go_wp2
      go_ret
      refine ⟨ret_int ?_, hb⟩
      rw [idxOf_none (by simpa using HP.out)]

set_option maxHeartbeats 400000 in
theorem containsFuncff_any (a : Option Addr) (c : Nat) (xs : List Hd) (ps : List Bool) (w : World) (F : Nat) (caps : Array Value) (hF : ∀ (vs : Array Value) (w : World), (callFunc F vs).run Try.prog w = .ok (.enter F vs) w) (hl : ps.length = xs.length) (hr : Rd hdV w a c xs)
    (hclo : ∀ k (h : k < ps.length) wr, Below w.heap.size w wr → Calls Try.prog F (#[hdV (xs[k]?.getD default)] ++ caps) wr fun e w' => e = .returned (.bool ps[k]) ∧ Below wr.heap.size wr w') :
    Calls Try.prog 93 #[.slice a ps.length c, .func (.func F) #[] caps] w fun e w' => e = .returned (.bool (ps.any id)) ∧ Below w.heap.size w w' := by
  have HC := Lib.hid (indexFuncff_any a c xs ps w F caps hF hl hr hclo)
  clear hclo hl
  go_enter Try.func93, Try.ntmps93
  go_wp2_with fail
  refine HC.out.mono ?_
  rintro e w1 ⟨rfl, hb1⟩
  have HB := Lib.hid (idxOf_any id ps)
  go_wp2
  go_ret
  exact ⟨ret_bool (by simpa using HB.out), hb1⟩

end Go.Proofs.Ytdpolaedfjljmaa

namespace Go.Proofs.Ytdpolaedfjljmaa
open Go.RowKit

def qnan : Nat := 2143289344
def rep (o : Option Nat) : Nat := o.getD qnan
theorem cn_qnan : cn .f32 qnan = none := by decide +kernel
theorem cn_rep {x y : Option Nat} {bop : BinOp} : cn .f32 (rep (fbin bop .f32 x y)) = fbin bop .f32 x y := by
  cases h : fbin bop .f32 x y with
  | none => exact cn_qnan
  | some r =>
    unfold fbin at h
    cases x with
    | none => simp at h
    | some a =>
      cases y with
      | none => simp at h
      | some b =>
        have h3 : (FloatKind.f32.decode r).isNaN = false := (floatBits_nan (by simpa using h)).2.2
        simp [rep, cn, h3]

def subC (x y : Nat) : Option Nat := fbin .sub .f32 (cn .f32 x) (cn .f32 y)
def diffC (X Y : List Nat) : List (Option Nat) := List.zipWith subC X Y
def diffN (X Y : List Nat) : List Nat := (diffC X Y).map rep
theorem diffN_cn (X Y : List Nat) : (diffN X Y).map (cn .f32) = diffC X Y := by
  unfold diffN diffC
  induction X generalizing Y with
  | nil => rfl
  | cons x X ih =>
    cases Y with
    | nil => rfl
    | cons y Y =>
      simp only [List.zipWith_cons_cons, List.map_cons, ih]
      unfold subC; rw [cn_rep]
theorem diffC_len {X Y : List Nat} {n : Nat} (h1 : X.length = n) (h2 : Y.length = n) : (diffC X Y).length = n := by simp [diffC, h1, h2]
theorem diffC_succ {X Y : List Nat} {n k : Nat} (h1 : X.length = n) (h2 : Y.length = n) (h : k < n) : (diffC X Y).take (k + 1) = (diffC X Y).take k ++ [subC (X[k]?.getD 0) (Y[k]?.getD 0)] := by
  have hl : k < (diffC X Y).length := by rw [diffC_len h1 h2]; exact h
  rw [List.take_add_one, List.getElem?_eq_getElem hl]
  simp [diffC, List.getElem?_eq_getElem (show k < X.length by omega), List.getElem?_eq_getElem (show k < Y.length by omega)]

theorem dotC_map (xs ys : List Nat) : dotC xs ys = (List.zip (xs.map (cn .f32)) (ys.map (cn .f32))).foldl (fun s p => fbin .add .f32 s (fbin .mul .f32 p.1 p.2)) (some 0) := by
  unfold dotC
  rw [List.zip_map, List.foldl_map]; rfl
theorem fins_map (xs : List Nat) : fins xs = (xs.map (cn .f32)).all (fin .f32) := by
  unfold fins; rw [List.all_map]; rfl
theorem isVec_congr {xs ys : List Nat} (h : xs.map (cn .f32) = ys.map (cn .f32)) : isVec xs = isVec ys := by
  have hl : xs.length = ys.length := by have := congrArg List.length h; simpa using this
  unfold isVec
  rw [fins_map, fins_map, h, hl]
theorem norm_congr {xs ys : List Nat} (h : xs.map (cn .f32) = ys.map (cn .f32)) : normR xs = normR ys ∧ normB xs = normB ys := by
  have hd : dotC xs xs = dotC ys ys := by rw [dotC_map, dotC_map, h]
  unfold normR normB
  rw [isVec_congr h, hd]
  exact ⟨rfl, rfl⟩

theorem fin_num {x : Nat} (h : fin .f32 (cn .f32 x) = true) : ∃ s m e, FloatKind.f32.decode x = .number s m e := by
  unfold cn at h
  cases hd : FloatKind.f32.decode x with
  | number s m e => exact ⟨s, m, e, rfl⟩
  | infinity s => rw [hd] at h; simp [Ieee.Datum.isNaN, fin, hd, Ieee.Datum.isInfinity] at h
  | nan s t => rw [hd] at h; simp [Ieee.Datum.isNaN, fin] at h
/-- The difference of two finite numbers does not draw. -/
theorem sub_fin {x y : Nat} (hx : fin .f32 (cn .f32 x) = true) (hy : fin .f32 (cn .f32 y) = true) : ∃ r, floatBits .sub .f32 x y = some r ∧ cn .f32 r = subC x y := by
  obtain ⟨s, m, e, h1⟩ := fin_num hx
  obtain ⟨s2, m2, e2, h2⟩ := fin_num hy
  have : ∃ r, floatBits .sub .f32 x y = some r := by
    show ∃ r, FloatKind.f32.format.sub x y = some r
    unfold Ieee.Format.sub
    have h1' : FloatKind.f32.format.read x = .number s m e := h1
    have h2' : FloatKind.f32.format.read y = .number s2 m2 e2 := h2
    rw [h1', h2']
    exact ⟨_, rfl⟩
  obtain ⟨r, hr⟩ := this
  have hn := floatBits_nan hr
  exact ⟨r, hr, by simp [cn, subC, fbin, hn.1, hn.2.1, hn.2.2, hr]⟩
theorem vec_fin {X : List Nat} (h : isVec X = true) {k : Nat} (hk : k < X.length) : fin .f32 (cn .f32 (X[k]?.getD 0)) = true := by
  simp only [isVec, fins, Bool.and_eq_true, List.all_eq_true] at h
  rw [List.getElem?_eq_getElem hk]
  exact h.2 _ (List.getElem_mem hk)

/-- The norm of a difference, and whether it is finite. -/
def normT (X Y : List Nat) : Option Nat := normR (diffN X Y)
def normK (X Y : List Nat) : Bool := normB (diffN X Y)
theorem norm_of {ds X Y : List Nat} (h : ds.map (cn .f32) = diffC X Y) : normR ds = normT X Y ∧ normB ds = normK X Y := norm_congr (by rw [h, diffN_cn])

def leqC (x y : Option Nat) : Bool := ford .f32 x y == some .lt || ford .f32 x y == some .eq
theorem leq_cn (a b : Nat) : (FloatKind.f32.format.order a b == some .lt || FloatKind.f32.format.order a b == some .eq) = leqC (cn .f32 a) (cn .f32 b) := by
  unfold leqC; rw [order_cn]
def least0 (far : Nat) : Bool := FloatKind.f32.format.order far 0 == some .gt || FloatKind.f32.format.order far 0 == some .eq
def farOk (far : Nat) : Bool := fin .f32 (cn .f32 far) && least0 far

/-- Which rows are none, or are of another length than the first. -/
def bads (xss : List (List Nat)) (n : Int) : List Bool := xss.map fun r => !isVec r || ((r.length : Int) != n)
def pairsAll (ok : Nat → Nat → Bool) (n : Nat) : Bool := (List.range n).all fun i => (List.range n).all fun k => decide (k ≤ i) || ok i k
theorem pairsAll_iff {ok : Nat → Nat → Bool} {n : Nat} : pairsAll ok n = true ↔ ∀ i k, i < k → k < n → ok i k = true := by
  unfold pairsAll
  simp only [List.all_eq_true, List.mem_range, Bool.or_eq_true, decide_eq_true_eq]
  constructor
  · intro h i k hik hk
    rcases h i (by omega) k hk with h1 | h1
    · omega
    · exact h1
  · intro h i hi k hk
    by_cases hik : k ≤ i
    · exact .inl hik
    · exact .inr (h i k (by omega) hk)

def nearT (xss : List (List Nat)) (far : Nat) (i k : Nat) : Bool := leqC (normT (rowAt xss i) (rowAt xss k)) (cn .f32 far)
def nearK (xss : List (List Nat)) (i k : Nat) : Bool := normK (rowAt xss i) (rowAt xss k)
def rowsOk (xss : List (List Nat)) (far : Nat) : Bool := decide (1 ≤ xss.length) && decide (xss.length ≤ 32) && farOk far && !(bads xss ((rowAt xss 0).length : Int)).any id
def nearOk (xss : List (List Nat)) (far : Nat) : Bool := rowsOk xss far && pairsAll (nearK xss) xss.length
def nearR (xss : List (List Nat)) (far : Nat) : List Int := if nearOk xss far then pairsR (nearT xss far) xss.length else []
theorem nearR_len (xss : List (List Nat)) (far : Nat) : (nearR xss far).length ≤ 2048 := by
  unfold nearR
  split
  · rename_i h
    simp only [nearOk, rowsOk, Bool.and_eq_true, decide_eq_true_eq] at h
    unfold pairsR
    have h1 := prows_len (nearT xss far) xss.length xss.length
    have h2 : 2 * xss.length * xss.length ≤ 2 * 32 * 32 := Nat.mul_le_mul (by omega) (by omega)
    omega
  · simp

theorem rows_good {xss : List (List Nat)} {far : Nat} (h : rowsOk xss far = true) :
    ∃ n, 1 ≤ xss.length ∧ xss.length ≤ 32 ∧ fin .f32 (cn .f32 far) = true ∧ least0 far = true ∧ 1 ≤ n ∧ n ≤ 32 ∧ (rowAt xss 0).length = n ∧ (∀ i (h : i < xss.length), xss[i].length = n ∧ isVec xss[i] = true) := by
  simp only [rowsOk, farOk, Bool.and_eq_true, decide_eq_true_eq, Bool.not_eq_true', List.any_eq_false] at h
  obtain ⟨⟨⟨h1, h2⟩, h3, h4⟩, h5⟩ := h
  have hall : ∀ i (h : i < xss.length), xss[i].length = (rowAt xss 0).length ∧ isVec xss[i] = true := by
    intro i hi
    have := h5 (!isVec xss[i] || ((xss[i].length : Int) != ((rowAt xss 0).length : Int))) (by simp only [bads, List.mem_map]; exact ⟨xss[i], List.getElem_mem hi, rfl⟩)
    simp only [id, Bool.or_eq_true, Bool.not_eq_true', not_or, Bool.not_eq_false] at this
    refine ⟨?_, this.1⟩
    have e : (xss[i].length : Int) = ((rowAt xss 0).length : Int) := by simpa using this.2
    omega
  have hv := (hall 0 (by omega)).2
  have hl := (hall 0 (by omega)).1
  simp only [isVec, Bool.and_eq_true, decide_eq_true_eq] at hv
  exact ⟨(rowAt xss 0).length, h1, h2, h3, h4, by omega, by omega, rfl, hall⟩

set_option maxHeartbeats 800000 in
theorem near1_any {a al a0 : Option Addr} {c cl c0 N n0 b : Nat} {xs : List Nat} {w : World} (hx : Rd (Value.float .f32) w a c xs) (hbox : w.cell? ⟨b, 0, none⟩ = some (.slice al N cl))
    (hi0 : ∀ w', (Instr.indexAt 59 (.slice al N cl) (.int .i64 0)).run Try.prog w' = .ok (.pointer (some (elt al 0))) w') (hc0 : w.cell? (elt al 0) = some (.slice a0 n0 c0)) :
    Calls Try.prog 94 #[.slice a xs.length c, .pointer (some ⟨b, 0, none⟩)] w fun e w' => e = .returned (.bool (!isVec xs || ((xs.length : Int) != (n0 : Int)))) ∧ Below w.heap.size w w' := by
  obtain ⟨v, hv⟩ : ∃ v, isVec xs = v := ⟨_, rfl⟩
  have hc := isVector_any hx
  rw [hv] at hc ⊢
  have HC := Lib.hid hc
  clear hv hc
  cases v with
  | false =>
    go_enter Try.func94, Try.ntmps94
    go_wp2_with fail
    refine HC.out.mono ?_
    rintro e w1 ⟨rfl, hb⟩
    go_wp2
    go_ret
    exact ⟨rfl, hb⟩
  | true =>
    go_enter Try.func94, Try.ntmps94
    go_wp2_with fail
    refine HC.out.mono ?_
    rintro e w1 ⟨rfl, hb⟩
    have hbox1 := k_at hb hbox
    have hc1 := k_at hb hc0
    go_wp2
    go_ret
    exact ⟨ret_bool (by simp), hb⟩
theorem call_near1 (vs : Array Value) (w : World) : (callFunc 94 vs).run Try.prog w = .ok (.enter 94 vs) w := by kernel_rfl

theorem nearBads_any {a : Option Addr} {c : Nat} {hs : List Hd} {xss : List (List Nat)} {n b : Nat} {w : World} (hr : Rd2 (Value.float .f32) w a c hs xss) (hN : 0 < xss.length) (hn : (rowAt xss 0).length = n) (h : w.cell? ⟨b, 0, none⟩ = some (.slice a xss.length c)) :
    Calls Try.prog 93 #[.slice a xss.length c, .func (.func 94) #[] #[.pointer (some ⟨b, 0, none⟩)]] w fun e w' => e = .returned (.bool ((bads xss (n : Int)).any id)) ∧ Below w.heap.size w w' := by
  have hl : (bads xss (n : Int)).length = xss.length := by simp [bads]
  have hi0 := rd_idxAt hr.top und_ffs siz_ffs 0 (by rw [hr.len]; omega) 0 rfl
  rw [hr.len] at hi0
  obtain ⟨a0, c0, hc0, -⟩ := hr.at hN
  rw [← rowAt_get hN, hn] at hc0
  have := containsFuncff_any a c hs (bads xss (n : Int)) w 94 #[.pointer (some ⟨b, 0, none⟩)] call_near1 (by rw [hl, hr.len]) hr.top (by
    intro k hk wr hb
    rw [hl] at hk
    obtain ⟨hd, xs, h1, h2, h3, h4⟩ := hr.row k hk
    rw [h1, Option.getD_some]
    have hx : (bads xss (n : Int))[k] = (!isVec xs || ((xs.length : Int) != (n : Int))) := by
      have : xss[k] = xs := by rw [List.getElem?_eq_getElem hk] at h2; simpa using h2
      simp [bads, this]
    rw [hx]
    have hh := near1_any (h4.below hb (Nat.le_refl _)) (k_below hb (Nat.le_refl _) h) hi0 (k_at hb hc0)
    rw [← h3] at hh ⊢
    exact hh)
  rw [hl] at this
  exact this

end Go.Proofs.Ytdpolaedfjljmaa

namespace Go.Proofs.Ytdpolaedfjljmaa
open Go.RowKit

theorem und_bbs : Try.prog.underlying 58 = some (.slice (Try.prog.elem 58)) := by kernel_rfl
theorem siz_bbs (w : World) : (sizeOf (Try.prog.elem 58)).run Try.prog w = .ok 1 w := by kernel_rfl
theorem und_bbse : Try.prog.underlying 58 = some (.slice 60) := by kernel_rfl
theorem info_bb : (Try.prog.info? 60).map (fun i => (i.zero, i.size, i.bytes)) = some (some (hdV (none, 0, 0)), 1, 24) := by kernel_rfl

end Go.Proofs.Ytdpolaedfjljmaa

namespace Go.Proofs.Ytdpolaedfjljmaa
open Go.RowKit

set_option maxHeartbeats 400000 in
theorem indexFuncbb_any (a : Option Addr) (c : Nat) (xs : List Hd) (ps : List Bool) (w : World) (F : Nat) (caps : Array Value) (hF : ∀ (vs : Array Value) (w : World), (callFunc F vs).run Try.prog w = .ok (.enter F vs) w) (hl : ps.length = xs.length) (hr : Rd hdV w a c xs)
    (hclo : ∀ k (h : k < ps.length) wr, Below w.heap.size w wr → Calls Try.prog F (#[hdV (xs[k]?.getD default)] ++ caps) wr fun e w' => e = .returned (.bool ps[k]) ∧ Below wr.heap.size wr w') :
    Calls Try.prog 137 #[.slice a ps.length c, .func (.func F) #[] caps] w fun e w' => e = .returned (.int .i64 (idxOf id ps)) ∧ Below w.heap.size w w' := by
  have hln := hr.len
  rw [← hl] at hln
  have HL := Lib.hid hl
  clear hl
  go_enter Try.func137, Try.ntmps137
  go_wp2
  go_loopw [5, 8] (fun _ i wr => ∃ k : Nat, k ≤ ps.length ∧ i = .int .i64 k ∧ Hid (∀ x ∈ ps.take k, id x = false) ∧ Below w.heap.size w wr) (fun _ i _ => ps.length - (intOf i).toNat)
  case atStart => exact ⟨0, Nat.zero_le _, rfl, by show ∀ x ∈ _, _; simp, Below.refl _ _⟩
  case round =>
    obtain ⟨k, hk, rfl, HP, hb⟩ := hrel
    have HC : Hid (∀ k (h : k < ps.length) wr, Below w.heap.size w wr → Calls Try.prog F (#[hdV (xs[k]?.getD default)] ++ caps) wr fun e w' => e = .returned (.bool ps[k]) ∧ Below wr.heap.size wr w') := hclo
    clear hclo
    by_cases hlt : k < ps.length
    · have hr' := hr.below hb (Nat.le_refl _)
      have hix := hr'.idx und_bbs siz_bbs
      rw [← HL.out] at hix
      have hcx := hr'.cell k (by rw [← HL.out]; exact hlt)
      have hq := HC.out k hlt wr hb
      clear HC
      obtain ⟨v, hv⟩ : ∃ v, hdV (xs[k]?.getD default) = v := ⟨_, rfl⟩
      rw [hv] at hcx hq
      obtain ⟨q, hpq⟩ : ∃ q, ps[k] = q := ⟨_, rfl⟩
      rw [hpq] at hq
      have HPQ := Lib.hid hpq
      have HQ := Lib.hid hq
      clear hv hpq hq hr'
      go_wp2_with fail
      refine HQ.out.mono ?_
      rintro e w1 ⟨rfl, hb1⟩
      cases q with
      | true =>
        clear HQ
        go_wp2
        go_ret
        refine ⟨ret_int ?_, hb.trans (hb1.mono hb.size)⟩
        rw [idxOf_here (h := hlt) (by simpa using HPQ.out) HP.out]
      | false =>
        clear HQ
        go_wp2
        go_roundw
        case rel => exact ⟨k + 1, by omega, by go_num, snoc_none hlt HP.out (by simpa using HPQ.out), hb.trans (hb1.mono hb.size)⟩
        case measure => simp [intOf]; omega
    · obtain rfl : k = ps.length := by omega
      go_wp2
      go_ret
      refine ⟨ret_int ?_, hb⟩
      rw [idxOf_none (by simpa using HP.out)]

set_option maxHeartbeats 400000 in
theorem containsFuncbb_any (a : Option Addr) (c : Nat) (xs : List Hd) (ps : List Bool) (w : World) (F : Nat) (caps : Array Value) (hF : ∀ (vs : Array Value) (w : World), (callFunc F vs).run Try.prog w = .ok (.enter F vs) w) (hl : ps.length = xs.length) (hr : Rd hdV w a c xs)
    (hclo : ∀ k (h : k < ps.length) wr, Below w.heap.size w wr → Calls Try.prog F (#[hdV (xs[k]?.getD default)] ++ caps) wr fun e w' => e = .returned (.bool ps[k]) ∧ Below wr.heap.size wr w') :
    Calls Try.prog 86 #[.slice a ps.length c, .func (.func F) #[] caps] w fun e w' => e = .returned (.bool (ps.any id)) ∧ Below w.heap.size w w' := by
  have HC := Lib.hid (indexFuncbb_any a c xs ps w F caps hF hl hr hclo)
  clear hclo hl
  go_enter Try.func86, Try.ntmps86
  go_wp2_with fail
  refine HC.out.mono ?_
  rintro e w1 ⟨rfl, hb1⟩
  have HB := Lib.hid (idxOf_any id ps)
  go_wp2
  go_ret
  exact ⟨ret_bool (by simpa using HB.out), hb1⟩

end Go.Proofs.Ytdpolaedfjljmaa

namespace Go.Proofs.Ytdpolaedfjljmaa
open Go.RowKit

def divB (W n : Int) : Bool := inR W 1 n && decide (n % W = 0)
/-- The test of two rows. -/
def bandT (xss : List (List Bool)) (W m : Nat) (i k : Nat) : Bool := bandTo (rowAt xss i) (rowAt xss k) W m

theorem areSaltBits_any {n : Int} {w : World} : Calls Try.prog 85 #[.int .i64 n] w fun e w' => e = .returned (.bool (inR n 1 32)) ∧ w = w' := by
  by_cases h1 : 1 ≤ n
  · go_enter Try.func85, Try.ntmps85
    go_wp2
    go_ret
    exact ⟨ret_bool (by simp [inR]; omega), rfl⟩
  · have h2 : decide (1 ≤ n) = false := by simpa using h1
    go_enter Try.func85, Try.ntmps85
    go_wp2
    go_ret
    exact ⟨ret_bool (by simp [inR]; omega), rfl⟩

theorem divides_any {W n : Int} {w : World} (h0 : 0 ≤ n) (h1 : n ≤ 32) : Calls Try.prog 88 #[.int .i64 W, .int .i64 n] w fun e w' => e = .returned (.bool (divB W n)) ∧ w = w' := by
  by_cases h : inR W 1 n = true
  · have hb := (inR_eq _ _ _).1 h
    have b1 := hb.1
    have b2 := hb.2
    have hne : ¬ W = 0 := by omega
    clear hb
    go_enter Try.func88, Try.ntmps88
    go_wp2_with fail
    refine (within_any _ _ _ _).mono ?_
    rintro e w1 ⟨rfl, rfl⟩
    rw [h]
    have H := Lib.hid h
    clear h
    go_wp2
    go_ret
    exact ⟨ret_bool (by simp [divB, H.out]; rfl), rfl⟩
  · have h' : inR W 1 n = false := by simpa using h
    clear h
    go_enter Try.func88, Try.ntmps88
    go_wp2_with fail
    refine (within_any _ _ _ _).mono ?_
    rintro e w1 ⟨rfl, rfl⟩
    rw [h']
    have H := Lib.hid h'
    clear h'
    go_wp2
    go_ret
    exact ⟨ret_bool (by simp [divB, H.out]), rfl⟩

theorem band1_any {a : Option Addr} {n c : Nat} {N : Int} {p : Addr} {w : World} (h : w.cell? p = some (.int .i64 N)) :
    Calls Try.prog 87 #[.slice a n c, .pointer (some p)] w fun e w' => e = .returned (.bool ((n : Int) != N)) ∧ w = w' := by
  go_enter Try.func87, Try.ntmps87
  go_wp2
  go_ret
  exact ⟨rfl, rfl⟩
theorem call_band1 (vs : Array Value) (w : World) : (callFunc 87 vs).run Try.prog w = .ok (.enter 87 vs) w := by kernel_rfl

/-- Whether a row's length is another than N. -/
def offs (xss : List (List Bool)) (N : Int) : List Bool := xss.map fun r => ((r.length : Int) != N)

theorem bandLens_any {a : Option Addr} {c : Nat} {hs : List Hd} {xss : List (List Bool)} {N : Int} {b : Nat} {w : World} (hr : Rd2 Value.bool w a c hs xss) (h : w.cell? ⟨b, 0, none⟩ = some (.int .i64 N)) :
    Calls Try.prog 86 #[.slice a xss.length c, .func (.func 87) #[] #[.pointer (some ⟨b, 0, none⟩)]] w fun e w' => e = .returned (.bool ((offs xss N).any id)) ∧ Below w.heap.size w w' := by
  have hl : (offs xss N).length = xss.length := by simp [offs]
  have := containsFuncbb_any a c hs (offs xss N) w 87 #[.pointer (some ⟨b, 0, none⟩)] call_band1 (by rw [hl, hr.len]) hr.top (by
    intro k hk wr hb
    rw [hl] at hk
    obtain ⟨hd, xs, h1, h2, h3, h4⟩ := hr.row k hk
    rw [h1, Option.getD_some]
    have hx : (offs xss N)[k] = ((hd.2.1 : Int) != N) := by
      have : xss[k] = xs := by rw [List.getElem?_eq_getElem hk] at h2; simpa using h2
      simp [offs, this, h3]
    rw [hx]
    refine (band1_any (k_below hb (Nat.le_refl _) h)).mono ?_
    rintro e w1 ⟨rfl, rfl⟩
    exact ⟨rfl, Below.refl _ _⟩)
  rw [hl] at this
  exact this

theorem band_step {j m W : Nat} (h : j * W < m * W) : j < m ∧ j * W + W ≤ m * W := by
  have h1 : j < m := Nat.lt_of_mul_lt_mul_right h
  refine ⟨h1, ?_⟩
  have := Nat.mul_le_mul_right W (show j + 1 ≤ m from h1)
  rw [Nat.add_mul, Nat.one_mul] at this
  exact this
theorem band_end {j m W : Nat} (hW : 1 ≤ W) (hj : j ≤ m) (h : ¬ j * W < m * W) : j = m := by
  by_cases hlt : j < m
  · exact absurd (Nat.mul_lt_mul_of_pos_right hlt (by omega)) h
  · omega

set_option maxRecDepth 8000 in
set_option maxHeartbeats 4000000 in
theorem implBand_good {a : Option Addr} {c : Nat} {hs : List Hd} {xss : List (List Bool)} {m W n : Nat} {w : World} (hr : Rd2 Value.bool w a c hs xss) (hN1 : 1 ≤ xss.length) (hN2 : xss.length ≤ 32) (hW : 1 ≤ W) (hn0 : 1 ≤ n) (hn : n ≤ 32) (hWn : W ≤ n) (hm : Hid (n = m * W)) (hall : Hid (∀ i (h : i < xss.length), xss[i].length = n)) :
    Calls Try.prog 34 #[.slice a xss.length c, .int .i64 (W : Int)] w (RetSB (Value.int .i64) 2 w (pairsR (bandT xss W m) xss.length) true) := by
  have hi0 := rd_idxAt hr.top und_bbs siz_bbs 0 (by rw [hr.len]; omega) 0 rfl
  rw [hr.len] at hi0
  obtain ⟨a0, c0, hc0, -⟩ := hr.at (show 0 < xss.length by omega)
  rw [hall.out 0 (by omega)] at hc0
  have b1 : inR (n : Int) 1 32 = true := (inR_eq _ _ _).2 (by omega)
  have b2 : (offs xss (n : Int)).any id = false := by
    rw [List.any_eq_false]
    intro x hx
    simp only [offs, List.mem_map] at hx
    obtain ⟨r, hr1, rfl⟩ := hx
    obtain ⟨i, hi, rfl⟩ := List.getElem_of_mem hr1
    rw [hall.out i hi]; simp
  have b3 : divB (W : Int) (n : Int) = true := by
    have : (n : Int) % (W : Int) = 0 := by rw [hm.out]; simp
    simp [divB, inR, this]; omega
  have hb0 : Below w.heap.size w (w.alloc (.cells #[.int .i64 (n : Int)] 3)) := (Below.refl _ _).alloc (Nat.le_refl _) _
  have X0 : Hid (Blk (w.alloc (.cells #[.int .i64 (n : Int)] 3)) w.heap.size #[.int .i64 (n : Int)] 3) := Lib.hid (Blk.new _ _ _)
  have R0 := Lib.hid (hr.below hb0 (Nat.le_refl _))
  have B0 := Lib.hid hb0
  clear hb0
  go_enter Try.func34, Try.ntmps34
  go_wp2_with fail
  generalize w.alloc (.cells #[.int .i64 (n : Int)] 3) = w0 at X0 R0 B0 ⊢
  refine areSaltBits_any.mono ?_
  rintro e w1 ⟨rfl, rfl⟩
  rw [b1]
  go_wp2_with fail
  refine (bandLens_any R0.out (X0.out.cell (i := 0) (v := .int .i64 (n : Int)) rfl)).mono ?_
  rintro e w1 ⟨rfl, hb1⟩
  rw [b2]
  have R1 := Lib.hid (R0.out.below hb1 (Nat.le_refl _))
  have x1 := (X0.out.below hb1 (Nat.le_refl _)).cell (i := 0) (v := .int .i64 (n : Int)) rfl
  have B1 := Lib.hid (B0.out.trans (hb1.mono B0.out.size))
  clear hb1 R0 X0 B0
  go_wp2_with fail
  refine (divides_any (by omega) (by omega)).mono ?_
  rintro e w2 ⟨rfl, rfl⟩
  rw [b3]
  clear b1 b2 b3 hi0 hc0
  go_wp2_with fail
  go_loopw [7, 8, 9, 10, 40] (fun out _ _ _ i wr => ∃ (k : Nat) (xs : List Int) (ao : Option Addr) (co : Nat), k ≤ xss.length ∧ i = .int .i64 k ∧ out = .slice ao xs.length co ∧ Own (Value.int .i64) 2 wr w1.heap.size ao co xs ∧ Hid (xs = prows (bandT xss W m) xss.length k) ∧ Below w1.heap.size w1 wr) (fun _ _ _ _ i _ => xss.length - (intOf i).toNat)
  case atStart => exact ⟨0, [], _, 0, Nat.zero_le _, rfl, rfl, own_empty w1 _ (Nat.le_refl _) rfl, by show _ = _; rfl, (Below.refl _ _).alloc (Nat.le_refl _) _⟩
  case round =>
    obtain ⟨i, xs, ao, co, hi, rfl, rfl, ho, HX, hb⟩ := hrel
    have HO := Lib.hid ho
    have HB := Lib.hid hb
    clear ho hb
    by_cases hlt : i < xss.length
    · have hxl : xs.length ≤ 2048 := by
        rw [HX.out]
        have h1 := prows_len (bandT xss W m) xss.length i
        have h2 : 2 * xss.length * i ≤ 2 * 32 * 32 := Nat.mul_le_mul (by omega) (by omega)
        omega
      obtain ⟨wa, rfl⟩ : ∃ wa : World, wa = wr := ⟨_, rfl⟩
      go_wp2_with fail
      go_loopw [7, 9, 10] (fun out k _ wq => ∃ (j : Nat) (ys : List Int) (ap : Option Addr) (cp : Nat), i + 1 ≤ j ∧ j ≤ xss.length ∧ k = .int .i64 j ∧ out = .slice ap ys.length cp ∧ Own (Value.int .i64) 2 wq w1.heap.size ap cp ys ∧ Hid (ys = xs ++ prow (bandT xss W m) i j) ∧ Below w1.heap.size w1 wq) (fun _ k _ _ => xss.length - (intOf k).toNat)
      case atStart => exact ⟨i + 1, xs, ao, co, Nat.le_refl _, by omega, by go_num, rfl, HO.out, by show _ = _; rw [prow_zero, List.append_nil], HB.out⟩
      case round =>
        obtain ⟨j, ys, ap, cp, hj1, hj2, rfl, rfl, hp, HY, hbq⟩ := hrel
        obtain ⟨wq, rfl⟩ : ∃ wq : World, wq = wr := ⟨_, rfl⟩
        have HP := Lib.hid hp
        have HBQ := Lib.hid hbq
        have rr := R1.out.below hbq (Nat.le_refl _)
        have xn : wq.cell? ⟨w.heap.size, 0, none⟩ = some (.int .i64 (n : Int)) := k_below hbq (Nat.le_refl _) x1
        clear hp hbq HO HB
        by_cases hlj : j < xss.length
        · have hyl : ys.length ≤ 4096 := by
            rw [HY.out, List.length_append]
            have := prow_len (bandT xss W m) i j
            omega
          obtain ⟨ai, ci, hci, hri⟩ := rr.at hlt
          obtain ⟨aj, cj, hcj, hrj⟩ := rr.at hlj
          have hXl := hall.out i hlt
          have hYl := hall.out j hlj
          have HTT : Hid (bandT xss W m i j = bandTo xss[i] xss[j] W m) := Lib.hid (by unfold bandT; rw [rowAt_get hlt, rowAt_get hlj])
          generalize xss[i] = X at hci hri hXl HTT
          generalize xss[j] = Y at hcj hrj hYl HTT
          rw [hXl] at hci
          rw [hYl] at hcj
          have HXL := Lib.hid hXl
          have HYL := Lib.hid hYl
          have hixi := rr.top.idx und_bbs siz_bbs
          rw [rr.len] at hixi
          have HRI := Lib.hid hri
          have HRJ := Lib.hid hrj
          have HIX := Lib.hid hixi
          have HCI := Lib.hid (And.intro hci (And.intro hcj xn))
          clear hri hrj hXl hYl rr hixi hci hcj xn
          go_wp2_with fail
          go_loopw [7, 10] (fun o t wp => ∃ (q p : Nat), o = .slice ap ys.length cp ∧ t = .int .i64 p ∧ p ≤ n ∧ Hid (p = q * W ∧ q ≤ m) ∧ Hid (bandTo X Y W q = false) ∧ Hid (∃ d, wp = wq.drewN d)) (fun _ t _ => n - (intOf t).toNat)
          case atStart => exact ⟨0, 0, rfl, rfl, Nat.zero_le _, by show _ ∧ _; simp, by show _ = _; rfl, by show ∃ d, _; exact ⟨0, rfl⟩⟩
          case round =>
            obtain ⟨q, p, rfl, rfl, hpn, HQ, HF, HD⟩ := hrel
            obtain ⟨wp, rfl⟩ : ∃ wp : World, wp = wr := ⟨_, rfl⟩
            have hbp : Below wq.heap.size wq wp := by obtain ⟨d, hd⟩ := HD.out; rw [hd]; exact below_of_drewN _ _ _
            have xn := k_below hbp (Nat.le_refl _) HCI.out.2.2
            by_cases hl3 : p < n
            · have hst : q < m ∧ p + W ≤ n := by
                have := band_step (j := q) (m := m) (W := W) (by rw [← HQ.out.1, ← hm.out]; exact hl3)
                refine ⟨this.1, ?_⟩
                rw [HQ.out.1, hm.out]; exact this.2
              have hpW : p + W ≤ n := hst.2
              have HST := Lib.hid hst
              clear hst
              have hri := HRI.out.below hbp (Nat.le_refl _)
              have hrj := HRJ.out.below hbp (Nat.le_refl _)
              obtain ⟨a5, c5, hs5, hr5⟩ := hri.midRun und_bs siz_bs (lo := p) (hi := p + W) (by omega) (by rw [HXL.out]; exact hpW)
              obtain ⟨a6, c6, hs6, hr6⟩ := hrj.midRun und_bs siz_bs (lo := p) (hi := p + W) (by omega) (by rw [HYL.out]; exact hpW)
              have hU : ((X.take (p + W)).drop p).length = W := by simp [HXL.out]; omega
              have hV : ((Y.take (p + W)).drop p).length = W := by simp [HYL.out]; omega
              have hUV : decide ((X.take (p + W)).drop p = (Y.take (p + W)).drop p) = decide (bandOf X W q = bandOf Y W q) := by
                unfold bandOf
                rw [slice_take_drop _ _ _ (by omega), slice_take_drop _ _ _ (by omega), Nat.add_sub_cancel_left, ← HQ.out.1]
              have hq := @seqSlB_any a5 a6 c5 c6 ((X.take (p + W)).drop p) ((Y.take (p + W)).drop p)
              rw [hU, hV, hUV] at hq
              rw [Nat.add_sub_cancel_left, Int.natCast_add, HXL.out] at hs5
              rw [Nat.add_sub_cancel_left, Int.natCast_add, HYL.out] at hs6
              obtain ⟨bb, hbb⟩ : ∃ bb, decide (bandOf X W q = bandOf Y W q) = bb := ⟨_, rfl⟩
              rw [hbb] at hq
              have HQQ := Lib.hid (fun (nq : Nat) => hq ((hr5 wp hri).drewN nq) ((hr6 wp hrj).drewN nq))
              have HBB := Lib.hid hbb
              have hci := k_at hbp HCI.out.1
              have hcj := k_at hbp HCI.out.2.1
              have hix := HIX.out
              have ew : IntKind.i64.wrap ((p : Int) + (W : Int)) = (p : Int) + (W : Int) := IntWalk.i64_in _ (by omega)
              have hlt' : (i : Int) < (xss.length : Int) := by omega
              have hlj' : (j : Int) < (xss.length : Int) := by omega
              have HBP := Lib.hid hbp
              clear hU hV hUV hq hbb hr5 hr6 hri hrj hbp
              go_wp2_with fail
              go_quiet ((go_at_call 89; exact Calls.quiet_of (HQQ.out _)))
              have hbz : Below wq.heap.size wq (wp.drewN nq) := HBP.out.trans (below_of_drewN _ _ _)
              have HBZ := Lib.hid hbz
              have HDZ : Hid (∃ d, wp.drewN nq = wq.drewN d) := by
                obtain ⟨d, hd⟩ := HD.out
                exact Lib.hid ⟨d + nq, by rw [hd, World.drewN_drewN]⟩
              clear hbz HBP HQQ xn hci hcj hix hs5 hs6 ew HD
              generalize wp.drewN nq = wz at HBZ HDZ ⊢
              cases bb with
              | true =>
                have HO4 := Lib.hid ((HP.out.below HBZ.out (Nat.le_refl _)).alloc (.cells #[.int .i64 (i : Int), .int .i64 (j : Int)] 2))
                have HL4 : Hid (Rd (Value.int .i64) (wz.alloc (.cells #[.int .i64 (i : Int), .int .i64 (j : Int)] 2)) (some ⟨wz.heap.size, 0, none⟩) 2 [(i : Int), (j : Int)]) := Lib.hid (own_lit (f := Value.int .i64) (e := 2) wz wz.heap.size [(i : Int), (j : Int)] (Nat.le_refl _) (by unfold maxLen; simp)).rd
                have HBW := Lib.hid (HBQ.out.trans (HBZ.out.mono HBQ.out.size))
                have hz1 := HBW.out.size
                go_wp2_with (at_builtin; refine wpl_appendN (f := Value.int .i64) (d := 0) (base := w1.heap.size) und_ise info_i (fun _ => rfl) HO4.out HL4.out rfl _ _ rfl rfl rfl (by omega) (by simp) (by omega) (by simp; omega) ?_; intro a7 c7 w7 ho7 hg7)
                have HO7 := Lib.hid ho7
                have HB7 := Lib.hid ((HBW.out.alloc hz1 (.cells #[.int .i64 (i : Int), .int .i64 (j : Int)] 2)).trans ((grown_belowOwn HO4.out hg7 (Nat.le_refl _) (by simp; omega))))
                clear ho7 hg7
                go_roundw
                case rel => exact ⟨j + 1, ys ++ [(i : Int), (j : Int)], a7, c7, by omega, by omega, by go_num, by rw [List.length_append]; rfl, HO7.out, by show _ = _; rw [prow_succ _ (by omega), HTT.out, bandTo_yes HBB.out HST.out.1, HY.out]; simp, HB7.out⟩
                case measure => simp [intOf]; omega
              | false =>
                go_wp2
                go_roundw
                case rel => exact ⟨q + 1, p + W, rfl, by go_num, hpW, by show _ ∧ _; refine ⟨?_, HST.out.1⟩; rw [HQ.out.1, Nat.add_mul, Nat.one_mul], by show _ = _; exact bandTo_succ_no HF.out HBB.out, HDZ⟩
                case measure => simp [intOf]; omega
            · have hqm : q = m := band_end hW HQ.out.2 (by rw [← HQ.out.1, ← hm.out]; exact hl3)
              have HQM : Hid (bandTo X Y W m = false) := Lib.hid (by rw [← hqm]; exact HF.out)
              have HBP := Lib.hid (HBQ.out.trans (hbp.mono HBQ.out.size))
              have HPP := Lib.hid (HP.out.below hbp (Nat.le_refl _))
              clear hqm hbp
              go_wp2
              go_roundw
              case rel => exact ⟨j + 1, ys, ap, cp, by omega, by omega, by go_num, rfl, HPP.out, by show _ = _; rw [prow_succ _ (by omega), HTT.out, HQM.out, HY.out]; simp, HBP.out⟩
              case measure => simp [intOf]; omega
        · obtain rfl : j = xss.length := by omega
          go_wp2
          go_roundw
          case rel => exact ⟨i + 1, ys, ap, cp, by omega, by go_num, rfl, HP.out, by show _ = _; rw [prows_succ, HY.out, HX.out], HBQ.out⟩
          case measure => simp [intOf]; omega
    · obtain rfl : i = xss.length := by omega
      have HBB := Lib.hid (B1.out.trans (HB.out.mono B1.out.size))
      go_wp2
      go_ret2
      exact ⟨ao, co, by rw [HX.out]; rfl, (HO.out.cast HX.out).mono B1.out.size, HBB.out⟩

end Go.Proofs.Ytdpolaedfjljmaa

namespace Go.Proofs.Ytdpolaedfjljmaa
open Go.RowKit

/-- What is asked of the lists and the width. -/
def bandOk (xss : List (List Bool)) (W : Int) : Bool :=
  decide (1 ≤ xss.length) && decide (xss.length ≤ 32) && inR ((rowAt xss 0).length : Int) 1 32 && !(offs xss ((rowAt xss 0).length : Int)).any id && divB W ((rowAt xss 0).length : Int)
def bandR (xss : List (List Bool)) (W : Int) : List Int :=
  if bandOk xss W then pairsR (bandT xss W.toNat ((rowAt xss 0).length / W.toNat)) xss.length else []

theorem bandOk_good {xss : List (List Bool)} {W : Int} (h : bandOk xss W = true) :
    ∃ (V m n : Nat), W = (V : Int) ∧ 1 ≤ xss.length ∧ xss.length ≤ 32 ∧ 1 ≤ V ∧ 1 ≤ n ∧ n ≤ 32 ∧ V ≤ n ∧ n = m * V ∧ (∀ i (h : i < xss.length), xss[i].length = n) ∧ (rowAt xss 0).length = n ∧ bandR xss W = pairsR (bandT xss V m) xss.length := by
  have h' := h
  simp only [bandOk, divB, Bool.and_eq_true, decide_eq_true_eq, inR_eq, Bool.not_eq_true', List.any_eq_false] at h
  obtain ⟨⟨⟨⟨h1, h2⟩, h3⟩, h4⟩, h5, h6⟩ := h
  obtain ⟨V, rfl⟩ : ∃ V : Nat, W = (V : Int) := ⟨W.toNat, by omega⟩
  obtain ⟨n, hn⟩ : ∃ n, (rowAt xss 0).length = n := ⟨_, rfl⟩
  rw [hn] at h3 h4 h5 h6
  have hmod : n % V = 0 := by omega
  refine ⟨V, n / V, n, rfl, h1, h2, by omega, by omega, by omega, by omega, ?_, ?_, hn, ?_⟩
  · rw [Nat.div_mul_cancel (Nat.dvd_of_mod_eq_zero hmod)]
  · intro i hi
    have := h4 ((xss[i].length : Int) != (n : Int)) (by simp only [offs, List.mem_map]; exact ⟨xss[i], List.getElem_mem hi, rfl⟩)
    have e : (xss[i].length : Int) = (n : Int) := by simpa using this
    omega
  · unfold bandR
    rw [if_pos h', hn]; simp

theorem bad1 {xss : List (List Bool)} {W : Int} (h : ¬ (1 ≤ xss.length ∧ xss.length ≤ 32)) : bandOk xss W = false := by
  simp only [bandOk]
  by_cases h1 : 1 ≤ xss.length
  · rw [decide_eq_false (show ¬ xss.length ≤ 32 by omega)]; simp
  · rw [decide_eq_false h1]; simp

set_option maxHeartbeats 1000000 in
theorem implBand_no1 {a : Option Addr} {c : Nat} {xss : List (List Bool)} {W : Int} {w : World} (hl : xss.length ≤ 9223372036854775807) (h : ¬ (1 ≤ xss.length ∧ xss.length ≤ 32)) :
    Calls Try.prog 34 #[.slice a xss.length c, .int .i64 W] w (RetSB (Value.int .i64) 2 w [] false) := by
  by_cases h1 : xss.length < 1
  · go_enter Try.func34, Try.ntmps34
    go_wp2
    go_ret2
    exact retSB_no (Below.refl _ _)
  · have h2 : 32 < xss.length := by omega
    clear h
    go_enter Try.func34, Try.ntmps34
    go_wp2
    go_ret2
    exact retSB_no (Below.refl _ _)

set_option maxRecDepth 8000 in
set_option maxHeartbeats 2000000 in
theorem implBand_no2 {a : Option Addr} {c : Nat} {hs : List Hd} {xss : List (List Bool)} {n : Nat} {W : Int} {w : World} (hr : Rd2 Value.bool w a c hs xss) (hN1 : 1 ≤ xss.length) (hN2 : xss.length ≤ 32) (hn : (rowAt xss 0).length = n) (hnm : n ≤ 9223372036854775807)
    (h : (inR (n : Int) 1 32 && !(offs xss (n : Int)).any id && divB W (n : Int)) = false) :
    Calls Try.prog 34 #[.slice a xss.length c, .int .i64 W] w (RetSB (Value.int .i64) 2 w [] false) := by
  have hi0 := rd_idxAt hr.top und_bbs siz_bbs 0 (by rw [hr.len]; omega) 0 rfl
  rw [hr.len] at hi0
  obtain ⟨a0, c0, hc0, -⟩ := hr.at (show 0 < xss.length by omega)
  rw [← rowAt_get (by omega), hn] at hc0
  clear hn
  have hb0 : Below w.heap.size w (w.alloc (.cells #[.int .i64 (n : Int)] 3)) := (Below.refl _ _).alloc (Nat.le_refl _) _
  have X0 : Hid (Blk (w.alloc (.cells #[.int .i64 (n : Int)] 3)) w.heap.size #[.int .i64 (n : Int)] 3) := Lib.hid (Blk.new _ _ _)
  have R0 := Lib.hid (hr.below hb0 (Nat.le_refl _))
  have B0 := Lib.hid hb0
  have H := Lib.hid h
  clear hb0 h
  go_enter Try.func34, Try.ntmps34
  go_wp2_with fail
  generalize w.alloc (.cells #[.int .i64 (n : Int)] 3) = w0 at X0 R0 B0 ⊢
  refine areSaltBits_any.mono ?_
  rintro e w1 ⟨rfl, rfl⟩
  by_cases b1 : inR (n : Int) 1 32 = true
  · rw [b1]
    have hnb := (inR_eq _ _ _).1 b1
    have hnb2 := hnb.2
    have HB1 := Lib.hid b1
    clear b1 hnb
    go_wp2_with fail
    refine (bandLens_any R0.out (X0.out.cell (i := 0) (v := .int .i64 (n : Int)) rfl)).mono ?_
    rintro e w1 ⟨rfl, hb1⟩
    have x1 := (X0.out.below hb1 (Nat.le_refl _)).cell (i := 0) (v := .int .i64 (n : Int)) rfl
    have B1 := Lib.hid (B0.out.trans (hb1.mono B0.out.size))
    clear hb1 R0 X0 B0
    obtain ⟨q, hq⟩ : ∃ q, (offs xss (n : Int)).any id = q := ⟨_, rfl⟩
    rw [hq]
    have HQ := Lib.hid hq
    clear hq
    cases q with
    | true =>
      go_wp2
      go_ret2
      exact retSB_no B1.out
    | false =>
      go_wp2_with fail
      refine (divides_any (by omega) (by omega)).mono ?_
      rintro e w2 ⟨rfl, rfl⟩
      have b3 : divB W (n : Int) = false := by
        have := H.out
        rw [HB1.out, HQ.out] at this
        simpa using this
      rw [b3]
      clear b3
      go_wp2
      go_ret2
      exact retSB_no B1.out
  · have b1' : inR (n : Int) 1 32 = false := by simpa using b1
    rw [b1']
    clear b1 b1'
    go_wp2
    go_ret2
    exact retSB_no B0.out

theorem implBand_any {a : Option Addr} {c : Nat} {hs : List Hd} {xss : List (List Bool)} {W : Int} {w : World} (hr : Rd2 Value.bool w a c hs xss) :
    Calls Try.prog 34 #[.slice a xss.length c, .int .i64 W] w (RetSB (Value.int .i64) 2 w (bandR xss W) (bandOk xss W)) := by
  by_cases hok : bandOk xss W = true
  · obtain ⟨V, m, n, rfl, h1, h2, h3, h4, h5, h6, h7, h8, -, h9⟩ := bandOk_good hok
    rw [h9, hok]
    exact implBand_good hr h1 h2 h3 h4 h5 h6 (Lib.hid h7) (Lib.hid h8)
  · have hno : bandOk xss W = false := by simpa using hok
    have hR : bandR xss W = [] := by unfold bandR; rw [if_neg hok]
    rw [hR, hno]
    by_cases h1 : 1 ≤ xss.length ∧ xss.length ≤ 32
    · refine implBand_no2 hr h1.1 h1.2 rfl ?_ ?_
      · obtain ⟨_, _, _, hr0⟩ := hr.at (show 0 < xss.length by omega)
        rw [rowAt_get (by omega)]; exact hr0.len
      · simp only [bandOk] at hno
        rw [decide_eq_true h1.1, decide_eq_true h1.2] at hno
        simpa using hno
    · exact implBand_no1 hr.lens h1

end Go.Proofs.Ytdpolaedfjljmaa

namespace Go.Proofs.Ytdpolaedfjljmaa
open Go.RowKit

def fI (k : Nat) : Nat := floatOfInt .f32 (k : Int)
def fZ (d : Int) : Nat := floatOfInt .f32 d
theorem f_sub : ∀ a b : Fin 5, fbin .sub .f32 (some (fI a.val)) (some (fI b.val)) = some (fZ ((a.val : Int) - (b.val : Int))) := by decide +kernel
theorem f_sq : ∀ d : Fin 9, fbin .mul .f32 (some (fZ ((d.val : Int) - 4))) (some (fZ ((d.val : Int) - 4))) = some (fZ (((d.val : Int) - 4) * ((d.val : Int) - 4))) := by decide +kernel
theorem f_fin : ∀ d : Fin 9, fin .f32 (some (fZ ((d.val : Int) - 4))) = true := by decide +kernel
theorem f_add : ∀ (s : Fin 241) (q : Fin 17), fbin .add .f32 (some (fZ (s.val : Int))) (some (fZ (q.val : Int))) = some (fZ ((s.val : Int) + (q.val : Int))) := by decide +kernel
theorem f_root : ∀ s : Fin 257, fin .f32 (rootC (some (fZ (s.val : Int)))) = true := by decide +kernel
theorem f_root0 : ifFin (rootC (some (fZ 0))) = some 0 := by decide +kernel
theorem f_zero : fZ 0 = 0 := by decide +kernel
theorem fz_cn (d : Int) : cn .f32 (fZ d) = some (fZ d) := cn_ofInt .f32 d

theorem sq_bd {d : Int} (h : -4 ≤ d ∧ d ≤ 4) : 0 ≤ d * d ∧ d * d ≤ 16 := by
  have h3 : d = -4 ∨ d = -3 ∨ d = -2 ∨ d = -1 ∨ d = 0 ∨ d = 1 ∨ d = 2 ∨ d = 3 ∨ d = 4 := by omega
  rcases h3 with rfl | rfl | rfl | rfl | rfl | rfl | rfl | rfl | rfl <;> decide
def sqS : List Int → Int
  | [] => 0
  | d :: ds => d * d + sqS ds
theorem sqS_bd : ∀ {ds : List Int}, (∀ d ∈ ds, -4 ≤ d ∧ d ≤ 4) → 0 ≤ sqS ds ∧ sqS ds ≤ 16 * ds.length
  | [], _ => by simp [sqS]
  | d :: ds, h => by
    have h1 := sqS_bd (ds := ds) (fun x hx => h x (by simp [hx]))
    have h2 := sq_bd (h d (by simp))
    show 0 ≤ d * d + sqS ds ∧ d * d + sqS ds ≤ 16 * ((ds.length + 1 : Nat) : Int)
    generalize d * d = e at h2 ⊢
    omega
theorem dot_fold : ∀ {ds : List Int} {s : Int}, (∀ d ∈ ds, -4 ≤ d ∧ d ≤ 4) → 0 ≤ s → s + 16 * ds.length ≤ 256 →
    (List.zip (ds.map fun d => some (fZ d)) (ds.map fun d => some (fZ d))).foldl (fun s p => fbin .add .f32 s (fbin .mul .f32 p.1 p.2)) (some (fZ s)) = some (fZ (s + sqS ds))
  | [], s, _, _, _ => by simp [sqS]
  | d :: ds, s, h, h0, h1 => by
    have hd := h d (by simp)
    have hq := sq_bd hd
    have hl : ((d :: ds).length : Int) = (ds.length : Int) + 1 := by simp
    rw [hl] at h1
    show (List.zip (ds.map fun d => some (fZ d)) (ds.map fun d => some (fZ d))).foldl _ (fbin .add .f32 (some (fZ s)) (fbin .mul .f32 (some (fZ d)) (some (fZ d)))) = _
    have e1 := f_sq ⟨(d + 4).toNat, by omega⟩
    have e2 : (((d + 4).toNat : Nat) : Int) - 4 = d := by omega
    simp only [e2] at e1
    rw [e1]
    have e3 := f_add ⟨s.toNat, by omega⟩ ⟨(d * d).toNat, by omega⟩
    have e4 : ((s.toNat : Nat) : Int) = s := by omega
    have e5 : (((d * d).toNat : Nat) : Int) = d * d := by omega
    simp only [e4, e5] at e3
    rw [e3, dot_fold (fun x hx => h x (by simp [hx])) (by omega) (by omega)]
    show _ = some (fZ (s + (d * d + sqS ds)))
    rw [Int.add_assoc]

/-- Differences of small whole numbers. -/
def dI (A B : List Nat) : List Int := List.zipWith (fun (a b : Nat) => (a : Int) - (b : Int)) A B
/-- Vectors of small whole numbers. -/
def vI (A : List Nat) : List Nat := A.map fI
theorem diff_vI : ∀ {A B : List Nat}, (∀ a ∈ A, a ≤ 4) → (∀ b ∈ B, b ≤ 4) → diffC (vI A) (vI B) = (dI A B).map fun d => some (fZ d)
  | [], B, _, _ => by simp [diffC, vI, dI]
  | a :: A, [], _, _ => by simp [diffC, vI, dI]
  | a :: A, b :: B, hA, hB => by
    have ih := diff_vI (A := A) (B := B) (fun x hx => hA x (by simp [hx])) (fun x hx => hB x (by simp [hx]))
    have h1 : subC (fI a) (fI b) = some (fZ ((a : Int) - (b : Int))) := by
      unfold subC
      have e1 : cn .f32 (fI a) = some (fI a) := cn_ofInt .f32 _
      have e2 : cn .f32 (fI b) = some (fI b) := cn_ofInt .f32 _
      rw [e1, e2]
      exact f_sub ⟨a, by have := hA a (by simp); omega⟩ ⟨b, by have := hB b (by simp); omega⟩
    show subC (fI a) (fI b) :: diffC (vI A) (vI B) = some (fZ ((a : Int) - (b : Int))) :: _
    rw [h1, ih]; rfl
theorem zip_bd : ∀ {A B : List Nat}, (∀ a ∈ A, a ≤ 4) → (∀ b ∈ B, b ≤ 4) → ∀ d ∈ dI A B, -4 ≤ d ∧ d ≤ 4
  | [], _, _, _, d, h => by simp [dI] at h
  | _ :: _, [], _, _, d, h => by simp [dI] at h
  | a :: A, b :: B, hA, hB, d, h => by
    have h : d ∈ ((a : Int) - (b : Int)) :: dI A B := h
    rw [List.mem_cons] at h
    rcases h with rfl | h
    · have := hA a (by simp); have := hB b (by simp); omega
    · exact zip_bd (fun x hx => hA x (by simp [hx])) (fun x hx => hB x (by simp [hx])) d h
theorem zip_self : ∀ {A : List Nat}, sqS (dI A A) = 0
  | [] => rfl
  | a :: A => by
    show ((a : Int) - (a : Int)) * ((a : Int) - (a : Int)) + sqS (dI A A) = 0
    rw [zip_self, Int.sub_self]; rfl
theorem fin_small {d : Int} (h : -4 ≤ d ∧ d ≤ 4) : fin .f32 (some (fZ d)) = true := by
  have e1 := f_fin ⟨(d + 4).toNat, by omega⟩
  have e2 : (((d + 4).toNat : Nat) : Int) - 4 = d := by omega
  simp only [e2] at e1
  exact e1
theorem norm_small {A B : List Nat} {n : Nat} (hA : ∀ a ∈ A, a ≤ 4) (hB : ∀ b ∈ B, b ≤ 4) (lA : A.length = n) (lB : B.length = n) (h1 : 1 ≤ n) (h16 : n ≤ 16) :
    normK (vI A) (vI B) = true ∧ normT (vI A) (vI B) = ifFin (rootC (some (fZ (sqS (dI A B))))) := by
  have hd := diff_vI hA hB
  have hb := zip_bd hA hB
  have hlz : (dI A B).length = n := by simp [dI, lA, lB]
  have hN := diffN_cn (vI A) (vI B)
  have hlen : (diffN (vI A) (vI B)).length = n := by
    have := congrArg List.length hN
    rw [List.length_map, hd, List.length_map, hlz] at this
    exact this
  have hvec : isVec (diffN (vI A) (vI B)) = true := by
    unfold isVec
    rw [hlen, fins_map, hN, hd, decide_eq_true h1, decide_eq_true (by omega)]
    simp only [Bool.true_and, List.all_map, List.all_eq_true]
    intro d hdm
    exact fin_small (hb d hdm)
  have hdot : dotC (diffN (vI A) (vI B)) (diffN (vI A) (vI B)) = some (fZ (sqS (dI A B))) := by
    rw [dotC_map, hN, hd]
    have h := dot_fold (s := 0) hb (by omega) (by rw [hlz]; omega)
    rw [f_zero, Int.zero_add] at h
    exact h
  have hbd := sqS_bd hb
  rw [hlz] at hbd
  generalize sqS (dI A B) = S at hdot hbd ⊢
  have hr : fin .f32 (rootC (some (fZ S))) = true := by
    have e1 := f_root ⟨S.toNat, by omega⟩
    have e2 : ((S.toNat : Nat) : Int) = S := by omega
    simp only [e2] at e1
    exact e1
  refine ⟨?_, ?_⟩
  · unfold normK normB; rw [hvec, hdot, hr]; rfl
  · unfold normT normR; rw [if_pos hvec, hdot]

def farN (k : Nat) : Nat := (fbin .quo .f32 (some (fI k)) (some 1082130432)).getD 0
theorem far_ok : ∀ k : Fin 17, fbin .quo .f32 (some (fI k.val)) (some 1082130432) = some (farN k.val) ∧ cn .f32 (farN k.val) = some (farN k.val) ∧ farOk (farN k.val) = true ∧ leqC (some 0) (some (farN k.val)) = true := by decide +kernel

/-- How often a pair is in a list of pairs. -/
def cnt2 (a b : Int) : List Int → Nat
  | x :: y :: r => (if x = a ∧ y = b then 1 else 0) + cnt2 a b r
  | _ => 0
theorem cnt2_app {a b : Int} : ∀ (l r : List Int) (k : Nat), l.length = 2 * k → cnt2 a b (l ++ r) = cnt2 a b l + cnt2 a b r
  | [], r, _, _ => by simp [cnt2]
  | [x], _, k, h => by simp at h; omega
  | x :: y :: l, r, k, h => by
    have h' : l.length = 2 * (k - 1) := by simp at h; omega
    show _ + cnt2 a b (l ++ r) = _ + cnt2 a b l + _
    rw [cnt2_app l r (k - 1) h']; omega
theorem prow_even (t : Nat → Nat → Bool) (i k : Nat) : ∃ m, (prow t i k).length = 2 * m := by
  unfold prow
  have h : ∀ l : List Nat, (l.flatMap fun (j : Nat) => [(i : Int), (j : Int)]).length = 2 * l.length := by
    intro l; induction l with
    | nil => rfl
    | cons x l ih => simp only [List.flatMap_cons, List.length_append, ih, List.length_cons, List.length_nil]; omega
  exact ⟨_, h _⟩
theorem prows_even (t : Nat → Nat → Bool) (n : Nat) : ∀ i, ∃ m, (prows t n i).length = 2 * m
  | 0 => ⟨0, by simp [prows]⟩
  | i + 1 => by
    obtain ⟨m1, h1⟩ := prows_even t n i
    obtain ⟨m2, h2⟩ := prow_even t i n
    exact ⟨m1 + m2, by rw [prows_succ, List.length_append, h1, h2]; omega⟩
theorem cnt2_prow_ne (t : Nat → Nat → Bool) {i : Nat} (hi : i ≠ 0) (b : Int) : ∀ k, cnt2 0 b (prow t i k) = 0 := by
  intro k
  unfold prow
  generalize (List.range' (i + 1) (k - (i + 1))).filter (t i) = l
  induction l with
  | nil => rfl
  | cons x l ih =>
    show (if (i : Int) = 0 ∧ (x : Int) = b then 1 else 0) + cnt2 0 b (l.flatMap fun (j : Nat) => [(i : Int), (j : Int)]) = 0
    rw [ih, if_neg (by omega)]
theorem cnt2_prow0 (t : Nat → Nat → Bool) (c : Nat) : ∀ k, k ≤ c → cnt2 0 (c : Int) (prow t 0 k) = 0 := by
  intro k hk
  unfold prow
  have hm : ∀ x ∈ (List.range' (0 + 1) (k - (0 + 1))).filter (t 0), x < c := by
    intro x hx
    have := (List.mem_filter.1 hx).1
    rw [List.mem_range'_1] at this
    omega
  generalize (List.range' (0 + 1) (k - (0 + 1))).filter (t 0) = l at hm
  induction l with
  | nil => rfl
  | cons x l ih =>
    show (if ((0 : Nat) : Int) = 0 ∧ (x : Int) = (c : Int) then 1 else 0) + cnt2 0 (c : Int) (l.flatMap fun (j : Nat) => [((0 : Nat) : Int), (j : Int)]) = 0
    have := hm x (by simp)
    rw [ih (fun y hy => hm y (by simp [hy])), if_neg (by omega)]
theorem cnt2_pairs {t : Nat → Nat → Bool} {c : Nat} (hc : 1 ≤ c) (ht : t 0 c = true) : cnt2 0 (c : Int) (pairsR t (c + 1)) = 1 := by
  have key : ∀ i, 1 ≤ i → cnt2 0 (c : Int) (prows t (c + 1) i) = 1 := by
    intro i
    induction i with
    | zero => intro h; omega
    | succ i ih =>
      intro _
      obtain ⟨m, hm⟩ := prows_even t (c + 1) i
      rw [prows_succ, cnt2_app _ _ m hm]
      by_cases h0 : i = 0
      · subst h0
        rw [prows_zero, prow_succ t (by omega), ht, if_pos rfl]
        obtain ⟨m2, hm2⟩ := prow_even t 0 c
        rw [cnt2_app _ _ m2 hm2, cnt2_prow0 t c c (Nat.le_refl _)]
        show 0 + (0 + ((if ((0 : Nat) : Int) = 0 ∧ (c : Int) = (c : Int) then 1 else 0) + 0)) = 1
        rw [if_pos ⟨rfl, rfl⟩]
      · rw [ih (by omega), cnt2_prow_ne t h0]
  exact key (c + 1) (by omega)

end Go.Proofs.Ytdpolaedfjljmaa

namespace Go.Proofs.Ytdpolaedfjljmaa
open Go.RowKit

theorem rowAt_app_lt {α : Type} {xs : List (List α)} {x : List α} {i : Nat} (h : i < xs.length) : rowAt (xs ++ [x]) i = rowAt xs i := by
  unfold rowAt; rw [List.getElem?_append_left h]
theorem rowAt_app_end {α : Type} {xs : List (List α)} {x : List α} : rowAt (xs ++ [x]) xs.length = x := by
  unfold rowAt; rw [List.getElem?_append_right (Nat.le_refl _)]; simp
theorem rowAt_of {α : Type} {xs : List (List α)} {x : List α} {i : Nat} (h : xs[i]? = some x) : rowAt xs i = x := by unfold rowAt; rw [h]; rfl
theorem pairsR_even (t : Nat → Nat → Bool) (n : Nat) : ∃ k, (pairsR t n).length = 2 * k := prows_even t n n
theorem cnt2_step {a b x y : Int} {l : List Int} {K j : Nat} (hK : K = 2 * j) (hx : l[K]? = some x) (hy : l[K + 1]? = some y) : cnt2 a b (l.take (K + 2)) = cnt2 a b (l.take K) + (if x = a ∧ y = b then 1 else 0) := by
  have hlt := (List.getElem?_eq_some_iff.1 hy).1
  have e : l.take (K + 2) = l.take K ++ [x, y] := by
    rw [show K + 2 = (K + 1) + 1 by omega, List.take_add_one, List.take_add_one, hx, hy]; simp
  rw [e, cnt2_app _ _ j (by rw [List.length_take]; omega)]
  show _ + ((if x = a ∧ y = b then 1 else 0) + 0) = _
  omega
theorem cnt2_le {a b : Int} : ∀ l : List Int, cnt2 a b l ≤ l.length
  | [] => by simp [cnt2]
  | [x] => by simp [cnt2]
  | x :: y :: r => by
    have := cnt2_le (a := a) (b := b) r
    show (if x = a ∧ y = b then 1 else 0) + cnt2 a b r ≤ r.length + 2
    split <;> omega
theorem band_law {bs : List (List Bool)} {x : List Bool} {n W m : Nat} (hb : ∀ b ∈ bs, b.length = n) (h0 : bs[0]? = some x) (h1 : bs.length ≤ 6) (hn : 1 ≤ n ∧ n ≤ 16) (hW : 1 ≤ W) (hm : 1 ≤ m) (hnm : m * W = n) :
    bandOk (bs ++ [x]) (W : Int) = true ∧ cnt2 0 (bs.length : Int) (bandR (bs ++ [x]) (W : Int)) = 1 ∧ ∃ k, (bandR (bs ++ [x]) (W : Int)).length = 2 * k := by
  have hlen0 : 0 < bs.length := (List.getElem?_eq_some_iff.1 h0).1
  have hxm : x ∈ bs := List.mem_of_getElem? h0
  have hr0 : rowAt (bs ++ [x]) 0 = x := by rw [rowAt_app_lt hlen0, rowAt_of h0]
  have hall : ∀ r ∈ bs ++ [x], r.length = n := fun r hr => by
    rcases List.mem_append.1 hr with h | h
    · exact hb r h
    · simp at h; rw [h]; exact hb x hxm
  have hxl := hb x hxm
  have hWn : W ≤ n := by rw [← hnm]; exact Nat.le_mul_of_pos_left _ hm
  have hok : bandOk (bs ++ [x]) (W : Int) = true := by
    unfold bandOk
    rw [hr0, hxl]
    simp only [Bool.and_eq_true, decide_eq_true_eq, inR_eq, Bool.not_eq_true', List.any_eq_false, divB]
    have hmod : (n : Int) % (W : Int) = 0 := by
      rw [← hnm]; push_cast; exact Int.mul_emod_left _ _
    refine ⟨⟨⟨⟨?_, ?_⟩, ?_⟩, ?_⟩, ?_⟩
    · simp
    · simp; omega
    · omega
    · intro b hbm
      unfold offs at hbm
      simp only [List.mem_map] at hbm
      obtain ⟨r, hr, rfl⟩ := hbm
      rw [hall r hr]; simp
    · exact ⟨by omega, hmod⟩
  obtain ⟨V, m', n', hV, _, _, hV1, hn1, _, _, hn', _, _, hR⟩ := bandOk_good hok
  have hVW : V = W := by omega
  subst hVW
  refine ⟨hok, ?_, ?_⟩
  · rw [hR, List.length_append, List.length_singleton]
    refine cnt2_pairs hlen0 ?_
    unfold bandT
    rw [hr0, rowAt_app_end]
    have hm' : 0 < m' := by
      rcases Nat.eq_zero_or_pos m' with h | h
      · subst h; omega
      · exact h
    exact bandTo_yes (m := 0) (by simp) hm'
  · rw [hR]; exact pairsR_even _ _

theorem bandRL_len {xss : List (List Bool)} {W : Int} : (bandR xss W).length ≤ 2048 := by
  by_cases h : bandOk xss W = true
  · obtain ⟨V, m', n', hV, _, h32, _, _, _, _, _, _, _, hR⟩ := bandOk_good h
    rw [hR]
    have h1 := prows_len (bandT xss V m') xss.length xss.length
    have h2 : 2 * xss.length * xss.length ≤ 2 * 32 * 32 := Nat.mul_le_mul (by omega) h32
    unfold pairsR
    omega
  · unfold bandR; rw [if_neg h]; simp
theorem rowAt_map {AS : List (List Nat)} {i : Nat} (h : i < AS.length) : rowAt (AS.map vI) i = vI (AS[i]'h) := by
  unfold rowAt; rw [List.getElem?_map, List.getElem?_eq_getElem h]; rfl
theorem vec_vI {A : List Nat} {n : Nat} (hA : ∀ a ∈ A, a ≤ 4) (l : A.length = n) (hn : 1 ≤ n ∧ n ≤ 16) : isVec (vI A) = true := by
  unfold isVec
  have hl : (vI A).length = n := by unfold vI; rw [List.length_map]; exact l
  rw [hl, decide_eq_true hn.1, decide_eq_true (by omega)]
  simp only [Bool.true_and, fins, List.all_eq_true]
  intro x hx
  unfold vI at hx
  obtain ⟨a, ha, rfl⟩ := List.mem_map.1 hx
  have e : fI a = fZ (a : Int) := rfl
  rw [e, fz_cn]
  exact fin_small (by have := hA a ha; omega)
theorem near_law {AS : List (List Nat)} {x : List Nat} {n k : Nat} (hb : ∀ A ∈ AS, A.length = n ∧ ∀ a ∈ A, a ≤ 4) (h0 : AS[0]? = some x) (h1 : AS.length ≤ 6) (hn : 1 ≤ n ∧ n ≤ 16) (hk : k < 17) :
    nearOk ((AS ++ [x]).map vI) (farN k) = true ∧ cnt2 0 (AS.length : Int) (nearR ((AS ++ [x]).map vI) (farN k)) = 1 ∧ ∃ j, (nearR ((AS ++ [x]).map vI) (farN k)).length = 2 * j := by
  have hlen0 : 0 < AS.length := (List.getElem?_eq_some_iff.1 h0).1
  have hxm : x ∈ AS := List.mem_of_getElem? h0
  have hall : ∀ A ∈ AS ++ [x], A.length = n ∧ ∀ a ∈ A, a ≤ 4 := fun r hr => by
    rcases List.mem_append.1 hr with h | h
    · exact hb r h
    · simp at h; rw [h]; exact hb x hxm
  obtain ⟨f1, f2, f3, f4⟩ := far_ok ⟨k, hk⟩
  simp only at f1 f2 f3 f4
  have hlen : ((AS ++ [x]).map vI).length = AS.length + 1 := by simp
  have hrow : ∀ i, (h : i < AS.length + 1) → rowAt ((AS ++ [x]).map vI) i = vI ((AS ++ [x])[i]'(by simp; omega)) := fun i h => rowAt_map (by simp; omega)
  have hr0 : rowAt ((AS ++ [x]).map vI) 0 = vI x := by
    rw [hrow 0 (by omega)]
    congr 1
    rw [List.getElem_append_left hlen0]
    exact (List.getElem?_eq_some_iff.1 h0).2
  have hre : rowAt ((AS ++ [x]).map vI) AS.length = vI x := by
    rw [hrow _ (by omega)]
    congr 1
    simp
  have hxl : (vI x).length = n := by unfold vI; rw [List.length_map]; exact (hb x hxm).1
  have hrows : rowsOk ((AS ++ [x]).map vI) (farN k) = true := by
    unfold rowsOk
    rw [hr0, hxl, f3]
    simp only [Bool.and_eq_true, decide_eq_true_eq, Bool.not_eq_true', List.any_eq_false]
    refine ⟨⟨⟨?_, ?_⟩, trivial⟩, ?_⟩
    · simp
    · simp; omega
    · intro b hbm
      unfold bads at hbm
      simp only [List.mem_map] at hbm
      obtain ⟨r, ⟨A, hA, rfl⟩, rfl⟩ := hbm
      have h2 := hall A hA
      have h3 : (vI A).length = n := by unfold vI; rw [List.length_map]; exact h2.1
      rw [vec_vI h2.2 h2.1 hn, h3]; simp
  have hpairs : pairsAll (nearK ((AS ++ [x]).map vI)) ((AS ++ [x]).map vI).length = true := by
    rw [pairsAll_iff]
    intro i j hij hj
    rw [hlen] at hj
    unfold nearK
    rw [hrow i (by omega), hrow j hj]
    have hi2 := hall _ (List.getElem_mem (l := AS ++ [x]) (n := i) (by simp; omega))
    have hj2 := hall _ (List.getElem_mem (l := AS ++ [x]) (n := j) (by simp; omega))
    exact (norm_small hi2.2 hj2.2 hi2.1 hj2.1 hn.1 hn.2).1
  have hok : nearOk ((AS ++ [x]).map vI) (farN k) = true := by unfold nearOk; rw [hrows, hpairs]; rfl
  have hR : nearR ((AS ++ [x]).map vI) (farN k) = pairsR (nearT ((AS ++ [x]).map vI) (farN k)) (AS.length + 1) := by unfold nearR; rw [if_pos hok, hlen]
  refine ⟨hok, ?_, ?_⟩
  · rw [hR]
    refine cnt2_pairs hlen0 ?_
    unfold nearT
    rw [hr0, hre, (norm_small (hb x hxm).2 (hb x hxm).2 (hb x hxm).1 (hb x hxm).1 hn.1 hn.2).2, zip_self, f_root0, f2]
    exact f4
  · rw [hR]; exact pairsR_even _ _

end Go.Proofs.Ytdpolaedfjljmaa

namespace Go.Proofs.Ytdpolaedfjljmaa
open Go.RowKit

theorem pre_snoc {X Y : List Bool} {p k : Nat} (hp : p ≤ k) (h1 : k < X.length) (h2 : k < Y.length) :
    decide ((X.drop p).take (k + 1 - p) = (Y.drop p).take (k + 1 - p)) = (decide ((X.drop p).take (k - p) = (Y.drop p).take (k - p)) && (X[k]?.getD false == Y[k]?.getD false)) := by
  have e : k + 1 - p = (k - p) + 1 := by omega
  have e2 : p + (k - p) = k := by omega
  rw [e, List.take_add_one, List.take_add_one, List.getElem?_drop, List.getElem?_drop, e2, List.getElem?_eq_getElem h1, List.getElem?_eq_getElem h2]
  simp only [Option.toList_some, Option.getD_some]
  have key : ((X.drop p).take (k - p) ++ [X[k]] = (Y.drop p).take (k - p) ++ [Y[k]]) ↔ ((X.drop p).take (k - p) = (Y.drop p).take (k - p) ∧ X[k] = Y[k]) := by
    constructor
    · intro h
      have := List.append_inj' h rfl
      exact ⟨this.1, by simpa using this.2⟩
    · rintro ⟨h3, h4⟩
      rw [h3, h4]
  by_cases h3 : (X.drop p).take (k - p) = (Y.drop p).take (k - p) <;> by_cases h4 : X[k] = Y[k] <;> simp_all

set_option maxRecDepth 8000 in
set_option maxHeartbeats 4000000 in
theorem l07Band_any {a1 a2 : Option Addr} {c1 c2 : Nat} {X Y : List Bool} {n W m : Nat} {w : World} (hx : Rd Value.bool w a1 c1 X) (hy : Rd Value.bool w a2 c2 Y) (hX : Hid (X.length = n)) (hY : Hid (Y.length = n)) (hn : n ≤ 32) (hW : 1 ≤ W) (hWn : W ≤ n) (hm : Hid (n = m * W)) :
    Calls Try.prog 91 #[.slice a1 n c1, .slice a2 n c2, .int .i64 (W : Int)] w fun e w' => e = .returned (.bool (bandTo X Y W m)) ∧ ∃ d, w' = w.drewN d := by
  have hix := hx.idx und_bs siz_bs
  have hiy := hy.idx und_bs siz_bs
  rw [hX.out] at hix
  rw [hY.out] at hiy
  have HR := Lib.hid (And.intro hx hy)
  clear hx hy
  go_enter Try.func91, Try.ntmps91
  go_wp2
  go_loopw [7, 8, 9] (fun t _ _ wr => ∃ (q p : Nat), t = .int .i64 p ∧ p ≤ n ∧ Hid (p = q * W ∧ q ≤ m) ∧ Hid (bandTo X Y W q = false) ∧ Hid (∃ d, wr = w.drewN d)) (fun t _ _ _ => n - (intOf t).toNat)
  case atStart => exact ⟨0, 0, rfl, Nat.zero_le _, by show _ ∧ _; simp, by show _ = _; rfl, by show ∃ d, _; exact ⟨0, rfl⟩⟩
  case round =>
    obtain ⟨q, p, rfl, hpn, HQ, HF, HD⟩ := hrel
    obtain ⟨wa, rfl⟩ : ∃ wa : World, wa = wr := ⟨_, rfl⟩
    by_cases hl3 : p < n
    · have hst : q < m ∧ p + W ≤ n := by
        have := band_step (j := q) (m := m) (W := W) (by rw [← HQ.out.1, ← hm.out]; exact hl3)
        refine ⟨this.1, ?_⟩
        rw [HQ.out.1, hm.out]; exact this.2
      have hpW : p + W ≤ n := hst.2
      have HST := Lib.hid hst
      clear hst
      go_wp2_with fail
      go_loopw [8, 9] (fun s t wr => ∃ (k : Nat) (b : Bool), p ≤ k ∧ k ≤ p + W ∧ s = .bool b ∧ t = .int .i64 k ∧ Hid (b = decide ((X.drop p).take (k - p) = (Y.drop p).take (k - p))) ∧ Hid (∃ d, wr = w.drewN d)) (fun _ t _ => p + W - (intOf t).toNat)
      case atStart => exact ⟨p, true, Nat.le_refl _, by omega, rfl, rfl, by show _ = _; simp, HD⟩
      case round =>
        obtain ⟨k, b, hk1, hk2, rfl, rfl, HS, HE⟩ := hrel
        obtain ⟨wq, rfl⟩ : ∃ wq : World, wq = wr := ⟨_, rfl⟩
        by_cases hlk : k < p + W
        · have hbq : Below w.heap.size w wq := by obtain ⟨d, hd⟩ := HE.out; rw [hd]; exact below_of_drewN _ _ _
          have hcx := (HR.out.1.below hbq (Nat.le_refl _)).cell k (by rw [hX.out]; omega)
          have hcy := (HR.out.2.below hbq (Nat.le_refl _)).cell k (by rw [hY.out]; omega)
          have hsn := pre_snoc (X := X) (Y := Y) hk1 (by rw [hX.out]; omega) (by rw [hY.out]; omega)
          rw [← HS.out] at hsn
          have e0 : (default : Bool) = false := rfl
          rw [e0] at hcx hcy
          generalize X[k]?.getD false = x at hcx hsn
          generalize Y[k]?.getD false = y at hcy hsn
          have HSN := Lib.hid hsn
          have hkn : k < n := by omega
          clear hsn hbq e0
          cases b with
          | true =>
            go_wp2_with fail
            go_quiet (fail)
            have HD2 : Hid (∃ d, wq.drewN nq = w.drewN d) := by
              obtain ⟨d, hd⟩ := HE.out
              exact Lib.hid ⟨d + nq, by rw [hd, World.drewN_drewN]⟩
            clear hcx hcy
            go_wp2
            go_roundw
            case rel => exact ⟨k + 1, _, by omega, by omega, rfl, by go_num, by show _ = _; rw [HSN.out]; simp, HD2⟩
            case measure => simp [intOf]; omega
          | false =>
            go_wp2_with fail
            go_quiet (fail)
            have HD2 : Hid (∃ d, wq.drewN nq = w.drewN d) := by
              obtain ⟨d, hd⟩ := HE.out
              exact Lib.hid ⟨d + nq, by rw [hd, World.drewN_drewN]⟩
            clear hcx hcy
            go_wp2
            go_roundw
            case rel => exact ⟨k + 1, _, by omega, by omega, rfl, by go_num, by show _ = _; rw [HSN.out]; simp, HD2⟩
            case measure => simp [intOf]; omega
        · obtain rfl : k = p + W := by omega
          have hb : b = decide (bandOf X W q = bandOf Y W q) := by
            rw [HS.out, Nat.add_sub_cancel_left]; unfold bandOf; rw [← HQ.out.1]
          have HB := Lib.hid hb
          clear hb
          cases b with
          | true =>
            go_wp2
            go_ret
            exact ⟨ret_bool (bandTo_yes HB.out.symm HST.out.1).symm, HE.out⟩
          | false =>
            go_wp2
            go_roundw
            case rel => exact ⟨q + 1, p + W, by go_num, hpW, by show _ ∧ _; refine ⟨?_, HST.out.1⟩; rw [HQ.out.1, Nat.add_mul, Nat.one_mul], by show _ = _; exact bandTo_succ_no HF.out HB.out.symm, HE⟩
            case measure => simp [intOf]; omega
    · have hqm : q = m := band_end hW HQ.out.2 (by rw [← HQ.out.1, ← hm.out]; exact hl3)
      have HQM : Hid (bandTo X Y W m = false) := Lib.hid (by rw [← hqm]; exact HF.out)
      clear hqm
      go_wp2
      go_ret
      exact ⟨ret_bool HQM.out.symm, HD.out⟩

end Go.Proofs.Ytdpolaedfjljmaa

namespace Go.Proofs.Ytdpolaedfjljmaa
open Go.RowKit

theorem l00In_int (n lo hi : Int) (w : World) : Calls Try.prog 90 #[.int .i64 n, .int .i64 lo, .int .i64 hi] w fun e w' => e = .returned (.bool (inR n lo hi)) ∧ w = w' := l00In_any n lo hi w

set_option maxRecDepth 8000 in
set_option maxHeartbeats 4000000 in
theorem specBand_good {a : Option Addr} {c : Nat} {hs : List Hd} {xss : List (List Bool)} {m W n : Nat} {w : World} (hr : Rd2 Value.bool w a c hs xss) (hN1 : 1 ≤ xss.length) (hN2 : xss.length ≤ 32) (hW : 1 ≤ W) (hn0 : 1 ≤ n) (hn : n ≤ 32) (hWn : W ≤ n) (hm : Hid (n = m * W)) (hall : Hid (∀ i (h : i < xss.length), xss[i].length = n)) :
    Calls Try.prog 35 #[.slice a xss.length c, .int .i64 (W : Int)] w (RetSB (Value.int .i64) 2 w (pairsR (bandT xss W m) xss.length) true) := by
  have hi0 := rd_idxAt hr.top und_bbs siz_bbs 0 (by rw [hr.len]; omega) 0 rfl
  rw [hr.len] at hi0
  obtain ⟨a0, c0, hc0, -⟩ := hr.at (show 0 < xss.length by omega)
  rw [hall.out 0 (by omega)] at hc0
  have b1 : inR (n : Int) 1 32 = true := (inR_eq _ _ _).2 (by omega)
  have b2 : inR (W : Int) 1 (n : Int) = true := (inR_eq _ _ _).2 (by omega)
  have b3 : (n : Int) % (W : Int) = 0 := by rw [hm.out]; simp
  have b4 : (((n : Int) % (W : Int)) != 0) = false := by rw [b3]; rfl
  have hix := hr.top.idx und_bbs siz_bbs
  rw [hr.len] at hix
  have HIX := Lib.hid hix
  clear b3 hix
  go_enter Try.func35, Try.ntmps35
  go_wp2_with fail
  refine (l00In_any _ _ _ _).mono ?_
  rintro e w1 ⟨rfl, rfl⟩
  rw [b1]
  go_wp2_with fail
  refine (l00In_any _ _ _ _).mono ?_
  rintro e w1 ⟨rfl, rfl⟩
  rw [b2]
  have hWp : (0 : Int) < (W : Int) := by omega
  have hne : ¬ (W : Int) = 0 := by omega
  go_wp2
  clear b1 b2 b4 hi0 hc0 hWp hne
  go_loop [7, 40] (fun _ i => ∃ k : Nat, k ≤ xss.length ∧ i = .int .i64 k) (fun _ i => xss.length - (intOf i).toNat)
  case atStart => exact ⟨0, Nat.zero_le _, rfl⟩
  case round =>
    obtain ⟨k, hk, rfl⟩ := hrel
    by_cases hlt : k < xss.length
    · obtain ⟨ak, ck, hck, -⟩ := hr.at hlt
      rw [hall.out k hlt] at hck
      have hix := HIX.out
      have hne : ((n : Int) != (n : Int)) = false := by simp
      go_wp2
      go_round
      case rel => exact ⟨k + 1, by omega, by go_num⟩
      case measure => simp [intOf]; omega
    · obtain rfl : k = xss.length := by omega
      go_wp2_with fail
      go_loopw [8, 9, 10, 54] (fun out _ _ i wr => ∃ (k : Nat) (xs : List Int) (ao : Option Addr) (co : Nat), k ≤ xss.length ∧ i = .int .i64 k ∧ out = .slice ao xs.length co ∧ Own (Value.int .i64) 2 wr w.heap.size ao co xs ∧ Hid (xs = prows (bandT xss W m) xss.length k) ∧ Below w.heap.size w wr) (fun _ _ _ i _ => xss.length - (intOf i).toNat)
      case atStart => exact ⟨0, [], _, 0, Nat.zero_le _, rfl, rfl, own_empty w _ (Nat.le_refl _) rfl, by show _ = _; rfl, (Below.refl _ _).alloc (Nat.le_refl _) _⟩
      case round =>
        obtain ⟨i, xs, ao, co, hi, rfl, rfl, ho, HX, hb⟩ := hrel
        have HO := Lib.hid ho
        have HB := Lib.hid hb
        clear ho hb
        by_cases hlt : i < xss.length
        · have hxl : xs.length ≤ 2048 := by
            rw [HX.out]
            have h1 := prows_len (bandT xss W m) xss.length i
            have h2 : 2 * xss.length * i ≤ 2 * 32 * 32 := Nat.mul_le_mul (by omega) (by omega)
            omega
          obtain ⟨wa, rfl⟩ : ∃ wa : World, wa = wr := ⟨_, rfl⟩
          go_wp2_with fail
          go_loopw [8, 10] (fun out k wq => ∃ (j : Nat) (ys : List Int) (ap : Option Addr) (cp : Nat), i + 1 ≤ j ∧ j ≤ xss.length ∧ k = .int .i64 j ∧ out = .slice ap ys.length cp ∧ Own (Value.int .i64) 2 wq w.heap.size ap cp ys ∧ Hid (ys = xs ++ prow (bandT xss W m) i j) ∧ Below w.heap.size w wq) (fun _ k _ => xss.length - (intOf k).toNat)
          case atStart => exact ⟨i + 1, xs, ao, co, Nat.le_refl _, by omega, by go_num, rfl, HO.out, by show _ = _; rw [prow_zero, List.append_nil], HB.out⟩
          case round =>
            obtain ⟨j, ys, ap, cp, hj1, hj2, rfl, rfl, hp, HY, hbq⟩ := hrel
            obtain ⟨wq, rfl⟩ : ∃ wq : World, wq = wr := ⟨_, rfl⟩
            have HP := Lib.hid hp
            have HBQ := Lib.hid hbq
            have rr := hr.below hbq (Nat.le_refl _)
            clear hp hbq HO HB
            by_cases hlj : j < xss.length
            · have hyl : ys.length ≤ 4096 := by
                rw [HY.out, List.length_append]
                have := prow_len (bandT xss W m) i j
                omega
              obtain ⟨ai, ci, hci, hri⟩ := rr.at hlt
              obtain ⟨aj, cj, hcj, hrj⟩ := rr.at hlj
              have hXl := hall.out i hlt
              have hYl := hall.out j hlj
              have HTT : Hid (bandT xss W m i j = bandTo xss[i] xss[j] W m) := Lib.hid (by unfold bandT; rw [rowAt_get hlt, rowAt_get hlj])
              generalize xss[i] = X at hci hri hXl HTT
              generalize xss[j] = Y at hcj hrj hYl HTT
              rw [hXl] at hci
              rw [hYl] at hcj
              have hq := fun (d : Nat) => l07Band_any (W := W) (hri.drewN d) (hrj.drewN d) (Lib.hid hXl) (Lib.hid hYl) hn hW hWn hm
              obtain ⟨bb, hbb⟩ : ∃ bb, bandTo X Y W m = bb := ⟨_, rfl⟩
              rw [hbb] at hq HTT
              have HQ := Lib.hid hq
              have hix := HIX.out
              clear hri hrj hXl hYl rr hq hbb
              go_wp2_with fail
              go_quiet ((go_at_call 91; exact Calls.quiet_of (HQ.out _)))
              have hbz : Below wq.heap.size wq (wq.drewN nq) := below_of_drewN _ _ _
              have HBZ := Lib.hid hbz
              clear hbz HQ hci hcj hix
              generalize wq.drewN nq = wz at HBZ ⊢
              have HBW := Lib.hid (HBQ.out.trans (HBZ.out.mono HBQ.out.size))
              have hz1 := HBW.out.size
              have HPZ := Lib.hid (HP.out.below HBZ.out (Nat.le_refl _))
              cases bb with
              | true =>
                have HO4 := Lib.hid (HPZ.out.alloc (.cells #[.int .i64 (i : Int), .int .i64 (j : Int)] 2))
                have HL4 : Hid (Rd (Value.int .i64) (wz.alloc (.cells #[.int .i64 (i : Int), .int .i64 (j : Int)] 2)) (some ⟨wz.heap.size, 0, none⟩) 2 [(i : Int), (j : Int)]) := Lib.hid (own_lit (f := Value.int .i64) (e := 2) wz wz.heap.size [(i : Int), (j : Int)] (Nat.le_refl _) (by unfold maxLen; simp)).rd
                go_wp2_with (at_builtin; refine wpl_appendN (f := Value.int .i64) (d := 0) (base := w.heap.size) und_ise info_i (fun _ => rfl) HO4.out HL4.out rfl _ _ rfl rfl rfl (by omega) (by simp) (by omega) (by simp; omega) ?_; intro a7 c7 w7 ho7 hg7)
                have HO7 := Lib.hid ho7
                have HB7 := Lib.hid ((HBW.out.alloc hz1 (.cells #[.int .i64 (i : Int), .int .i64 (j : Int)] 2)).trans ((grown_belowOwn HO4.out hg7 (Nat.le_refl _) (by simp; omega))))
                clear ho7 hg7
                go_roundw
                case rel => exact ⟨j + 1, ys ++ [(i : Int), (j : Int)], a7, c7, by omega, by omega, by go_num, by rw [List.length_append]; rfl, HO7.out, by show _ = _; rw [prow_succ _ (by omega), HTT.out, HY.out]; simp, HB7.out⟩
                case measure => simp [intOf]; omega
              | false =>
                go_wp2
                go_roundw
                case rel => exact ⟨j + 1, ys, ap, cp, by omega, by omega, by go_num, rfl, HPZ.out, by show _ = _; rw [prow_succ _ (by omega), HTT.out, HY.out]; simp, HBW.out⟩
                case measure => simp [intOf]; omega
            · obtain rfl : j = xss.length := by omega
              go_wp2
              go_roundw
              case rel => exact ⟨i + 1, ys, ap, cp, by omega, by go_num, rfl, HP.out, by show _ = _; rw [prows_succ, HY.out, HX.out], HBQ.out⟩
              case measure => simp [intOf]; omega
        · obtain rfl : i = xss.length := by omega
          go_wp2
          go_ret2
          exact ⟨ao, co, by rw [HX.out]; rfl, HO.out.cast HX.out, HB.out⟩

set_option maxHeartbeats 1000000 in
theorem specBand_no1 {a : Option Addr} {c : Nat} {xss : List (List Bool)} {W : Int} {w : World} (hl : xss.length ≤ 9223372036854775807) (h : ¬ (1 ≤ xss.length ∧ xss.length ≤ 32)) :
    Calls Try.prog 35 #[.slice a xss.length c, .int .i64 W] w (RetSB (Value.int .i64) 2 w [] false) := by
  by_cases h1 : xss.length < 1
  · go_enter Try.func35, Try.ntmps35
    go_wp2
    go_ret2
    exact retSB_no (Below.refl _ _)
  · have h2 : 32 < xss.length := by omega
    clear h
    go_enter Try.func35, Try.ntmps35
    go_wp2
    go_ret2
    exact retSB_no (Below.refl _ _)

theorem off_at {xss : List (List Bool)} {N : Int} (h : (offs xss N).any id = true) : ¬ ∀ i (h : i < xss.length), (xss[i].length : Int) = N := by
  intro hall
  rw [List.any_eq_true] at h
  obtain ⟨x, hx, hx2⟩ := h
  simp only [offs, List.mem_map] at hx
  obtain ⟨r, hr1, rfl⟩ := hx
  obtain ⟨i, hi, rfl⟩ := List.getElem_of_mem hr1
  rw [hall i hi] at hx2; simp at hx2

set_option maxRecDepth 8000 in
set_option maxHeartbeats 2000000 in
theorem specBand_no2 {a : Option Addr} {c : Nat} {hs : List Hd} {xss : List (List Bool)} {n : Nat} {W : Int} {w : World} (hr : Rd2 Value.bool w a c hs xss) (hN1 : 1 ≤ xss.length) (hN2 : xss.length ≤ 32) (hn : (rowAt xss 0).length = n) (hnm : n ≤ 9223372036854775807)
    (h : (inR (n : Int) 1 32 && !(offs xss (n : Int)).any id && divB W (n : Int)) = false) :
    Calls Try.prog 35 #[.slice a xss.length c, .int .i64 W] w (RetSB (Value.int .i64) 2 w [] false) := by
  have hi0 := rd_idxAt hr.top und_bbs siz_bbs 0 (by rw [hr.len]; omega) 0 rfl
  rw [hr.len] at hi0
  obtain ⟨a0, c0, hc0, -⟩ := hr.at (show 0 < xss.length by omega)
  rw [← rowAt_get (by omega), hn] at hc0
  clear hn
  have H := Lib.hid h
  clear h
  go_enter Try.func35, Try.ntmps35
  go_wp2_with fail
  refine (l00In_any _ _ _ _).mono ?_
  rintro e w1 ⟨rfl, rfl⟩
  by_cases b1 : inR (n : Int) 1 32 = true
  · rw [b1]
    have hnb := (inR_eq _ _ _).1 b1
    have hnb2 := hnb.2
    have HB1 := Lib.hid b1
    clear b1 hnb
    go_wp2_with fail
    refine (l00In_any _ _ _ _).mono ?_
    rintro e w1 ⟨rfl, rfl⟩
    by_cases b2 : inR W 1 (n : Int) = true
    · rw [b2]
      have hb2 := (inR_eq _ _ _).1 b2
      have hw1 := hb2.1
      have hw2 := hb2.2
      have hne : ¬ W = 0 := by omega
      have HB2 := Lib.hid b2
      clear b2 hb2
      by_cases b3 : (n : Int) % W = 0
      · have hq : (((n : Int) % W) != 0) = false := by rw [b3]; rfl
        have hoff : (offs xss (n : Int)).any id = true := by
          have := H.out
          rw [HB1.out] at this
          simp [divB, HB2.out, b3] at this
          simpa using this
        have HOFF := Lib.hid (off_at hoff)
        have hix := hr.top.idx und_bbs siz_bbs
        rw [hr.len] at hix
        have HIX := Lib.hid hix
        clear b3 hoff hix
        go_wp2
        clear hq hi0 hc0
        go_loop [7, 40] (fun _ i => ∃ k : Nat, k ≤ xss.length ∧ i = .int .i64 k ∧ Hid (∀ i, i < k → ∀ (h : i < xss.length), (xss[i].length : Int) = (n : Int))) (fun _ i => xss.length - (intOf i).toNat)
        case atStart => exact ⟨0, Nat.zero_le _, rfl, by show ∀ i, _; intro i hi; omega⟩
        case round =>
          obtain ⟨k, hk, rfl, HK⟩ := hrel
          by_cases hlt : k < xss.length
          · obtain ⟨ak, ck, hck, hrk⟩ := hr.at hlt
            have hlk := hrk.len
            obtain ⟨z, hz⟩ : ∃ z, xss[k].length = z := ⟨_, rfl⟩
            rw [hz] at hck hlk
            have HZ := Lib.hid hz
            have hix := HIX.out
            clear hz hrk
            by_cases hzn : z = n
            · subst hzn
              have hne2 : ((z : Int) != (z : Int)) = false := by simp
              go_wp2
              go_round
              case rel =>
                refine ⟨k + 1, by omega, by go_num, ?_⟩
                show ∀ i, _
                intro i hi hi2
                by_cases hik : i = k
                · subst hik; rw [HZ.out]
                · exact HK.out i (by omega) hi2
              case measure => simp [intOf]; omega
            · have hne2 : ((z : Int) != (n : Int)) = true := by simp; omega
              clear hzn
              go_wp2
              go_ret2
              exact retSB_no (Below.refl _ _)
          · obtain rfl : k = xss.length := by omega
            exact absurd (fun i hi => HK.out i hi hi) HOFF.out
      · have hq : (((n : Int) % W) != 0) = true := by simpa using b3
        clear b3
        go_wp2
        go_ret2
        exact retSB_no (Below.refl _ _)
    · have b2' : inR W 1 (n : Int) = false := by simpa using b2
      rw [b2']
      clear b2 b2'
      go_wp2
      go_ret2
      exact retSB_no (Below.refl _ _)
  · have b1' : inR (n : Int) 1 32 = false := by simpa using b1
    rw [b1']
    clear b1 b1'
    go_wp2
    go_ret2
    exact retSB_no (Below.refl _ _)

theorem specBand_any {a : Option Addr} {c : Nat} {hs : List Hd} {xss : List (List Bool)} {W : Int} {w : World} (hr : Rd2 Value.bool w a c hs xss) :
    Calls Try.prog 35 #[.slice a xss.length c, .int .i64 W] w (RetSB (Value.int .i64) 2 w (bandR xss W) (bandOk xss W)) := by
  by_cases hok : bandOk xss W = true
  · obtain ⟨V, m, n, rfl, h1, h2, h3, h4, h5, h6, h7, h8, -, h9⟩ := bandOk_good hok
    rw [h9, hok]
    exact specBand_good hr h1 h2 h3 h4 h5 h6 (Lib.hid h7) (Lib.hid h8)
  · have hno : bandOk xss W = false := by simpa using hok
    have hR : bandR xss W = [] := by unfold bandR; rw [if_neg hok]
    rw [hR, hno]
    by_cases h1 : 1 ≤ xss.length ∧ xss.length ≤ 32
    · refine specBand_no2 hr h1.1 h1.2 rfl ?_ ?_
      · obtain ⟨_, _, _, hr0⟩ := hr.at (show 0 < xss.length by omega)
        rw [rowAt_get (by omega)]; exact hr0.len
      · simp only [bandOk] at hno
        rw [decide_eq_true h1.1, decide_eq_true h1.2] at hno
        simpa using hno
    · exact specBand_no1 hr.lens h1

theorem bandR_len (xss : List (List Bool)) (W : Int) : (bandR xss W).length ≤ 2048 := by
  by_cases hok : bandOk xss W = true
  · obtain ⟨V, m, n, rfl, h1, h2, h3, h4, h5, h6, h7, h8, -, h9⟩ := bandOk_good hok
    rw [h9]
    unfold pairsR
    have h1 := prows_len (bandT xss V m) xss.length xss.length
    have h2 : 2 * xss.length * xss.length ≤ 2 * 32 * 32 := Nat.mul_le_mul (by omega) (by omega)
    omega
  · have hR : bandR xss W = [] := by unfold bandR; rw [if_neg hok]
    rw [hR]; simp

end Go.Proofs.Ytdpolaedfjljmaa
