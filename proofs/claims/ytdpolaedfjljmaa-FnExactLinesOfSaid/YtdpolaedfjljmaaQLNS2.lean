/- The walks of the laws' small helpers on slices of int64. slices.IndexFunc and slices.ContainsFunc at []int64, for whatever closure. within, l00In; numbers of a list within bounds. Names: letters of a text, in both texts. -/
import Derived.Test.YtdpolaedfjljmaaRows
import Derived.Test.YtdpolaedfjljmaaQLNS0
import Derived.IntWalk
namespace Go.Proofs.Ytdpolaedfjljmaa
open Go.RowKit

theorem und_is : Try.prog.underlying 22 = some (.slice (Try.prog.elem 22)) := by kernel_rfl
theorem siz_is (w : World) : (sizeOf (Try.prog.elem 22)).run Try.prog w = .ok 1 w := by kernel_rfl
theorem und_ise : Try.prog.underlying 22 = some (.slice 2) := by kernel_rfl
theorem info_i : (Try.prog.info? 2).map (fun i => (i.zero, i.size, i.bytes)) = some (some (.int .i64 0), 1, 8) := by kernel_rfl

theorem int_ne {a b : Int} (h : (a != b) = true) : ¬ a = b := by simpa using h

set_option maxHeartbeats 400000 in
theorem eqI_any {a1 a2 : Option Addr} {c1 c2 : Nat} {xs ys : List Int} {w : World} (hx : Rd (Value.int .i64) w a1 c1 xs) (hy : Rd (Value.int .i64) w a2 c2 ys) :
    Calls Try.prog 110 #[.slice a1 xs.length c1, .slice a2 ys.length c2] w fun e w' => e = .returned (.bool (decide (xs = ys))) ∧ Below w.heap.size w w' := by
  have hlx := hx.len
  have hly := hy.len
  go_enter Try.func110, Try.ntmps110
  by_cases hl : xs.length = ys.length
  · have hd : ((xs.length : Int) != (ys.length : Int)) = false := by simp [hl]
    have HL : Hid (xs.length = ys.length) := hl
    clear hl
    go_wp2
    go_loopw [5] (fun i wr => ∃ k : Nat, k ≤ xs.length ∧ i = .int .i64 k ∧ xs.take k = ys.take k ∧ ∃ n, wr = w.drewN n) (fun i _ => xs.length - (intOf i).toNat)
    case atStart => exact ⟨0, Nat.zero_le _, rfl, rfl, 0, rfl⟩
    case round =>
      obtain ⟨k, hk, rfl, ht, n, rfl⟩ := hrel
      have HT : Hid (xs.take k = ys.take k) := ht
      clear ht hd
      by_cases hlt : k < xs.length
      · have hlt2 : k < ys.length := by rw [← HL.out]; exact hlt
        have hcx := hx.cell k hlt
        have hcy := hy.cell k hlt2
        have hix := hx.idx und_is siz_is
        have hiy := hy.idx und_is siz_is
        go_wp2_with fail
        go_quiet (fail)
        go_wp2
        · have h := int_ne (by assumption)
          go_ret
          exact ⟨ret_bool (by simp [take_ne_of hlt hlt2 h]), by rw [World.drewN_drewN]; exact below_of_drewN _ _ _⟩
        · have h : ¬ (xs[k] != ys[k]) = true := by simp_all
          go_roundw
          case rel => exact ⟨k + 1, by omega, by go_num, take_eq_snoc hlt hlt2 HT.out (by simpa using h), _, rfl⟩
          case measure => simp [intOf]; omega
      · go_wp2
        go_ret
        have : k = xs.length := by omega
        subst this
        have h := HT.out
        rw [List.take_length, HL.out, List.take_length] at h
        exact ⟨ret_bool (by simp [h]), below_of_drewN _ _ _⟩
  · have hd : ((xs.length : Int) != (ys.length : Int)) = true := by simp; omega
    have HL : Hid (¬ xs.length = ys.length) := hl
    clear hl
    go_wp2
    go_ret
    refine ⟨ret_bool ?_, Below.refl _ _⟩
    have h := HL.out
    rw [decide_eq_false]
    rintro rfl
    exact h rfl

set_option maxHeartbeats 400000 in
theorem markI_any {a : Option Addr} {c base k0 : Nat} {xs : List Int} {w : World} (ho : Own (Value.int .i64) 2 w base a c xs) (hk : k0 + xs.length ≤ 4611686018427387904) :
    Calls Try.prog 59 #[.slice a xs.length c, .int .i64 k0] w (RetM (Value.int .i64) 2 w base a c (fun k => (k : Int)) k0 xs.length) := by
  go_enter Try.func59, Try.ntmps59
  go_wp2
  go_loopw [1, 5] (fun kk i wr => ∃ k : Nat, k ≤ xs.length ∧ i = .int .i64 k ∧ kk = .int .i64 ((k0 + k : Nat) : Int) ∧ Own (Value.int .i64) 2 wr base a c (marks (fun k => (k : Int)) k0 k ++ xs.drop k) ∧ w.grownBy wr (a.map (·.block))) (fun _ i _ => xs.length - (intOf i).toNat)
  case atStart => exact ⟨0, Nat.zero_le _, rfl, rfl, by simpa [marks] using ho, World.grownBy.refl _ _⟩
  case round =>
    obtain ⟨k, hk, rfl, rfl, hw, hg⟩ := hrel
    clear ho
    have hln : (marks (fun k => (k : Int)) k0 k ++ xs.drop k).length = xs.length := by simp [marks_length]; omega
    by_cases hlt : k < xs.length
    · have hio := hw.idx und_is siz_is
      rw [hln] at hio
      obtain ⟨v0, hcs⟩ : ∃ v, wr.cell? (elt a k) = some v := ⟨_, hw.cell k (by omega)⟩
      have hfz := hw.free k (by omega)
      have hst := hw.set k (by omega) ((k0 + k : Nat) : Int)
      rw [marks_set (fun k => (k : Int)) k0 k xs hlt] at hst
      have HG : Hid (wr.grownBy _ _) := hst.2
      have HS : Hid (Own _ _ _ _ _ _ _) := hst.1
      have HC : Hid (w.grownBy _ _) := hg
      clear hst hg hln
      go_wp2
      go_roundw
      case rel => exact ⟨k + 1, by omega, by go_num, by go_num, by simpa using HS.out, grown_trans HC.out (by simpa using HG.out)⟩
      case measure => simp [intOf]; omega
    · obtain rfl : k = xs.length := by omega
      have HO : Hid (Own _ _ _ _ _ _ _) := hw
      have HC : Hid (w.grownBy _ _) := hg
      clear hw hln hg
      go_wp2
      go_ret
      exact ⟨rfl, HO.out.cast (by simp), HC.out⟩

set_option maxHeartbeats 400000 in
theorem heldI_any {a : Option Addr} {c k0 : Nat} {n : Nat} {w : World} (hr : Rd (Value.int .i64) w a c (marks (fun k => (k : Int)) k0 n)) (hk : k0 + n ≤ 4611686018427387904) :
    Calls Try.prog 60 #[.slice a n c, .int .i64 k0] w fun e w' => e = .returned (.int .i64 ((k0 + n : Nat) : Int)) ∧ Below w.heap.size w w' := by
  go_enter Try.func60, Try.ntmps60
  go_wp2
  go_loop [1, 5] (fun kk i => ∃ k : Nat, k ≤ n ∧ i = .int .i64 k ∧ kk = .int .i64 ((k0 + k : Nat) : Int)) (fun _ i => n - (intOf i).toNat)
  case atStart => exact ⟨0, Nat.zero_le _, rfl, rfl⟩
  case round =>
    obtain ⟨k, hk, rfl, rfl⟩ := hrel
    by_cases hlt : k < n
    · have hio := hr.idx und_is siz_is
      rw [marks_length] at hio
      have hcs := hr.cell k (by rw [marks_length]; exact hlt)
      rw [marks_get _ _ _ _ hlt, Option.getD_some] at hcs
      have hne : (((k0 : Int) + (k : Int)) != ((k0 : Int) + (k : Int))) = false := by simp
      go_wp2
      go_round
      case rel => exact ⟨k + 1, by omega, by go_num, by go_num⟩
      case measure => simp [intOf]; omega
    · obtain rfl : k = n := by omega
      go_wp2
      go_ret
      exact ⟨rfl, Below.refl _ _⟩

end Go.Proofs.Ytdpolaedfjljmaa

namespace Go.Proofs.Ytdpolaedfjljmaa
open Go.RowKit

set_option maxHeartbeats 400000 in
theorem indexFunci_any (a : Option Addr) (c : Nat) (xs : List Int) (w : World) (F : Nat) (caps : Array Value) (p : Int → Bool) (hF : ∀ (vs : Array Value) (w : World), (callFunc F vs).run Try.prog w = .ok (.enter F vs) w) (hr : Rd (Value.int .i64) w a c xs)
    (hclo : ∀ k (h : k < xs.length) wr, Below w.heap.size w wr → Calls Try.prog F (#[(Value.int .i64) xs[k]] ++ caps) wr fun e w' => e = .returned (.bool (p xs[k])) ∧ Below wr.heap.size wr w') :
    Calls Try.prog 158 #[.slice a xs.length c, .func (.func F) #[] caps] w fun e w' => e = .returned (.int .i64 (idxOf p xs)) ∧ Below w.heap.size w w' := by
  have hln := hr.len
  go_enter Try.func158, Try.ntmps158
  go_wp2
  go_loopw [5, 8] (fun _ i wr => ∃ k : Nat, k ≤ xs.length ∧ i = .int .i64 k ∧ (∀ x ∈ xs.take k, p x = false) ∧ Below w.heap.size w wr) (fun _ i _ => xs.length - (intOf i).toNat)
  case atStart => exact ⟨0, Nat.zero_le _, rfl, by simp, Below.refl _ _⟩
  case round =>
    obtain ⟨k, hk, rfl, hp, hb⟩ := hrel
    have HP : Hid (∀ x ∈ xs.take k, p x = false) := hp
    clear hp
    by_cases hlt : k < xs.length
    · have hr' := hr.below hb (Nat.le_refl _)
      have hix := hr'.idx und_is siz_is
      have hcx := hr'.cell k hlt
      have HC : Hid (∀ k (h : k < xs.length) wr, Below w.heap.size w wr → Calls Try.prog F (#[(Value.int .i64) xs[k]] ++ caps) wr fun e w' => e = .returned (.bool (p xs[k])) ∧ Below wr.heap.size wr w') := hclo
      clear hclo
      simp only [List.getElem?_eq_getElem hlt, Option.getD_some] at hcx
      go_wp2_with fail
      refine (HC.out k hlt wr hb).mono ?_
      rintro e w1 ⟨rfl, hb1⟩
      by_cases hpx : p xs[k] = true
      · have HX : Hid (p xs[k] = true) := hpx
        rw [hpx]
        clear hpx
        go_wp2
        go_ret
        refine ⟨ret_int ?_, hb.trans (hb1.mono hb.size)⟩
        rw [idxOf_here HX.out HP.out]
      · have hpx' : p xs[k] = false := by simpa using hpx
        have HX : Hid (p xs[k] = false) := hpx'
        rw [hpx']
        clear hpx hpx'
        go_wp2
        go_roundw
        case rel => exact ⟨k + 1, by omega, by go_num, snoc_none hlt HP.out HX.out, hb.trans (hb1.mono hb.size)⟩
        case measure => simp [intOf]; omega
    · obtain rfl : k = xs.length := by omega
      have HC : Hid (∀ k (h : k < xs.length) wr, Below w.heap.size w wr → Calls Try.prog F (#[(Value.int .i64) xs[k]] ++ caps) wr fun e w' => e = .returned (.bool (p xs[k])) ∧ Below wr.heap.size wr w') := hclo
      clear hclo
      go_wp2
      go_ret
      refine ⟨ret_int ?_, hb⟩
      rw [idxOf_none (by simpa using HP.out)]

set_option maxHeartbeats 400000 in
theorem containsFunci_any (a : Option Addr) (c : Nat) (xs : List Int) (w : World) (F : Nat) (caps : Array Value) (p : Int → Bool) (hF : ∀ (vs : Array Value) (w : World), (callFunc F vs).run Try.prog w = .ok (.enter F vs) w) (hr : Rd (Value.int .i64) w a c xs)
    (hclo : ∀ k (h : k < xs.length) wr, Below w.heap.size w wr → Calls Try.prog F (#[(Value.int .i64) xs[k]] ++ caps) wr fun e w' => e = .returned (.bool (p xs[k])) ∧ Below wr.heap.size wr w') :
    Calls Try.prog 125 #[.slice a xs.length c, .func (.func F) #[] caps] w fun e w' => e = .returned (.bool (xs.any p)) ∧ Below w.heap.size w w' := by
  have HC := Lib.hid (indexFunci_any a c xs w F caps p hF hr hclo)
  clear hclo
  go_enter Try.func125, Try.ntmps125
  go_wp2_with fail
  refine HC.out.mono ?_
  rintro e w1 ⟨rfl, hb1⟩
  have HB := Lib.hid (idxOf_any p xs)
  go_wp2
  go_ret
  exact ⟨ret_bool (by simpa using HB.out), hb1⟩

end Go.Proofs.Ytdpolaedfjljmaa

namespace Go.Proofs.Ytdpolaedfjljmaa
open Go.RowKit

def inR (n lo hi : Int) : Bool := decide (lo ≤ n ∧ n ≤ hi)
theorem inR_eq (n lo hi : Int) : inR n lo hi = true ↔ lo ≤ n ∧ n ≤ hi := by simp [inR]

theorem within_any (n lo hi : Int) (w : World) : Calls Try.prog 102 #[.int .i64 n, .int .i64 lo, .int .i64 hi] w fun e w' => e = .returned (.bool (inR n lo hi)) ∧ w = w' := by
  by_cases h1 : lo ≤ n
  · go_enter Try.func102, Try.ntmps102
    go_wp2
    go_ret
    exact ⟨ret_bool (by simp [inR]; omega), rfl⟩
  · have h2 : decide (lo ≤ n) = false := by simpa using h1
    go_enter Try.func102, Try.ntmps102
    go_wp2
    go_ret
    exact ⟨ret_bool (by simp [inR]; omega), rfl⟩

theorem l00In_any (n lo hi : Int) (w : World) : Calls Try.prog 90 #[.int .i64 n, .int .i64 lo, .int .i64 hi] w fun e w' => e = .returned (.bool (inR n lo hi)) ∧ w = w' := by
  by_cases h1 : lo ≤ n
  · go_enter Try.func90, Try.ntmps90
    go_wp2
    go_ret
    exact ⟨ret_bool (by simp [inR]; omega), rfl⟩
  · have h2 : decide (lo ≤ n) = false := by simpa using h1
    go_enter Try.func90, Try.ntmps90
    go_wp2
    go_ret
    exact ⟨ret_bool (by simp [inR]; omega), rfl⟩

theorem areWithin1_any (x lo hi : Int) (p1 p2 : Addr) (w : World) (h1 : w.cell? p1 = some (.int .i64 lo)) (h2 : w.cell? p2 = some (.int .i64 hi)) :
    Calls Try.prog 157 #[.int .i64 x, .pointer (some p1), .pointer (some p2)] w fun e w' => e = .returned (.bool (!inR x lo hi)) ∧ w = w' := by
  go_enter Try.func157, Try.ntmps157
  go_wp2_with (go_at_call 102; refine (within_any _ _ _ _).mono ?_; rintro e w1 ⟨rfl, rfl⟩)
  go_ret
  exact ⟨rfl, rfl⟩

theorem call_areWithin1 (vs : Array Value) (w : World) : (callFunc 157 vs).run Try.prog w = .ok (.enter 157 vs) w := by kernel_rfl

theorem areWithin_any (a : Option Addr) (c : Nat) (xs : List Int) (lo hi : Int) (w : World) (hr : Rd (Value.int .i64) w a c xs) :
    Calls Try.prog 124 #[.slice a xs.length c, .int .i64 lo, .int .i64 hi] w fun e w' => e = .returned (.bool (xs.all (fun x => inR x lo hi))) ∧ Below w.heap.size w w' := by
  have hb : Below w.heap.size w ((w.alloc (.cells #[.int .i64 lo] 2)).alloc (.cells #[.int .i64 hi] 2)) := ((Below.refl _ _).alloc (Nat.le_refl _) _).alloc (by simp) _
  have hc := containsFunci_any a c xs ((w.alloc (.cells #[.int .i64 lo] 2)).alloc (.cells #[.int .i64 hi] 2)) 157 #[.pointer (some ⟨w.heap.size, 0, none⟩), .pointer (some ⟨w.heap.size + 1, 0, none⟩)] (fun x => !inR x lo hi) call_areWithin1 (hr.below hb (Nat.le_refl _)) (by
    intro k h wr hbr
    refine (areWithin1_any _ lo hi _ _ wr ?_ ?_).mono ?_
    · rw [hbr.cell (by simp; omega)]; rw [World.cell?_alloc_past _ _ _ (by simp), World.cell?_alloc_at _ _ _ _ rfl]; rfl
    · rw [hbr.cell (by simp)]; rw [World.cell?_alloc_at _ _ _ _ (by simp)]; rfl
    · rintro e w1 ⟨rfl, rfl⟩; exact ⟨rfl, Below.refl _ _⟩)
  have HC := Lib.hid hc
  have HB := Lib.hid hb
  clear hc hb
  go_enter Try.func124, Try.ntmps124
  go_wp2_with fail
  refine HC.out.mono ?_
  rintro e w1 ⟨rfl, hb1⟩
  go_wp2
  go_ret
  refine ⟨ret_bool ?_, HB.out.trans (hb1.mono (by simp; omega))⟩
  rw [Bool.eq_iff_iff]; simp [List.all_eq_true, List.any_eq_true]

theorem rd_idxAt {α : Type} [Inhabited α] {f : α → Value} {w : World} {a : Option Addr} {c : Nat} {xs : List α} (h : Rd f w a c xs) {P : Program} {T : TypeId} (hT : P.underlying T = some (.slice (P.elem T))) (hs : ∀ w, (sizeOf (P.elem T)).run P w = .ok 1 w) (k : Nat) (hk : k < xs.length) (i : Int) (hi : i = (k : Int)) :
    ∀ w' : World, (Instr.indexAt T (.slice a xs.length c) (.int .i64 i)).run P w' = .ok (.pointer (some (elt a k))) w' := by
  subst hi; exact fun w' => h.idx hT hs w' k hk

end Go.Proofs.Ytdpolaedfjljmaa

namespace Go.Proofs.Ytdpolaedfjljmaa
open Go.RowKit

/-- A text's byte. -/
def byt (s : ByteArray) (k : Nat) : Nat := (s.get! k).toNat
theorem byt_eq {s : ByteArray} {k : Nat} (h : k < s.size) : (s[k]'h).toNat = byt s k := by
  unfold byt
  cases s with
  | mk d =>
    have hd : k < d.size := h
    simp [ByteArray.get!, hd]
    rfl
theorem byt_lt (s : ByteArray) (k : Nat) : byt s k < 256 := UInt8.toNat_lt _

def lowB (s : ByteArray) (k : Nat) : Bool := decide (97 ≤ byt s k) && decide (byt s k ≤ 122)
def nameB (s : ByteArray) : Bool := decide (1 ≤ s.size) && decide (s.size ≤ 8) && (List.range s.size).all (lowB s)
theorem nameB_no {s : ByteArray} {k : Nat} (hk : k < s.size) (h : lowB s k = false) : nameB s = false := by
  unfold nameB
  have : (List.range s.size).all (lowB s) = false := by rw [List.all_eq_false]; exact ⟨k, List.mem_range.2 hk, by rw [h]; simp⟩
  rw [this]; simp
theorem nameB_yes {s : ByteArray} (h : ∀ k, k < s.size → lowB s k = true) : nameB s = (decide (1 ≤ s.size) && decide (s.size ≤ 8)) := by
  unfold nameB
  have : (List.range s.size).all (lowB s) = true := by rw [List.all_eq_true]; intro k hk; exact h k (List.mem_range.1 hk)
  rw [this]; simp

set_option maxHeartbeats 1000000 in
theorem isName_any {s : ByteArray} {w : World} (hs : s.size ≤ 9223372036854775807) : Calls Try.prog 70 #[.string s] w fun e w' => e = .returned (.bool (nameB s)) ∧ w = w' := by
  obtain ⟨b, hb⟩ : ∃ b, nameB s = b := ⟨_, rfl⟩
  have HB := Lib.hid hb
  rw [hb]
  clear hb
  go_enter Try.func70, Try.ntmps70
  go_wp2
  go_loopw [3, 6] (fun _ vi wr => ∃ k : Nat, vi = .int .i64 k ∧ k ≤ s.size ∧ Hid (∀ j, j < k → lowB s j = true) ∧ wr = w) (fun _ vi _ => s.size - (intOf vi).toNat)
  case atStart => exact ⟨0, rfl, Nat.zero_le _, Lib.hid (fun j h => by omega), rfl⟩
  case round =>
    obtain ⟨k, rfl, hk, HP, rfl⟩ := hrel
    by_cases hlt : k < s.size
    · have hltz : (k : Int) < (s.size : Int) := by omega
      have hbe := byt_eq hlt
      have ewk : IntKind.i64.wrap ((k : Int) + 1) = (k : Int) + 1 := IntWalk.i64_in _ (by omega)
      have hlw : lowB s k = (decide (97 ≤ byt s k) && decide (byt s k ≤ 122)) := rfl
      have HLW := Lib.hid hlw
      clear hlw
      obtain ⟨x, hx⟩ : ∃ x, byt s k = x := ⟨_, rfl⟩
      rw [hx] at hbe HLW
      clear hx
      by_cases h1 : x < 97
      · have hd1 : decide ((x : Int) < 97) = true := decide_eq_true (by omega)
        have HE : Hid (b = false) := Lib.hid (by rw [← HB.out]; exact nameB_no hlt (by rw [HLW.out, decide_eq_false (by omega)]; rfl))
        go_wp2
        go_ret
        exact ⟨ret_bool HE.out.symm, rfl⟩
      · have hd1 : decide ((x : Int) < 97) = false := decide_eq_false (by omega)
        by_cases h2 : 122 < x
        · have hd2 : decide ((122 : Int) < (x : Int)) = true := decide_eq_true (by omega)
          have HE : Hid (b = false) := Lib.hid (by rw [← HB.out]; exact nameB_no hlt (by rw [HLW.out, decide_eq_false (show ¬ x ≤ 122 by omega), Bool.and_false]))
          go_wp2
          go_ret
          exact ⟨ret_bool HE.out.symm, rfl⟩
        · have hd2 : decide ((122 : Int) < (x : Int)) = false := decide_eq_false (by omega)
          have HP1 : Hid (∀ j, j < k + 1 → lowB s j = true) := Lib.hid (fun j h => by
            by_cases e : j = k
            · rw [e, HLW.out, decide_eq_true (by omega), decide_eq_true (by omega)]; rfl
            · exact HP.out j (by omega))
          go_wp2
          go_roundw
          case rel => exact ⟨k + 1, by go_num, by omega, HP1, trivial⟩
          case measure => simp [intOf]; omega
    · obtain rfl : k = s.size := by omega
      have hltz : ¬ (s.size : Int) < (s.size : Int) := by omega
      have HE : Hid (b = (decide (1 ≤ s.size) && decide (s.size ≤ 8))) := Lib.hid (by rw [← HB.out]; exact nameB_yes HP.out)
      by_cases h1 : 1 ≤ s.size
      · have hd1 : decide ((1 : Int) ≤ (s.size : Int)) = true := decide_eq_true (by omega)
        have hd2 : decide ((s.size : Int) ≤ 8) = decide (s.size ≤ 8) := by by_cases h : s.size ≤ 8 <;> simp [h] <;> omega
        have hd3 : decide (1 ≤ s.size) = true := decide_eq_true h1
        go_wp2
        go_ret
        exact ⟨ret_bool (by rw [HE.out, hd3]; simp), rfl⟩
      · have hd1 : decide ((1 : Int) ≤ (s.size : Int)) = false := decide_eq_false (by omega)
        have hd3 : decide (1 ≤ s.size) = false := decide_eq_false h1
        go_wp2
        go_ret
        exact ⟨ret_bool (by rw [HE.out, hd3]; rfl), rfl⟩

set_option maxHeartbeats 1000000 in
theorem l07Name_any {s : ByteArray} {w : World} (hs : s.size ≤ 9223372036854775807) : Calls Try.prog 113 #[.string s] w fun e w' => e = .returned (.bool (nameB s)) ∧ w = w' := by
  obtain ⟨b, hb⟩ : ∃ b, nameB s = b := ⟨_, rfl⟩
  have HB := Lib.hid hb
  rw [hb]
  clear hb
  go_enter Try.func113, Try.ntmps113
  go_wp2
  go_loopw [3] (fun vi wr => ∃ k : Nat, vi = .int .i64 k ∧ k ≤ s.size ∧ Hid (∀ j, j < k → lowB s j = true) ∧ wr = w) (fun vi _ => s.size - (intOf vi).toNat)
  case atStart => exact ⟨0, rfl, Nat.zero_le _, Lib.hid (fun j h => by omega), rfl⟩
  case round =>
    obtain ⟨k, rfl, hk, HP, rfl⟩ := hrel
    by_cases hlt : k < s.size
    · have hltz : (k : Int) < (s.size : Int) := by omega
      have hbe := byt_eq hlt
      have ewk : IntKind.i64.wrap ((k : Int) + 1) = (k : Int) + 1 := IntWalk.i64_in _ (by omega)
      have hlw : lowB s k = (decide (97 ≤ byt s k) && decide (byt s k ≤ 122)) := rfl
      have HLW := Lib.hid hlw
      clear hlw
      obtain ⟨x, hx⟩ : ∃ x, byt s k = x := ⟨_, rfl⟩
      rw [hx] at hbe HLW
      clear hx
      by_cases h1 : x < 97
      · have hd1 : decide ((x : Int) < 97) = true := decide_eq_true (by omega)
        have HE : Hid (b = false) := Lib.hid (by rw [← HB.out]; exact nameB_no hlt (by rw [HLW.out, decide_eq_false (by omega)]; rfl))
        go_wp2
        go_ret
        exact ⟨ret_bool HE.out.symm, rfl⟩
      · have hd1 : decide ((x : Int) < 97) = false := decide_eq_false (by omega)
        by_cases h2 : 122 < x
        · have hd2 : decide ((122 : Int) < (x : Int)) = true := decide_eq_true (by omega)
          have HE : Hid (b = false) := Lib.hid (by rw [← HB.out]; exact nameB_no hlt (by rw [HLW.out, decide_eq_false (show ¬ x ≤ 122 by omega), Bool.and_false]))
          go_wp2
          go_ret
          exact ⟨ret_bool HE.out.symm, rfl⟩
        · have hd2 : decide ((122 : Int) < (x : Int)) = false := decide_eq_false (by omega)
          have HP1 : Hid (∀ j, j < k + 1 → lowB s j = true) := Lib.hid (fun j h => by
            by_cases e : j = k
            · rw [e, HLW.out, decide_eq_true (by omega), decide_eq_true (by omega)]; rfl
            · exact HP.out j (by omega))
          go_wp2
          go_roundw
          case rel => exact ⟨k + 1, by go_num, by omega, HP1, trivial⟩
          case measure => simp [intOf]; omega
    · obtain rfl : k = s.size := by omega
      have hltz : ¬ (s.size : Int) < (s.size : Int) := by omega
      have HE : Hid (b = (decide (1 ≤ s.size) && decide (s.size ≤ 8))) := Lib.hid (by rw [← HB.out]; exact nameB_yes HP.out)
      by_cases h1 : 1 ≤ s.size
      · have hd1 : decide ((1 : Int) ≤ (s.size : Int)) = true := decide_eq_true (by omega)
        have hd2 : decide ((s.size : Int) ≤ 8) = decide (s.size ≤ 8) := by by_cases h : s.size ≤ 8 <;> simp [h] <;> omega
        have hd3 : decide (1 ≤ s.size) = true := decide_eq_true h1
        go_wp2
        go_ret
        exact ⟨ret_bool (by rw [HE.out, hd3]; simp), rfl⟩
      · have hd1 : decide ((1 : Int) ≤ (s.size : Int)) = false := decide_eq_false (by omega)
        have hd3 : decide (1 ≤ s.size) = false := decide_eq_false h1
        go_wp2
        go_ret
        exact ⟨ret_bool (by rw [HE.out, hd3]; rfl), rfl⟩

end Go.Proofs.Ytdpolaedfjljmaa
