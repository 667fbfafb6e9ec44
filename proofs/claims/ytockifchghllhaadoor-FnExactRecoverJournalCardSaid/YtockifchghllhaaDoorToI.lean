/- The walks of the laws' small helpers on slices of int64. slices.IndexFunc and slices.ContainsFunc at []int64, for whatever closure. within, l00In; numbers of a list within bounds. Names: letters of a text, in both texts. -/
import Derived.Test.YtockifchghllhaaDoorRows
import Derived.Test.YtockifchghllhaaDoorLib
import Derived.IntWalk
namespace Go.Proofs.YtockifchghllhaaDoor
open Go.RowKit

theorem und_is : Tryd.prog.underlying 41 = some (.slice (Tryd.prog.elem 41)) := by kernel_rfl
theorem siz_is (w : World) : (sizeOf (Tryd.prog.elem 41)).run Tryd.prog w = .ok 1 w := by kernel_rfl
theorem und_ise : Tryd.prog.underlying 41 = some (.slice 2) := by kernel_rfl
theorem info_i : (Tryd.prog.info? 2).map (fun i => (i.zero, i.size, i.bytes)) = some (some (.int .i64 0), 1, 8) := by kernel_rfl

set_option maxHeartbeats 400000 in
theorem toI_any {a : Option Addr} {c : Nat} {xs : List Int} {w : World} (hr : Rd (Value.int .i64) w a c xs) (hn : xs.length ≤ 1048576) :
    Calls Tryd.prog 70 #[.slice a xs.length c] w (RetS (Value.int .i64) 2 w xs) := by
  go_enter Tryd.func70, Tryd.ntmps70
  go_wp2_with (at_make; refine wpl_make (f := Value.int .i64) (d := 0) und_ise info_i rfl xs.length rfl _ _ rfl rfl rfl (by omega) (by omega) ?_; intro w1 ho0 hb0)
  go_loopw [4] (fun i wr => ∃ k : Nat, k ≤ xs.length ∧ i = .int .i64 k ∧ Own (Value.int .i64) 2 wr w.heap.size (some ⟨w.heap.size, 0, none⟩) xs.length (xs.take k ++ List.replicate (xs.length - k) (0 : Int)) ∧ Below w.heap.size w wr) (fun i _ => xs.length - (intOf i).toNat)
  case atStart => exact ⟨0, Nat.zero_le _, rfl, by simpa using ho0, hb0⟩
  case round =>
    obtain ⟨k, hk, rfl, ho, hb⟩ := hrel
    clear ho0 hb0
    by_cases hlt : k < xs.length
    · have hr' := hr.below hb (Nat.le_refl _)
      have hix := hr'.idx und_is siz_is
      have hcx : wr.cell? (elt a k) = some (.int .i64 (xs[k]?.getD 0)) := hr'.cell k hlt
      have hln : (xs.take k ++ List.replicate (xs.length - k) (0 : Int)).length = xs.length := by simp; omega
      have hio := ho.idx und_is siz_is
      rw [hln] at hio
      have hcs := ho.rd.cell k (by omega)
      have hfz := ho.free k (by omega)
      have hst := ho.set k (by omega) (xs[k]?.getD 0)
      have hgt : xs[k]? = some (xs[k]?.getD 0) := by simp [hlt]
      rw [set_fill xs 0 _ k hlt hgt] at hst
      have HG : Hid (wr.grownBy _ _) := hst.2
      have HS : Hid (Own _ _ _ _ _ _ _) := hst.1
      clear hst hgt
      go_wp2
      go_roundw
      case rel => exact ⟨k + 1, by omega, by go_num, by simpa [hlt] using HS.out, hb.grown (by simpa [hlt] using HG.out) hb.size (by simp)⟩
      case measure => simp [intOf]; omega
    · obtain rfl : k = xs.length := by omega
      have HO : Hid (Own _ _ _ _ _ _ _) := ho
      clear ho
      go_wp2
      go_ret
      exact ⟨_, _, rfl, HO.out.cast (by simp), hb⟩

theorem int_ne {a b : Int} (h : (a != b) = true) : ¬ a = b := by simpa using h

set_option maxHeartbeats 400000 in
theorem eqI_any {a1 a2 : Option Addr} {c1 c2 : Nat} {xs ys : List Int} {w : World} (hx : Rd (Value.int .i64) w a1 c1 xs) (hy : Rd (Value.int .i64) w a2 c2 ys) :
    Calls Tryd.prog 73 #[.slice a1 xs.length c1, .slice a2 ys.length c2] w fun e w' => e = .returned (.bool (decide (xs = ys))) ∧ Below w.heap.size w w' := by
  have hlx := hx.len
  have hly := hy.len
  go_enter Tryd.func73, Tryd.ntmps73
  by_cases hl : xs.length = ys.length
  · have hd : ((xs.length : Int) != (ys.length : Int)) = false := by simp [hl]
    have HL : Hid (xs.length = ys.length) := hl
    clear hl
    go_wp2
    go_loopw [5] (fun i wr => ∃ k : Nat, k ≤ xs.length ∧ i = .int .i64 k ∧ xs.take k = ys.take k ∧ ∃ n, wr = w.drewN n) (fun i _ => xs.length - (intOf i).toNat)
    case atStart => exact ⟨0, Nat.zero_le _, rfl, rfl, 0, rfl⟩
    case round =>
      obtain ⟨k, hk, rfl, ht, n, rfl⟩ := hrel
      have HT : Hid (xs.take k = ys.take k) := ht
      clear ht hd
      by_cases hlt : k < xs.length
      · have hlt2 : k < ys.length := by rw [← HL.out]; exact hlt
        have hcx := hx.cell k hlt
        have hcy := hy.cell k hlt2
        have hix := hx.idx und_is siz_is
        have hiy := hy.idx und_is siz_is
        go_wp2_with fail
        go_quiet (fail)
        go_wp2
        · have h := int_ne (by assumption)
          go_ret
          exact ⟨ret_bool (by simp [take_ne_of hlt hlt2 h]), by rw [World.drewN_drewN]; exact below_of_drewN _ _ _⟩
        · have h : ¬ (xs[k] != ys[k]) = true := by simp_all
          go_roundw
          case rel => exact ⟨k + 1, by omega, by go_num, take_eq_snoc hlt hlt2 HT.out (by simpa using h), _, rfl⟩
          case measure => simp [intOf]; omega
      · go_wp2
        go_ret
        have : k = xs.length := by omega
        subst this
        have h := HT.out
        rw [List.take_length, HL.out, List.take_length] at h
        exact ⟨ret_bool (by simp [h]), below_of_drewN _ _ _⟩
  · have hd : ((xs.length : Int) != (ys.length : Int)) = true := by simp; omega
    have HL : Hid (¬ xs.length = ys.length) := hl
    clear hl
    go_wp2
    go_ret
    refine ⟨ret_bool ?_, Below.refl _ _⟩
    have h := HL.out
    rw [decide_eq_false]
    rintro rfl
    exact h rfl

set_option maxHeartbeats 400000 in
theorem markI_any {a : Option Addr} {c base k0 : Nat} {xs : List Int} {w : World} (ho : Own (Value.int .i64) 2 w base a c xs) (hk : k0 + xs.length ≤ 4611686018427387904) :
    Calls Tryd.prog 87 #[.slice a xs.length c, .int .i64 k0] w (RetM (Value.int .i64) 2 w base a c (fun k => (k : Int)) k0 xs.length) := by
  go_enter Tryd.func87, Tryd.ntmps87
  go_wp2
  go_loopw [1, 5] (fun kk i wr => ∃ k : Nat, k ≤ xs.length ∧ i = .int .i64 k ∧ kk = .int .i64 ((k0 + k : Nat) : Int) ∧ Own (Value.int .i64) 2 wr base a c (marks (fun k => (k : Int)) k0 k ++ xs.drop k) ∧ w.grownBy wr (a.map (·.block))) (fun _ i _ => xs.length - (intOf i).toNat)
  case atStart => exact ⟨0, Nat.zero_le _, rfl, rfl, by simpa [marks] using ho, World.grownBy.refl _ _⟩
  case round =>
    obtain ⟨k, hk, rfl, rfl, hw, hg⟩ := hrel
    clear ho
    have hln : (marks (fun k => (k : Int)) k0 k ++ xs.drop k).length = xs.length := by simp [marks_length]; omega
    by_cases hlt : k < xs.length
    · have hio := hw.idx und_is siz_is
      rw [hln] at hio
      obtain ⟨v0, hcs⟩ : ∃ v, wr.cell? (elt a k) = some v := ⟨_, hw.cell k (by omega)⟩
      have hfz := hw.free k (by omega)
      have hst := hw.set k (by omega) ((k0 + k : Nat) : Int)
      rw [marks_set (fun k => (k : Int)) k0 k xs hlt] at hst
      have HG : Hid (wr.grownBy _ _) := hst.2
      have HS : Hid (Own _ _ _ _ _ _ _) := hst.1
      have HC : Hid (w.grownBy _ _) := hg
      clear hst hg hln
      go_wp2
      go_roundw
      case rel => exact ⟨k + 1, by omega, by go_num, by go_num, by simpa using HS.out, grown_trans HC.out (by simpa using HG.out)⟩
      case measure => simp [intOf]; omega
    · obtain rfl : k = xs.length := by omega
      have HO : Hid (Own _ _ _ _ _ _ _) := hw
      have HC : Hid (w.grownBy _ _) := hg
      clear hw hln hg
      go_wp2
      go_ret
      exact ⟨rfl, HO.out.cast (by simp), HC.out⟩

set_option maxHeartbeats 400000 in
theorem heldI_any {a : Option Addr} {c k0 : Nat} {n : Nat} {w : World} (hr : Rd (Value.int .i64) w a c (marks (fun k => (k : Int)) k0 n)) (hk : k0 + n ≤ 4611686018427387904) :
    Calls Tryd.prog 88 #[.slice a n c, .int .i64 k0] w fun e w' => e = .returned (.int .i64 ((k0 + n : Nat) : Int)) ∧ Below w.heap.size w w' := by
  go_enter Tryd.func88, Tryd.ntmps88
  go_wp2
  go_loop [1, 5] (fun kk i => ∃ k : Nat, k ≤ n ∧ i = .int .i64 k ∧ kk = .int .i64 ((k0 + k : Nat) : Int)) (fun _ i => n - (intOf i).toNat)
  case atStart => exact ⟨0, Nat.zero_le _, rfl, rfl⟩
  case round =>
    obtain ⟨k, hk, rfl, rfl⟩ := hrel
    by_cases hlt : k < n
    · have hio := hr.idx und_is siz_is
      rw [marks_length] at hio
      have hcs := hr.cell k (by rw [marks_length]; exact hlt)
      rw [marks_get _ _ _ _ hlt, Option.getD_some] at hcs
      have hne : (((k0 : Int) + (k : Int)) != ((k0 : Int) + (k : Int))) = false := by simp
      go_wp2
      go_round
      case rel => exact ⟨k + 1, by omega, by go_num, by go_num⟩
      case measure => simp [intOf]; omega
    · obtain rfl : k = n := by omega
      go_wp2
      go_ret
      exact ⟨rfl, Below.refl _ _⟩

end Go.Proofs.YtockifchghllhaaDoor

namespace Go.Proofs.YtockifchghllhaaDoor
open Go.RowKit

set_option maxHeartbeats 400000 in
theorem indexFunci_any (a : Option Addr) (c : Nat) (xs : List Int) (w : World) (F : Nat) (caps : Array Value) (p : Int → Bool) (hF : ∀ (vs : Array Value) (w : World), (callFunc F vs).run Tryd.prog w = .ok (.enter F vs) w) (hr : Rd (Value.int .i64) w a c xs)
    (hclo : ∀ k (h : k < xs.length) wr, Below w.heap.size w wr → Calls Tryd.prog F (#[(Value.int .i64) xs[k]] ++ caps) wr fun e w' => e = .returned (.bool (p xs[k])) ∧ Below wr.heap.size wr w') :
    Calls Tryd.prog 139 #[.slice a xs.length c, .func (.func F) #[] caps] w fun e w' => e = .returned (.int .i64 (idxOf p xs)) ∧ Below w.heap.size w w' := by
  have hln := hr.len
  go_enter Tryd.func139, Tryd.ntmps139
  go_wp2
  go_loopw [5, 8] (fun _ i wr => ∃ k : Nat, k ≤ xs.length ∧ i = .int .i64 k ∧ (∀ x ∈ xs.take k, p x = false) ∧ Below w.heap.size w wr) (fun _ i _ => xs.length - (intOf i).toNat)
  case atStart => exact ⟨0, Nat.zero_le _, rfl, by simp, Below.refl _ _⟩
  case round =>
    obtain ⟨k, hk, rfl, hp, hb⟩ := hrel
    have HP : Hid (∀ x ∈ xs.take k, p x = false) := hp
    clear hp
    by_cases hlt : k < xs.length
    · have hr' := hr.below hb (Nat.le_refl _)
      have hix := hr'.idx und_is siz_is
      have hcx := hr'.cell k hlt
      have HC : Hid (∀ k (h : k < xs.length) wr, Below w.heap.size w wr → Calls Tryd.prog F (#[(Value.int .i64) xs[k]] ++ caps) wr fun e w' => e = .returned (.bool (p xs[k])) ∧ Below wr.heap.size wr w') := hclo
      clear hclo
      simp only [List.getElem?_eq_getElem hlt, Option.getD_some] at hcx
      go_wp2_with fail
      refine (HC.out k hlt wr hb).mono ?_
      rintro e w1 ⟨rfl, hb1⟩
      by_cases hpx : p xs[k] = true
      · have HX : Hid (p xs[k] = true) := hpx
        rw [hpx]
        clear hpx
        go_wp2
        go_ret
        refine ⟨ret_int ?_, hb.trans (hb1.mono hb.size)⟩
        rw [idxOf_here HX.out HP.out]
      · have hpx' : p xs[k] = false := by simpa using hpx
        have HX : Hid (p xs[k] = false) := hpx'
        rw [hpx']
        clear hpx hpx'
        go_wp2
        go_roundw
        case rel => exact ⟨k + 1, by omega, by go_num, snoc_none hlt HP.out HX.out, hb.trans (hb1.mono hb.size)⟩
        case measure => simp [intOf]; omega
    · obtain rfl : k = xs.length := by omega
      have HC : Hid (∀ k (h : k < xs.length) wr, Below w.heap.size w wr → Calls Tryd.prog F (#[(Value.int .i64) xs[k]] ++ caps) wr fun e w' => e = .returned (.bool (p xs[k])) ∧ Below wr.heap.size wr w') := hclo
      clear hclo
      go_wp2
      go_ret
      refine ⟨ret_int ?_, hb⟩
      rw [idxOf_none (by simpa using HP.out)]

set_option maxHeartbeats 400000 in
theorem containsFunci_any (a : Option Addr) (c : Nat) (xs : List Int) (w : World) (F : Nat) (caps : Array Value) (p : Int → Bool) (hF : ∀ (vs : Array Value) (w : World), (callFunc F vs).run Tryd.prog w = .ok (.enter F vs) w) (hr : Rd (Value.int .i64) w a c xs)
    (hclo : ∀ k (h : k < xs.length) wr, Below w.heap.size w wr → Calls Tryd.prog F (#[(Value.int .i64) xs[k]] ++ caps) wr fun e w' => e = .returned (.bool (p xs[k])) ∧ Below wr.heap.size wr w') :
    Calls Tryd.prog 122 #[.slice a xs.length c, .func (.func F) #[] caps] w fun e w' => e = .returned (.bool (xs.any p)) ∧ Below w.heap.size w w' := by
  have HC := Lib.hid (indexFunci_any a c xs w F caps p hF hr hclo)
  clear hclo
  go_enter Tryd.func122, Tryd.ntmps122
  go_wp2_with fail
  refine HC.out.mono ?_
  rintro e w1 ⟨rfl, hb1⟩
  have HB := Lib.hid (idxOf_any p xs)
  go_wp2
  go_ret
  exact ⟨ret_bool (by simpa using HB.out), hb1⟩

end Go.Proofs.YtockifchghllhaaDoor

namespace Go.Proofs.YtockifchghllhaaDoor
open Go.RowKit

def inR (n lo hi : Int) : Bool := decide (lo ≤ n ∧ n ≤ hi)
theorem inR_eq (n lo hi : Int) : inR n lo hi = true ↔ lo ≤ n ∧ n ≤ hi := by simp [inR]

theorem within_any (n lo hi : Int) (w : World) : Calls Tryd.prog 101 #[.int .i64 n, .int .i64 lo, .int .i64 hi] w fun e w' => e = .returned (.bool (inR n lo hi)) ∧ w = w' := by
  by_cases h1 : lo ≤ n
  · go_enter Tryd.func101, Tryd.ntmps101
    go_wp2
    go_ret
    exact ⟨ret_bool (by simp [inR]; omega), rfl⟩
  · have h2 : decide (lo ≤ n) = false := by simpa using h1
    go_enter Tryd.func101, Tryd.ntmps101
    go_wp2
    go_ret
    exact ⟨ret_bool (by simp [inR]; omega), rfl⟩

theorem l00In_any (n lo hi : Int) (w : World) : Calls Tryd.prog 92 #[.int .i64 n, .int .i64 lo, .int .i64 hi] w fun e w' => e = .returned (.bool (inR n lo hi)) ∧ w = w' := by
  by_cases h1 : lo ≤ n
  · go_enter Tryd.func92, Tryd.ntmps92
    go_wp2
    go_ret
    exact ⟨ret_bool (by simp [inR]; omega), rfl⟩
  · have h2 : decide (lo ≤ n) = false := by simpa using h1
    go_enter Tryd.func92, Tryd.ntmps92
    go_wp2
    go_ret
    exact ⟨ret_bool (by simp [inR]; omega), rfl⟩

theorem areWithin1_any (x lo hi : Int) (p1 p2 : Addr) (w : World) (h1 : w.cell? p1 = some (.int .i64 lo)) (h2 : w.cell? p2 = some (.int .i64 hi)) :
    Calls Tryd.prog 123 #[.int .i64 x, .pointer (some p1), .pointer (some p2)] w fun e w' => e = .returned (.bool (!inR x lo hi)) ∧ w = w' := by
  go_enter Tryd.func123, Tryd.ntmps123
  go_wp2_with (go_at_call 101; refine (within_any _ _ _ _).mono ?_; rintro e w1 ⟨rfl, rfl⟩)
  go_ret
  exact ⟨rfl, rfl⟩

theorem call_areWithin1 (vs : Array Value) (w : World) : (callFunc 123 vs).run Tryd.prog w = .ok (.enter 123 vs) w := by kernel_rfl

theorem areWithin_any (a : Option Addr) (c : Nat) (xs : List Int) (lo hi : Int) (w : World) (hr : Rd (Value.int .i64) w a c xs) :
    Calls Tryd.prog 107 #[.slice a xs.length c, .int .i64 lo, .int .i64 hi] w fun e w' => e = .returned (.bool (xs.all (fun x => inR x lo hi))) ∧ Below w.heap.size w w' := by
  have hb : Below w.heap.size w ((w.alloc (.cells #[.int .i64 lo] 2)).alloc (.cells #[.int .i64 hi] 2)) := ((Below.refl _ _).alloc (Nat.le_refl _) _).alloc (by simp) _
  have hc := containsFunci_any a c xs ((w.alloc (.cells #[.int .i64 lo] 2)).alloc (.cells #[.int .i64 hi] 2)) 123 #[.pointer (some ⟨w.heap.size, 0, none⟩), .pointer (some ⟨w.heap.size + 1, 0, none⟩)] (fun x => !inR x lo hi) call_areWithin1 (hr.below hb (Nat.le_refl _)) (by
    intro k h wr hbr
    refine (areWithin1_any _ lo hi _ _ wr ?_ ?_).mono ?_
    · rw [hbr.cell (by simp; omega)]; rw [World.cell?_alloc_past _ _ _ (by simp), World.cell?_alloc_at _ _ _ _ rfl]; rfl
    · rw [hbr.cell (by simp)]; rw [World.cell?_alloc_at _ _ _ _ (by simp)]; rfl
    · rintro e w1 ⟨rfl, rfl⟩; exact ⟨rfl, Below.refl _ _⟩)
  have HC := Lib.hid hc
  have HB := Lib.hid hb
  clear hc hb
  go_enter Tryd.func107, Tryd.ntmps107
  go_wp2_with fail
  refine HC.out.mono ?_
  rintro e w1 ⟨rfl, hb1⟩
  go_wp2
  go_ret
  refine ⟨ret_bool ?_, HB.out.trans (hb1.mono (by simp; omega))⟩
  rw [Bool.eq_iff_iff]; simp [List.all_eq_true, List.any_eq_true]

theorem rd_idxAt {α : Type} [Inhabited α] {f : α → Value} {w : World} {a : Option Addr} {c : Nat} {xs : List α} (h : Rd f w a c xs) {P : Program} {T : TypeId} (hT : P.underlying T = some (.slice (P.elem T))) (hs : ∀ w, (sizeOf (P.elem T)).run P w = .ok 1 w) (k : Nat) (hk : k < xs.length) (i : Int) (hi : i = (k : Int)) :
    ∀ w' : World, (Instr.indexAt T (.slice a xs.length c) (.int .i64 i)).run P w' = .ok (.pointer (some (elt a k))) w' := by
  subst hi; exact fun w' => h.idx hT hs w' k hk

end Go.Proofs.YtockifchghllhaaDoor

namespace Go.Proofs.YtockifchghllhaaDoor
open Go.RowKit

/-- A text's byte. -/
def byt (s : ByteArray) (k : Nat) : Nat := (s.get! k).toNat
theorem byt_eq {s : ByteArray} {k : Nat} (h : k < s.size) : (s[k]'h).toNat = byt s k := by
  unfold byt
  cases s with
  | mk d =>
    have hd : k < d.size := h
    simp [ByteArray.get!, hd]
    rfl
theorem byt_lt (s : ByteArray) (k : Nat) : byt s k < 256 := UInt8.toNat_lt _

def lowB (s : ByteArray) (k : Nat) : Bool := decide (97 ≤ byt s k) && decide (byt s k ≤ 122)
def nameB (s : ByteArray) : Bool := decide (1 ≤ s.size) && decide (s.size ≤ 8) && (List.range s.size).all (lowB s)
theorem nameB_no {s : ByteArray} {k : Nat} (hk : k < s.size) (h : lowB s k = false) : nameB s = false := by
  unfold nameB
  have : (List.range s.size).all (lowB s) = false := by rw [List.all_eq_false]; exact ⟨k, List.mem_range.2 hk, by rw [h]; simp⟩
  rw [this]; simp
theorem nameB_yes {s : ByteArray} (h : ∀ k, k < s.size → lowB s k = true) : nameB s = (decide (1 ≤ s.size) && decide (s.size ≤ 8)) := by
  unfold nameB
  have : (List.range s.size).all (lowB s) = true := by rw [List.all_eq_true]; intro k hk; exact h k (List.mem_range.1 hk)
  rw [this]; simp

end Go.Proofs.YtockifchghllhaaDoor
