/- Contracts: within, l00In, sums of edges, JoinSketch. -/
import Derived.Test.YtiplibbicefaiaaIdxI
import Derived.Test.YtiplibbicefaiaaCloneI
namespace Go.Proofs.Ytiplibbicefaiaa
open Go.RowKit

def inR (n lo hi : Int) : Bool := decide (lo ≤ n ∧ n ≤ hi)
theorem inR_eq (n lo hi : Int) : inR n lo hi = true ↔ lo ≤ n ∧ n ≤ hi := by simp [inR]

theorem within_any (n lo hi : Int) (w : World) : Calls Try.prog 30 #[.int .i64 n, .int .i64 lo, .int .i64 hi] w fun e w' => e = .returned (.bool (inR n lo hi)) ∧ w = w' := by
  by_cases h1 : lo ≤ n
  · go_enter Try.func30, Try.ntmps30
    go_wp2
    go_ret
    exact ⟨ret_bool (by simp [inR]; omega), rfl⟩
  · have h2 : decide (lo ≤ n) = false := by simpa using h1
    go_enter Try.func30, Try.ntmps30
    go_wp2
    go_ret
    exact ⟨ret_bool (by simp [inR]; omega), rfl⟩

theorem l00In_any (n lo hi : Int) (w : World) : Calls Try.prog 28 #[.int .i64 n, .int .i64 lo, .int .i64 hi] w fun e w' => e = .returned (.bool (inR n lo hi)) ∧ w = w' := by
  by_cases h1 : lo ≤ n
  · go_enter Try.func28, Try.ntmps28
    go_wp2
    go_ret
    exact ⟨ret_bool (by simp [inR]; omega), rfl⟩
  · have h2 : decide (lo ≤ n) = false := by simpa using h1
    go_enter Try.func28, Try.ntmps28
    go_wp2
    go_ret
    exact ⟨ret_bool (by simp [inR]; omega), rfl⟩

def sums (xs : List Int) : Bool := decide (xs.length = 48) && xs.all (fun x => inR x (-1000000000000) 1000000000000)

set_option maxHeartbeats 400000 in
theorem l07Sums_any (a : Option Addr) (c : Nat) (xs : List Int) (w : World) (hr : Rd (Value.int .i64) w a c xs) :
    Calls Try.prog 27 #[.slice a xs.length c] w fun e w' => e = .returned (.bool (sums xs)) ∧ w = w' := by
  have hln := hr.len
  go_enter Try.func27, Try.ntmps27
  go_wp2
  go_loop [3, 6] (fun _ i => ∃ k : Nat, k ≤ xs.length ∧ i = .int .i64 k ∧ ∀ x ∈ xs.take k, (!inR x (-1000000000000) 1000000000000) = false) (fun _ i => xs.length - (intOf i).toNat)
  case atStart => exact ⟨0, Nat.zero_le _, rfl, by simp⟩
  case round =>
    obtain ⟨k, hk, rfl, hp⟩ := hrel
    have HP := Lib.hid hp
    clear hp
    by_cases hlt : k < xs.length
    · have hix := hr.idx und_is siz_is
      have hcx := hr.cell k hlt
      simp only [List.getElem?_eq_getElem hlt, Option.getD_some] at hcx
      go_wp2_with (go_at_call 28; refine (l00In_any _ _ _ _).mono ?_; rintro e w1 ⟨rfl, rfl⟩)
      · have h : (!inR xs[k] (-1000000000000) 1000000000000) = true := by assumption
        go_ret
        refine ⟨ret_bool ?_, rfl⟩
        have : xs.all (fun x => inR x (-1000000000000) 1000000000000) = false := by
          rw [List.all_eq_false]; exact ⟨_, List.getElem_mem hlt, by simpa using h⟩
        simp [sums, this]
      · have h : (!inR xs[k] (-1000000000000) 1000000000000) = false := by simp_all
        go_round
        case rel => exact ⟨k + 1, by omega, by go_num, snoc_none hlt HP.out h⟩
        case measure => simp [intOf]; omega
    · obtain rfl : k = xs.length := by omega
      go_wp2
      go_ret
      refine ⟨ret_bool ?_, rfl⟩
      have : xs.all (fun x => inR x (-1000000000000) 1000000000000) = true := by
        have := HP.out; simpa using this
      simp [sums, this]; rw [Bool.eq_iff_iff]; simp; omega

theorem areWithin1_any (x lo hi : Int) (p1 p2 : Addr) (w : World) (h1 : w.cell? p1 = some (.int .i64 lo)) (h2 : w.cell? p2 = some (.int .i64 hi)) :
    Calls Try.prog 40 #[.int .i64 x, .pointer (some p1), .pointer (some p2)] w fun e w' => e = .returned (.bool (!inR x lo hi)) ∧ w = w' := by
  go_enter Try.func40, Try.ntmps40
  go_wp2_with (go_at_call 30; refine (within_any _ _ _ _).mono ?_; rintro e w1 ⟨rfl, rfl⟩)
  go_ret
  exact ⟨rfl, rfl⟩

theorem call_areWithin1 (vs : Array Value) (w : World) : (callFunc 40 vs).run Try.prog w = .ok (.enter 40 vs) w := by kernel_rfl

theorem areWithin_any (a : Option Addr) (c : Nat) (xs : List Int) (lo hi : Int) (w : World) (hr : Rd (Value.int .i64) w a c xs) :
    Calls Try.prog 36 #[.slice a xs.length c, .int .i64 lo, .int .i64 hi] w fun e w' => e = .returned (.bool (xs.all (fun x => inR x lo hi))) ∧ Below w.heap.size w w' := by
  have hb : Below w.heap.size w ((w.alloc (.cells #[.int .i64 lo] 2)).alloc (.cells #[.int .i64 hi] 2)) := ((Below.refl _ _).alloc (Nat.le_refl _) _).alloc (by simp) _
  have hc := containsFunci_any a c xs ((w.alloc (.cells #[.int .i64 lo] 2)).alloc (.cells #[.int .i64 hi] 2)) 40 #[.pointer (some ⟨w.heap.size, 0, none⟩), .pointer (some ⟨w.heap.size + 1, 0, none⟩)] (fun x => !inR x lo hi) call_areWithin1 (hr.below hb (Nat.le_refl _)) (by
    intro k h wr hbr
    refine (areWithin1_any _ lo hi _ _ wr ?_ ?_).mono ?_
    · rw [hbr.cell (by simp; omega)]; rw [World.cell?_alloc_past _ _ _ (by simp), World.cell?_alloc_at _ _ _ _ rfl]; rfl
    · rw [hbr.cell (by simp)]; rw [World.cell?_alloc_at _ _ _ _ (by simp)]; rfl
    · rintro e w1 ⟨rfl, rfl⟩; exact ⟨rfl, Below.refl _ _⟩)
  have HC := Lib.hid hc
  have HB := Lib.hid hb
  clear hc hb
  go_enter Try.func36, Try.ntmps36
  go_wp2_with fail
  refine HC.out.mono ?_
  rintro e w1 ⟨rfl, hb1⟩
  go_wp2
  go_ret
  refine ⟨ret_bool ?_, HB.out.trans (hb1.mono (by simp; omega))⟩
  rw [Bool.eq_iff_iff]; simp [List.all_eq_true, List.any_eq_true]

def isEdge (xs : List Int) : Bool := decide (xs.length = 48) && xs.all (fun x => inR x (-1000000000000) 1000000000000)

theorem isEdgeSketch_any (a : Option Addr) (c : Nat) (xs : List Int) (w : World) (hr : Rd (Value.int .i64) w a c xs) :
    Calls Try.prog 29 #[.slice a xs.length c] w fun e w' => e = .returned (.bool (sums xs)) ∧ Below w.heap.size w w' := by
  have hln := hr.len
  by_cases hl : xs.length = 48
  · have hd : ((xs.length : Int) == 48) = true := by simp; omega
    have HL := Lib.hid hl
    clear hl
    go_enter Try.func29, Try.ntmps29
    go_wp2_with fail
    refine (areWithin_any a c xs _ _ w hr).mono ?_
    rintro e w1 ⟨rfl, hb1⟩
    go_wp2
    go_ret
    exact ⟨ret_bool (by simp [sums, HL.out]), hb1⟩
  · have hd : ((xs.length : Int) == 48) = false := by simp; omega
    have HL := Lib.hid hl
    clear hl
    go_enter Try.func29, Try.ntmps29
    go_wp2
    go_ret
    exact ⟨ret_bool (by simp [sums, HL.out]), Below.refl _ _⟩


def joinS (xs ys : List Int) : List Int := List.zipWith (· + ·) xs ys

theorem zip_snoc (xs ys : List Int) (k : Nat) (h1 : k < xs.length) (h2 : k < ys.length) : (joinS xs ys).take (k + 1) = (joinS xs ys).take k ++ [xs[k] + ys[k]] := by
  rw [List.take_add_one]
  simp [joinS, List.getElem?_zipWith, h1, h2]

theorem sums_bd {xs : List Int} (h : sums xs = true) {k : Nat} (hk : k < xs.length) : -1000000000000 ≤ xs[k] ∧ xs[k] ≤ 1000000000000 := by
  simp only [sums, Bool.and_eq_true, List.all_eq_true] at h
  have := h.2 xs[k] (List.getElem_mem hk)
  rwa [inR_eq] at this
theorem sums_add {xs ys : List Int} (h1 : sums xs = true) (h2 : sums ys = true) {k : Nat} (hx : k < xs.length) (hy : k < ys.length) : -9223372036854775808 ≤ xs[k] + ys[k] ∧ xs[k] + ys[k] ≤ 9223372036854775807 := by
  have a := sums_bd h1 hx
  have b := sums_bd h2 hy
  omega

set_option maxHeartbeats 400000 in
theorem specJoin_yes (a1 a2 : Option Addr) (c1 c2 : Nat) (xs ys : List Int) (w : World) (hx : Rd (Value.int .i64) w a1 c1 xs) (hy : Rd (Value.int .i64) w a2 c2 ys) (h1 : sums xs = true) (h2 : sums ys = true) :
    Calls Try.prog 20 #[.slice a1 xs.length c1, .slice a2 ys.length c2] w (RetSB (Value.int .i64) 2 w (joinS xs ys) true) := by
  have hlx : xs.length = 48 := by simp [sums] at h1; exact h1.1
  have hly : ys.length = 48 := by simp [sums] at h2; exact h2.1
  have HX := Lib.hid hlx
  have HY := Lib.hid hly
  have hjl : (joinS xs ys).length = 48 := by simp [joinS, hlx, hly]
  have HJ := Lib.hid hjl
  have hkx : xs.length ≤ 48 := by omega
  have hky : ys.length ≤ 48 := by omega
  have hkz : 48 ≤ ys.length := by omega
  clear hlx hly hjl
  go_enter Try.func20, Try.ntmps20
  go_wp2_with fail
  refine (l07Sums_any a1 c1 xs _ hx).mono ?_
  rintro e w1 ⟨rfl, rfl⟩
  go_wp2_with fail
  refine (l07Sums_any a2 c2 ys _ hy).mono ?_
  rintro e w1 ⟨rfl, rfl⟩
  go_wp2_with fail
  have H1 := Lib.hid h1
  have H2 := Lib.hid h2
  clear h1 h2
  go_loopw [6, 7, 19] (fun out _ i wr => ∃ k : Nat, k ≤ xs.length ∧ i = .int .i64 k ∧ ∃ a c zs, out = .slice a (List.length zs) c ∧ Own (Value.int .i64) 2 wr w.heap.size a c zs ∧ zs = (joinS xs ys).take k ∧ Below w.heap.size w wr) (fun _ _ i _ => xs.length - (intOf i).toNat)
  case atStart => exact ⟨0, Nat.zero_le _, rfl, _, _, [], rfl, own_empty w _ (Nat.le_refl _) rfl, rfl, (Below.refl _ _).alloc (Nat.le_refl _) _⟩
  case round =>
    obtain ⟨k, hk, rfl, a, c, zs, rfl, ho, hzs, hb⟩ := hrel
    have HZ := Lib.hid hzs
    have HO := Lib.hid ho
    clear ho
    by_cases hlt : k < xs.length
    · have hlt2 : k < ys.length := by omega
      have hxr := hx.below hb (Nat.le_refl _)
      have hyr := hy.below hb (Nat.le_refl _)
      have hcx := hxr.cell k hlt
      have hcy := hyr.cell k hlt2
      have hix := hxr.idx und_is siz_is
      have hiy := hyr.idx und_is siz_is
      have hln : zs.length ≤ 48 := by rw [hzs]; simp; omega
      have hz := hb.size
      clear hzs
      go_wp2_with fail
      go_region_held3 (fun w' => w'.cell? (elt a1 k) = some (.int .i64 (xs[k]?.getD default)) ∧ w'.cell? (elt a2 k) = some (.int .i64 (ys[k]?.getD default)))
        (first | go_keep)
        ((refine step_append1 (f := Value.int .i64) (d := 0) (base := w.heap.size) und_ise info_i (fun _ => rfl) _ ((HO.out.alloc _).drew) rfl _ _ rfl wr.heap.size rfl rfl (heap_alloc_new wr _) (by omega) (by omega) (by simp; omega) ?_; intro a3 c3 w3 ho3 hg3; have hb3 : Below w.heap.size w w3 := ((hb.alloc hb.size _).drew).trans (grown_belowOwn ((HO.out.alloc _).drew) hg3 (Nat.le_refl _) (by simp; omega)); have e1 := (hx.below hb3 (Nat.le_refl _)).cell k hlt; have e2 := (hy.below hb3 (Nat.le_refl _)).cell k hlt2))
      clear e1 e2
      go_wp2
      go_roundw
      case rel => exact ⟨k + 1, by omega, by go_num, a3, c3, _, by rw [List.length_append]; rfl, ho3, by rw [HZ.out, zip_snoc xs ys k hlt hlt2, IntWalk.i64_in _ (sums_add H1.out H2.out hlt hlt2)], hb3⟩
      case measure => simp [intOf]; omega
    · obtain rfl : k = xs.length := by omega
      have HX := Lib.hid hzs
      clear hzs
      go_wp2
      go_ret2
      have hzz : zs = joinS xs ys := by rw [HX.out]; apply List.take_of_length_le; simp [joinS]; omega
      subst hzz
      exact ⟨a, c, rfl, HO.out, hb⟩


set_option maxHeartbeats 400000 in
theorem specJoin_no (a1 a2 : Option Addr) (c1 c2 : Nat) (xs ys : List Int) (w : World) (hx : Rd (Value.int .i64) w a1 c1 xs) (hy : Rd (Value.int .i64) w a2 c2 ys) (h : (sums xs && sums ys) = false) :
    Calls Try.prog 20 #[.slice a1 xs.length c1, .slice a2 ys.length c2] w (RetSB (Value.int .i64) 2 w [] false) := by
  cases h1 : sums xs with
  | false =>
    clear h
    go_enter Try.func20, Try.ntmps20
    go_wp2_with fail
    refine (l07Sums_any a1 c1 xs _ hx).mono ?_
    rintro e w1 ⟨rfl, rfl⟩
    go_wp2
    go_ret2
    exact retSB_no (Below.refl _ _)
  | true =>
    have h2 : sums ys = false := by simpa [h1] using h
    clear h
    go_enter Try.func20, Try.ntmps20
    go_wp2_with fail
    refine (l07Sums_any a1 c1 xs _ hx).mono ?_
    rintro e w1 ⟨rfl, rfl⟩
    go_wp2_with fail
    refine (l07Sums_any a2 c2 ys _ hy).mono ?_
    rintro e w1 ⟨rfl, rfl⟩
    go_wp2
    go_ret2
    exact retSB_no (Below.refl _ _)

def joinR (xs ys : List Int) : List Int := if sums xs && sums ys then joinS xs ys else []

theorem joinR_len (xs ys : List Int) : (joinR xs ys).length ≤ 48 := by
  unfold joinR
  split
  · rename_i h; simp [sums] at h; simp [joinS]; omega
  · simp

theorem specJoin_any {a1 a2 : Option Addr} {c1 c2 : Nat} {xs ys : List Int} {w : World} (hx : Rd (Value.int .i64) w a1 c1 xs) (hy : Rd (Value.int .i64) w a2 c2 ys) :
    Calls Try.prog 20 #[.slice a1 xs.length c1, .slice a2 ys.length c2] w (RetSB (Value.int .i64) 2 w (joinR xs ys) (sums xs && sums ys)) := by
  cases h : (sums xs && sums ys) with
  | false => simpa [joinR, h] using specJoin_no a1 a2 c1 c2 xs ys w hx hy h
  | true =>
    have h' := h
    simp only [Bool.and_eq_true] at h'
    simpa [joinR, h] using specJoin_yes a1 a2 c1 c2 xs ys w hx hy h'.1 h'.2

theorem joinS_set (xs ys : List Int) (k : Nat) (hx : k < xs.length) (hy : k < ys.length) (x : Int) (h : x = xs[k] + ys[k]) :
    ((joinS xs ys).take k ++ xs.drop k).set k x = (joinS xs ys).take (k + 1) ++ xs.drop (k + 1) := by
  have hl : ((joinS xs ys).take k).length = k := by simp [joinS]; omega
  rw [List.set_append_right _ _ (by omega), hl, Nat.sub_self]
  have hd := List.drop_eq_getElem_cons hx
  rw [hd, List.set_cons_zero, zip_snoc xs ys k hx hy, h]
  simp

set_option maxHeartbeats 400000 in
theorem implJoin_yes (a1 a2 : Option Addr) (c1 c2 : Nat) (xs ys : List Int) (w : World) (hx : Rd (Value.int .i64) w a1 c1 xs) (hy : Rd (Value.int .i64) w a2 c2 ys) (h1 : sums xs = true) (h2 : sums ys = true) :
    Calls Try.prog 21 #[.slice a1 xs.length c1, .slice a2 ys.length c2] w (RetSB (Value.int .i64) 2 w (joinS xs ys) true) := by
  have hlx : xs.length = 48 := by simp [sums] at h1; exact h1.1
  have hly : ys.length = 48 := by simp [sums] at h2; exact h2.1
  have hjl : (joinS xs ys).length = 48 := by simp [joinS, hlx, hly]
  have HJ := Lib.hid hjl
  have hkx : xs.length ≤ 48 := by omega
  have hkx2 : 48 ≤ xs.length := by omega
  have hky : ys.length ≤ 48 := by omega
  have hky2 : 48 ≤ ys.length := by omega
  clear hlx hly hjl
  go_enter Try.func21, Try.ntmps21
  go_wp2_with fail
  refine (isEdgeSketch_any a1 c1 xs _ hx).mono ?_
  rintro e w1 ⟨rfl, hb1⟩
  go_wp2_with fail
  refine (isEdgeSketch_any a2 c2 ys _ (hy.below hb1 (Nat.le_refl _))).mono ?_
  rintro e w2 ⟨rfl, hb2⟩
  have hb2' : Below w.heap.size w w2 := hb1.trans (hb2.mono hb1.size)
  go_wp2_with fail
  refine (clonei_any a1 c1 xs _ (hx.below hb2' (Nat.le_refl _)) (by omega)).mono ?_
  rintro e w3 ⟨a, c, rfl, ho3, hb3⟩
  have hb3' : Below w.heap.size w w3 := hb2'.trans (hb3.mono hb2'.size)
  have HO3 := Lib.hid (ho3.mono hb2'.size)
  have H1 := Lib.hid h1
  have H2 := Lib.hid h2
  clear h1 h2 hb1 hb2 hb2' hb3 ho3
  go_wp2_with fail
  go_loopw [7, 8, 21] (fun _ _ i wr => ∃ k : Nat, k ≤ ys.length ∧ i = .int .i64 k ∧ Own (Value.int .i64) 2 wr w.heap.size a c ((joinS xs ys).take k ++ xs.drop k) ∧ Below w.heap.size w wr) (fun _ _ i _ => ys.length - (intOf i).toNat)
  case atStart => exact ⟨0, Nat.zero_le _, rfl, by simpa using HO3.out, hb3'⟩
  case round =>
    obtain ⟨k, hk, rfl, ho, hb⟩ := hrel
    clear HO3 hb3'
    have hln : ((joinS xs ys).take k ++ xs.drop k).length = xs.length := by
      have := HJ.out; simp; omega
    by_cases hlt : k < ys.length
    · have hlt2 : k < xs.length := by omega
      have hyr := hy.below hb (Nat.le_refl _)
      have hcy := hyr.cell k hlt
      have hiy := hyr.idx und_is siz_is
      have hio := ho.idx und_is siz_is
      rw [hln] at hio
      have hcs := ho.cell k (by omega)
      have hge : ((joinS xs ys).take k ++ xs.drop k)[k]'(by omega) = xs[k] := by
        rw [List.getElem_append_right (by simp; omega)]
        have hl : ((joinS xs ys).take k).length = k := by have := HJ.out; simp; omega
        simp [hl]
      rw [hge] at hcs
      have hfz := ho.free k (by omega)
      have hst := ho.set k (by omega) (xs[k] + ys[k])
      rw [joinS_set xs ys k hlt2 hlt _ rfl] at hst
      have HG := Lib.hid hst.2
      have HS := Lib.hid hst.1
      have HO := Lib.hid ho
      have hbd := sums_add H1.out H2.out hlt2 hlt
      have hbd1 := hbd.1
      have hbd2 := hbd.2
      clear hst hge ho hln hbd
      go_wp2
      go_roundw
      case rel => exact ⟨k + 1, by omega, by go_num, by simpa using HS.out, hb.trans (grown_belowOwn HO.out (by simpa using HG.out) (Nat.le_refl _) hb.size)⟩
      case measure => simp [intOf]; omega
    · obtain rfl : k = ys.length := by omega
      have HO := Lib.hid ho
      clear ho
      go_wp2
      go_ret2
      have hzz : (joinS xs ys).take ys.length ++ xs.drop ys.length = joinS xs ys := by
        rw [List.take_of_length_le (by have := HJ.out; omega), List.drop_eq_nil_of_le (by omega)]; simp
      have hl2 : xs.length = (joinS xs ys).length := by have := HJ.out; omega
      refine ⟨a, c, ?_, HO.out.cast hzz, hb⟩
      rw [← hl2]; rfl

set_option maxHeartbeats 400000 in
theorem implJoin_no (a1 a2 : Option Addr) (c1 c2 : Nat) (xs ys : List Int) (w : World) (hx : Rd (Value.int .i64) w a1 c1 xs) (hy : Rd (Value.int .i64) w a2 c2 ys) (h : (sums xs && sums ys) = false) :
    Calls Try.prog 21 #[.slice a1 xs.length c1, .slice a2 ys.length c2] w (RetSB (Value.int .i64) 2 w [] false) := by
  cases h1 : sums xs with
  | false =>
    clear h
    go_enter Try.func21, Try.ntmps21
    go_wp2_with fail
    refine (isEdgeSketch_any a1 c1 xs _ hx).mono ?_
    rintro e w1 ⟨rfl, hb1⟩
    go_wp2
    go_ret2
    exact retSB_no hb1
  | true =>
    have h2 : sums ys = false := by simpa [h1] using h
    clear h
    go_enter Try.func21, Try.ntmps21
    go_wp2_with fail
    refine (isEdgeSketch_any a1 c1 xs _ hx).mono ?_
    rintro e w1 ⟨rfl, hb1⟩
    go_wp2_with fail
    refine (isEdgeSketch_any a2 c2 ys _ (hy.below hb1 (Nat.le_refl _))).mono ?_
    rintro e w2 ⟨rfl, hb2⟩
    go_wp2
    go_ret2
    exact retSB_no (hb1.trans (hb2.mono hb1.size))

theorem implJoin_any {a1 a2 : Option Addr} {c1 c2 : Nat} {xs ys : List Int} {w : World} (hx : Rd (Value.int .i64) w a1 c1 xs) (hy : Rd (Value.int .i64) w a2 c2 ys) :
    Calls Try.prog 21 #[.slice a1 xs.length c1, .slice a2 ys.length c2] w (RetSB (Value.int .i64) 2 w (joinR xs ys) (sums xs && sums ys)) := by
  cases h : (sums xs && sums ys) with
  | false => simpa [joinR, h] using implJoin_no a1 a2 c1 c2 xs ys w hx hy h
  | true =>
    have h' := h
    simp only [Bool.and_eq_true] at h'
    simpa [joinR, h] using implJoin_yes a1 a2 c1 c2 xs ys w hx hy h'.1 h'.2

end Go.Proofs.Ytiplibbicefaiaa
