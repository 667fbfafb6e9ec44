/- The first index with a size, and how many there are with it: the reference's text. -/
import Derived.Test.YtofbnddmahjanaaPutL
import Derived.Test.YtofbnddmahjanaaDel
import Derived.Test.YtofbnddmahjanaaWinT
namespace Go.Proofs.Ytofbnddmahjanaa
open Go.RowKit

theorem findIdx?_snoc {α : Type} (p : α → Bool) (xs : List α) (x : α) : (xs ++ [x]).findIdx? p = match xs.findIdx? p with | some i => some i | none => if p x then some xs.length else none := by
  rw [List.findIdx?_append]
  cases h : xs.findIdx? p with
  | some i => rfl
  | none => by_cases hp : p x = true <;> simp [List.findIdx?_cons, hp]
theorem idxOf_snoc {xs : List Int} {s : Int} {k : Nat} (hk : k < xs.length) :
    idxOf (fun x => x == s) (xs.take (k + 1)) = if idxOf (fun x => x == s) (xs.take k) < 0 ∧ xs[k] = s then (k : Int) else idxOf (fun x => x == s) (xs.take k) := by
  have ht : xs.take (k + 1) = xs.take k ++ [xs[k]] := by rw [List.take_add_one, List.getElem?_eq_getElem hk]; rfl
  have hl : (xs.take k).length = k := by simp; omega
  unfold idxOf
  rw [ht, findIdx?_snoc, hl]
  cases h : (xs.take k).findIdx? (fun x => x == s) with
  | some i =>
    simp only
    rw [if_neg (by omega)]
  | none =>
    by_cases hs : xs[k] = s
    · simp [hs]
    · have : (xs[k] == s) = false := by simpa using hs
      simp [this, hs]
theorem count_snoc' {xs : List Int} {s : Int} {k : Nat} (hk : k < xs.length) : (xs.take (k + 1)).count s = (xs.take k).count s + (if xs[k] = s then 1 else 0) := by
  have ht : xs.take (k + 1) = xs.take k ++ [xs[k]] := by rw [List.take_add_one, List.getElem?_eq_getElem hk]; rfl
  rw [ht, List.count_append, List.count_singleton]
  by_cases hs : xs[k] = s
  · simp [hs]
  · have : (xs[k] == s) = false := by simpa using hs
    simp [this, hs]
theorem idxOf_bd {xs : List Int} {s : Int} (k : Nat) (hk : k ≤ xs.length) : -1 ≤ idxOf (fun x => x == s) (xs.take k) ∧ idxOf (fun x => x == s) (xs.take k) ≤ xs.length := by
  unfold idxOf
  cases h : (xs.take k).findIdx? (fun x => x == s) with
  | none => simp only; omega
  | some i =>
    rw [List.findIdx?_eq_some_iff_getElem] at h
    obtain ⟨hi, _⟩ := h
    simp at hi
    simp; omega

set_option maxRecDepth 4000 in
set_option maxHeartbeats 2000000 in
theorem l06First_any {b : Nat} {ta sa : Option Addr} {tl tc sc : Nat} {ss : List Int} {L P s : Int} {w : World} (hw : WinAt w b 0 L P ta tl tc sa ss.length sc) (hs : Rd (Value.int .i64) w sa sc ss) (hl : ss.length ≤ 1048576) :
    Calls Try.prog 143 #[.pointer (some ⟨b, 0, none⟩), .int .i64 s] w fun e w' => e = .returned (.tuple #[.int .i64 (idxOf (fun x => x == s) ss), .int .i64 (ss.count s : Int)]) ∧ w = w' := by
  have d3 := hw.c3
  clear hw
  simp only [Nat.zero_add] at d3
  go_enter Try.func143, Try.ntmps143
  go_wp2
  go_loop [6, 7, 8] (fun f n i => ∃ (k m : Nat) (z : Int), k ≤ ss.length ∧ i = .int .i64 k ∧ n = .int .i64 m ∧ f = .int .i64 z ∧ m ≤ k ∧ -1 ≤ z ∧ z ≤ ss.length ∧ Hid (z = idxOf (fun x => x == s) (ss.take k)) ∧ Hid (m = (ss.take k).count s)) (fun _ _ i => ss.length - (intOf i).toNat)
  case atStart => exact ⟨0, 0, -1, Nat.zero_le _, rfl, rfl, rfl, by omega, by omega, by omega, by show _ = _; rfl, by show _ = _; rfl⟩
  case round =>
    obtain ⟨k, m, z, hk, rfl, rfl, rfl, hm, z1, z2, HZ, HM⟩ := hrel
    by_cases hlt : k < ss.length
    · have hix := hs.idx und_is siz_is
      have hcx := hs.cell k hlt
      simp only [List.getElem?_eq_getElem hlt, Option.getD_some] at hcx
      have hi1 := idxOf_snoc (s := s) hlt
      have hc1 := count_snoc' (s := s) hlt
      rw [← HZ.out] at hi1
      rw [← HM.out] at hc1
      obtain ⟨x, hx⟩ : ∃ x, ss[k] = x := ⟨_, rfl⟩
      rw [hx] at hcx hi1 hc1
      by_cases hxs : x = s
      · subst hxs
        have hd : (x == x) = true := by simp
        rw [if_pos rfl] at hc1
        have HC1 := Lib.hid hc1
        by_cases hz : z < 0
        · rw [if_pos ⟨hz, rfl⟩] at hi1
          have HI1 := Lib.hid hi1
          clear hi1 hc1 hx
          go_wp2
          go_round
          case rel => exact ⟨k + 1, m + 1, k, by omega, by go_num, by go_num, rfl, by omega, by omega, by omega, by show _ = _; rw [HI1.out], by show _ = _; rw [HC1.out]⟩
          case measure => simp [intOf]; omega
        · rw [if_neg (by omega)] at hi1
          have HI1 := Lib.hid hi1
          clear hi1 hc1 hx
          go_wp2
          go_round
          case rel => exact ⟨k + 1, m + 1, z, by omega, by go_num, by go_num, rfl, by omega, by omega, by omega, by show _ = _; rw [HI1.out], by show _ = _; rw [HC1.out]⟩
          case measure => simp [intOf]; omega
      · have hd : (x == s) = false := by simpa using hxs
        rw [if_neg hxs] at hc1
        rw [if_neg (fun h => hxs h.2)] at hi1
        have HI1 := Lib.hid hi1
        have HC1 := Lib.hid hc1
        clear hi1 hc1 hx hxs
        go_wp2
        go_round
        case rel => exact ⟨k + 1, m, z, by omega, by go_num, rfl, rfl, by omega, by omega, by omega, by show _ = _; rw [HI1.out], by show _ = _; rw [HC1.out]; rfl⟩
        case measure => simp [intOf]; omega
    · obtain rfl : k = ss.length := by omega
      have HZ2 : Hid (z = idxOf (fun x => x == s) ss) := Lib.hid (by have := HZ.out; rwa [List.take_length] at this)
      have HM2 : Hid (m = ss.count s) := Lib.hid (by have := HM.out; rwa [List.take_length] at this)
      clear HZ HM
      go_wp2
      go_ret2
      exact ⟨by rw [HZ2.out, HM2.out]; rfl, rfl⟩

end Go.Proofs.Ytofbnddmahjanaa
