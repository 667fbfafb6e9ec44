/- Numbers as bytes, in both texts. -/
import Derived.Test.YtdpolaedfjljmaaByt
namespace Go.Proofs.Ytdpolaedfjljmaa
open Go.RowKit

set_option maxHeartbeats 1000000 in
theorem bytesOf_any {base : Nat} {a : Option Addr} {c : Nat} {xs : List Int} {n : Int} {m : Nat} {w : World} (ho : Own (Value.int .u8) 5 w base a c xs) (hb : base ≤ w.heap.size) (hx : xs.length ≤ 1048576) (hm : m ≤ 8) (hn : 0 ≤ n ∧ n < 4294967296) :
    Calls Try.prog 111 #[.slice a xs.length c, .int .i64 n, .int .i64 m] w fun e w' => ∃ a' c', e = .returned (.slice a' (xs ++ le n m).length c') ∧ Own (Value.int .u8) 5 w' base a' c' (xs ++ le n m) ∧ Below base w w' := by
  have HB : Hid (∀ k, 0 ≤ shrK n k ∧ shrK n k < 4294967296) := Lib.hid (fun k => by
    induction k with
    | zero => exact hn
    | succ k ih => unfold shrK; omega)
  have HS : Hid (∀ k, shrK n (k + 1) = shrK n k / 256) := Lib.hid (fun _ => rfl)
  have HL : Hid (∀ k, le n (k + 1) = le n k ++ [shrK n k % 256]) := Lib.hid (fun _ => rfl)
  have HN : Hid (∀ k, (le n k).length = k) := Lib.hid (le_len n)
  have H0 : Hid (n = shrK n 0 ∧ xs ++ le n 0 = xs) := Lib.hid ⟨rfl, by simp [le]⟩
  have HO := Lib.hid ho
  have HBB := Lib.hid hb
  generalize shrK n = S at HB HS HL H0
  generalize le n = L at HL HN H0 ⊢
  clear ho
  go_enter Try.func111, Try.ntmps111
  go_wp2
  go_loopw [0, 1, 8] (fun si ni vi wr => ∃ (k : Nat) (a' : Option Addr) (c' : Nat), vi = .int .i64 k ∧ k ≤ m ∧ si = .slice a' (xs ++ L k).length c' ∧ ni = .int .i64 (S k) ∧ Hid (Own (Value.int .u8) 5 wr base a' c' (xs ++ L k) ∧ Below base w wr)) (fun _ _ vi _ => m - (intOf vi).toNat)
  case atStart => exact ⟨0, a, c, rfl, Nat.zero_le _, by rw [H0.out.2], by rw [← H0.out.1], Lib.hid ⟨by rw [H0.out.2]; exact HO.out, Below.refl _ _⟩⟩
  case round =>
    obtain ⟨k, a', c', rfl, hk, rfl, rfl, HI⟩ := hrel
    by_cases hlt : k < m
    · have hltz : (k : Int) < (m : Int) := by omega
      have ewk : IntKind.i64.wrap ((k : Int) + 1) = (k : Int) + 1 := IntWalk.i64_in _ (by omega)
      have hb1 := HB.out k
      have HS1 := Lib.hid (HS.out k)
      have HL1 := Lib.hid (HL.out k)
      have HN1 := Lib.hid (HN.out (k + 1))
      have hl : (xs ++ L k).length = xs.length + k := by rw [List.length_append, HN.out]
      have hbw : base ≤ wr.heap.size := Nat.le_trans hb HI.out.2.size
      generalize S k = z at hb1 HS1 HL1 ⊢
      obtain ⟨ys, hy⟩ : ∃ ys, xs ++ L k = ys := ⟨_, rfl⟩
      have HY := Lib.hid hy
      rw [hy] at HI hl ⊢
      have e1 : IntKind.u8.wrap z = z % 256 := IntKind.wrap_u8' z
      have e2 : IntKind.i64.wrap (z / 256) = z / 256 := IntWalk.i64_in _ (by omega)
      clear hy
      go_wp2_with (at_builtin; refine wpl_appendL (f := Value.int .u8) (d := 0) (base := base) und_ye info_y (fun _ => rfl) [z % 256] HI.out.1 rfl _ _ rfl rfl rfl (by simp; omega) (by omega) hbw ?_; intro a3 c3 w3 ho3 hg3)
      have HO3 := Lib.hid ho3
      have HB3 := Lib.hid (HI.out.2.trans (grown_belowOwn HI.out.1 hg3 (Nat.le_refl _) hbw))
      clear ho3 hg3
      go_wp2
      go_roundw
      case rel => exact ⟨k + 1, a3, c3, by go_num, by omega, by rw [HL1.out, ← List.append_assoc, HY.out]; simp; omega, by rw [HS1.out], Lib.hid ⟨by rw [HL1.out, ← List.append_assoc, HY.out]; exact HO3.out, HB3.out⟩⟩
      case measure => simp [intOf]; omega
    · obtain rfl : k = m := by omega
      have hltz : ¬ (k : Int) < (k : Int) := by omega
      go_wp2
      go_ret
      exact ⟨_, _, rfl, HI.out.1, HI.out.2⟩

set_option maxHeartbeats 1000000 in
theorem l07Word_any {base : Nat} {a : Option Addr} {c : Nat} {xs : List Int} {n : Int} {w : World} (ho : Own (Value.int .u8) 5 w base a c xs) (hb : base ≤ w.heap.size) (hx : xs.length ≤ 1048576) (hn : 0 ≤ n ∧ n < 4294967296) :
    Calls Try.prog 117 #[.slice a xs.length c, .int .i64 n] w fun e w' => ∃ a' c', e = .returned (.slice a' (xs ++ le n 4).length c') ∧ Own (Value.int .u8) 5 w' base a' c' (xs ++ le n 4) ∧ Below base w w' := by
  have HO := Lib.hid ho
  have el : le n 4 = [n % 256, n / 256 % 256, n / 65536 % 256, n / 16777216] := by rw [le_4, show n / 256 / 256 = n / 65536 by omega, show n / 65536 / 256 % 256 = n / 16777216 by omega]
  have hl4 : (xs ++ le n 4).length = xs.length + 4 := by rw [List.length_append, le_len]
  rw [hl4, el]
  have f1 : IntKind.u8.wrap (n % 256) = n % 256 := by rw [IntKind.wrap_u8']; omega
  have f2 : IntKind.u8.wrap (n / 256 % 256) = n / 256 % 256 := by rw [IntKind.wrap_u8']; omega
  have f3 : IntKind.u8.wrap (n / 65536 % 256) = n / 65536 % 256 := by rw [IntKind.wrap_u8']; omega
  have f4 : IntKind.u8.wrap (n / 16777216) = n / 16777216 := by rw [IntKind.wrap_u8']; omega
  have g1 : IntKind.i64.wrap (n % 256) = n % 256 := IntWalk.i64_in _ (by omega)
  have g2 : IntKind.i64.wrap (n / 256) = n / 256 := IntWalk.i64_in _ (by omega)
  have g3 : IntKind.i64.wrap (n / 65536) = n / 65536 := IntWalk.i64_in _ (by omega)
  have g4 : IntKind.i64.wrap (n / 16777216) = n / 16777216 := IntWalk.i64_in _ (by omega)
  have g5 : IntKind.i64.wrap (n / 256 % 256) = n / 256 % 256 := IntWalk.i64_in _ (by omega)
  have g6 : IntKind.i64.wrap (n / 65536 % 256) = n / 65536 % 256 := IntWalk.i64_in _ (by omega)
  have h2 : 0 ≤ n / 256 := by omega
  have h3 : 0 ≤ n / 65536 := by omega
  clear ho el hl4
  go_enter Try.func117, Try.ntmps117
  go_wp2_with (at_builtin; refine wpl_appendL (f := Value.int .u8) (d := 0) (base := base) und_ye info_y (fun _ => rfl) [n % 256, n / 256 % 256, n / 65536 % 256, n / 16777216] HO.out rfl _ _ rfl rfl rfl (by simp; omega) (by omega) hb ?_; intro a3 c3 w3 ho3 hg3)
  have HO3 := Lib.hid ho3
  have HB3 := Lib.hid (grown_belowOwn HO.out hg3 (Nat.le_refl _) hb)
  clear ho3 hg3
  go_wp2
  go_ret
  exact ⟨_, _, rfl, HO3.out, HB3.out⟩

end Go.Proofs.Ytdpolaedfjljmaa
