/- Bytes read one after another, in the program's text; four bytes, in the reference's text. -/
import Derived.Test.YtdpolaedfjljmaaLdR
namespace Go.Proofs.Ytdpolaedfjljmaa
open Go.RowKit

/-- The world behind a reading of bytes. -/
def wTk (w : World) (b : Nat) (u : ByteArray) (n : Nat) : World := if n ≤ u.size then w.setCell ⟨b, 0, none⟩ (.string (tkU u n)) else w.setCell ⟨b, 1, none⟩ (.bool true)
theorem wTk_yes {w : World} {b : Nat} {u : ByteArray} {n : Nat} (h : n ≤ u.size) : wTk w b u n = w.setCell ⟨b, 0, none⟩ (.string (tkU u n)) := if_pos h
theorem wTk_no {w : World} {b : Nat} {u : ByteArray} {n : Nat} (h : ¬ n ≤ u.size) : wTk w b u n = w.setCell ⟨b, 1, none⟩ (.bool true) := if_neg h
theorem wTk_blk {w : World} {b : Nat} {u : ByteArray} {f : Bool} {T : TypeId} (h : Blk w b #[.string u, .bool f] T) (n : Nat) : Blk (wTk w b u n) b #[.string (tkU u n), .bool (tkF u n f)] T := by
  by_cases hn : n ≤ u.size
  · rw [wTk_yes hn]
    have := h.set 0 (.string (tkU u n))
    have e : tkF u n f = f := by unfold tkF; rw [decide_eq_false (by omega)]; simp
    rw [e]
    simpa using this
  · rw [wTk_no hn]
    have := h.set 1 (.bool true)
    have e : tkF u n f = true := by unfold tkF; rw [decide_eq_true (by omega)]; simp
    have e2 : tkU u n = u := by unfold tkU; rw [if_neg hn]
    rw [e, e2]
    simpa using this
theorem wTk_below {w : World} {b : Nat} {u : ByteArray} {n B : Nat} (hB : B ≤ b) : Below B w (wTk w b u n) := by
  unfold wTk
  split
  · exact (Below.refl _ _).setCell hB _
  · exact (Below.refl _ _).setCell hB _
theorem wTk_bx {w : World} {b o : Nat} {u : ByteArray} {n : Nat} {h : SvH} {s : Sv} (q : SvBx w o h s) (hb : b < o) : SvBx (wTk w b u n) o h s := by
  unfold wTk
  split
  · exact q.far hb _
  · exact q.far hb _
theorem wTk_size {w : World} {b : Nat} {u : ByteArray} {n : Nat} : (wTk w b u n).heap.size = w.heap.size := by
  unfold wTk
  split <;> simp

theorem take_any {b n : Nat} {u : ByteArray} {f : Bool} {T : TypeId} {w : World} (hB : Blk w b #[.string u, .bool f] T) (hu : u.size ≤ 9223372036854775807) (hn : n ≤ 9223372036854775807) :
    Calls Try.prog 108 #[.pointer (some ⟨b, 0, none⟩), .int .i64 (n : Int)] w fun e w' => e = .returned (.string (tkT u n)) ∧ wTk w b u n = w' := by
  have hc0 := hB.cell (i := 0) (v := .string u) rfl
  have hc1 := hB.cell (i := 1) (v := .bool f) rfl
  have hf0 := hB.free 0
  have hf1 := hB.free 1
  by_cases h : n ≤ u.size
  · have hz : ¬ (u.size : Int) < (n : Int) := by omega
    have hnz : (n : Int) ≤ (u.size : Int) := by omega
    have eT : tkT u n = u.extract 0 n := if_pos h
    have eU : tkU u n = u.extract n u.size := if_pos h
    rw [wTk_yes h, eT, eU]
    go_enter Try.func108, Try.ntmps108
    go_wp2
    go_ret
    exact ⟨rfl, rfl⟩
  · have hz : (u.size : Int) < (n : Int) := by omega
    have eT : tkT u n = ⟨#[]⟩ := if_neg h
    rw [wTk_no h, eT]
    go_enter Try.func108, Try.ntmps108
    go_wp2
    go_ret
    exact ⟨rfl, rfl⟩

set_option maxHeartbeats 1000000 in
theorem number_any {b n : Nat} {u : ByteArray} {f : Bool} {T : TypeId} {w : World} (hB : Blk w b #[.string u, .bool f] T) (hu : u.size ≤ 9223372036854775807) (hn : n ≤ 4) :
    Calls Try.prog 109 #[.pointer (some ⟨b, 0, none⟩), .int .i64 (n : Int)] w fun e w' => e = .returned (.int .i64 (numT (tkT u n))) ∧ wTk w b u n = w' := by
  have HC := Lib.hid (take_any (n := n) hB hu (by omega))
  have hts := tkT_size u n
  obtain ⟨t, ht⟩ : ∃ t, tkT u n = t := ⟨_, rfl⟩
  obtain ⟨w2, hw2⟩ : ∃ z, wTk w b u n = z := ⟨_, rfl⟩
  rw [ht, hw2] at HC
  rw [ht] at hts
  rw [ht, hw2]
  have HN : Hid (numT t = nbR t t.size) := Lib.hid rfl
  have HR : Hid (∀ j, nbR t (j + 1) = 256 * nbR t j + (byt t (t.size - (j + 1)) : Int)) := Lib.hid (fun _ => rfl)
  have H0 : Hid (nbR t 0 = 0) := Lib.hid rfl
  have HBD := Lib.hid (fun j hj => nbR_bd t j hj)
  generalize numT t = r at HN ⊢
  generalize nbR t = R at HN HR H0 HBD
  clear ht hw2 hB hu
  go_enter Try.func109, Try.ntmps109
  go_wp2_with fail
  refine HC.out.mono ?_
  rintro e w3 ⟨rfl, rfl⟩
  clear HC
  go_wp2
  go_loop [5, 7] (fun ni ii => ∃ j : Nat, j ≤ t.size ∧ ii = .int .i64 ((t.size : Int) - 1 - (j : Int)) ∧ ni = .int .i64 (R j)) (fun _ ii => (intOf ii + 1).toNat)
  case atStart => exact ⟨0, Nat.zero_le _, by go_num, by rw [H0.out]⟩
  case round =>
    obtain ⟨j, hj, rfl, rfl⟩ := hrel
    by_cases hlt : j < t.size
    · obtain ⟨k, hk⟩ : ∃ k : Nat, k = t.size - (j + 1) := ⟨_, rfl⟩
      have ek : (t.size : Int) - 1 - (j : Int) = (k : Int) := by omega
      rw [ek]
      have hkz : (k : Int) < (t.size : Int) := by omega
      have hkn : k < t.size := by omega
      have hge : (0 : Int) ≤ (k : Int) := by omega
      have hb := byt_lt t k
      have eb : t[k].toNat = byt t k := byt_eq hkn
      have hx := HBD.out j (by omega)
      have h4 : (256 : Int) ^ j ≤ 16777216 := by
        match j, (by omega : j < 4) with
        | 0, _ => decide
        | 1, _ => decide
        | 2, _ => decide
        | 3, _ => decide
      have HR1 := Lib.hid (HR.out j)
      rw [← hk] at HR1
      have hor := or_byte (a := R j) (b := byt t k) (by omega) (by omega) hb
      rw [← HR1.out] at hor
      have ewk : IntKind.i64.wrap ((k : Int) - 1) = (k : Int) - 1 := IntWalk.i64_in _ (by omega)
      clear HBD HN hk
      go_wp2
      go_round
      case rel => exact ⟨j + 1, by omega, by rw [show (k : Int) - 1 = (t.size : Int) - 1 - ((j + 1 : Nat) : Int) by omega], rfl⟩
      case measure => simp [intOf] <;> omega
    · have hge : ¬ (0 : Int) ≤ (t.size : Int) - 1 - (j : Int) := by omega
      obtain rfl : j = t.size := by omega
      go_wp2
      go_ret
      exact ⟨by rw [HN.out] <;> rfl, rfl⟩

theorem l07Read_any {t : ByteArray} {w : World} (ht : 4 ≤ t.size) (hs : t.size ≤ 9223372036854775807) :
    Calls Try.prog 107 #[.string t] w fun e w' => e = .returned (.int .i64 (nb4 t 0)) ∧ ∃ m, w' = w.drewN m := by
  have h0 : (0 : Nat) < t.size := by omega
  have h1 : 1 < t.size := by omega
  have h2 : 2 < t.size := by omega
  have h3 : 3 < t.size := by omega
  have e0 : t[0].toNat = byt t 0 := byt_eq h0
  have e1 : t[1].toNat = byt t 1 := byt_eq h1
  have e2 : t[2].toNat = byt t 2 := byt_eq h2
  have e3 : t[3].toNat = byt t 3 := byt_eq h3
  have b0 := byt_lt t 0
  have b1 := byt_lt t 1
  have b2 := byt_lt t 2
  have b3 := byt_lt t 3
  have HN : Hid (nb4 t 0 = (byt t 0 : Int) + 256 * (byt t 1 : Int) + 65536 * (byt t 2 : Int) + 16777216 * (byt t 3 : Int)) := Lib.hid rfl
  generalize nb4 t 0 = r at HN ⊢
  have f1 : IntKind.i64.wrap (256 * (byt t 1 : Int)) = 256 * (byt t 1 : Int) := IntWalk.i64_in _ (by omega)
  have f2 : IntKind.i64.wrap (65536 * (byt t 2 : Int)) = 65536 * (byt t 2 : Int) := IntWalk.i64_in _ (by omega)
  have f3 : IntKind.i64.wrap (16777216 * (byt t 3 : Int)) = 16777216 * (byt t 3 : Int) := IntWalk.i64_in _ (by omega)
  go_enter Try.func107, Try.ntmps107
  go_wp2_with fail
  go_quiet (fail)
  go_wp2
  go_ret
  exact ⟨by rw [HN.out] <;> rfl, ⟨_, rfl⟩⟩

end Go.Proofs.Ytdpolaedfjljmaa
