/- B10Edges behind its source: a few edges. (Draft: does not build yet.). -/
import Derived.Test.YtfecdmenliohhaaQFo30
import Derived.Test.YtfecdmenliohhaaQFo29
import Derived.Test.YtfecdmenliohhaaQFo6
import Derived.Test.YtfecdmenliohhaaQFo10
set_option linter.unusedVariables false
set_option linter.unusedSimpArgs false
set_option linter.unusedSimpArgs false
set_option linter.unusedVariables false
namespace Go.Proofs.Ytfecdmenliohhaa
open Go.RowKit
attribute [local go_sem ↓] Go.wp_at_zero Go.wp_at_succ
set_option maxRecDepth 20000 in
set_option maxHeartbeats 4000000 in
theorem edges_any {a : Option Addr} {c N : Nat} {xs : List Int} {w : World} (hr : Rd (Value.int .u8) w a c xs) (hb : ∀ x ∈ xs, 0 ≤ x ∧ x < 256) (hn : 2 ≤ N) (hn2 : N ≤ 8) :
    Calls Try.prog 8 #[.slice a xs.length c, .int .i64 (N : Int)] w fun e w' => ∃ a' c' ys j, e = .returned (.slice a' ys.length c') ∧ j ≤ 9 ∧ EdgesOk N ys j ∧ Own (Value.int .i64) 2 w' w.heap.size a' c' ys ∧ Below w.heap.size w w' := by
  have HS := Lib.hid (src_new hr hb)
  have HH : Hid (0 < xs.length → ∀ p, a = some p → p.block < w.heap.size) := Lib.hid (fun h0 p hp => by obtain ⟨g, o, e, hlt⟩ := hr.here h0; rw [e] at hp; simp at hp; subst hp; exact hlt)
  have HB0 := Lib.hid ((Below.refl w.heap.size w).alloc (Nat.le_refl _) (.cells #[.slice a xs.length c, .int .i64 0, .int .u64 0] 61))
  have hsz : (w.alloc (.cells #[.slice a xs.length c, .int .i64 0, .int .u64 0] 61)).heap.size = w.heap.size + 1 := Array.size_push _
  clear hr hb
  go_enter Try.func8, Try.ntmps8
  go_wp2_with fail
  refine l00From_any.mono ?_
  rintro e w1 ⟨rfl, rfl⟩
  generalize w.alloc (.cells #[.slice a xs.length c, .int .i64 0, .int .u64 0] 61) = w1 at *
  have HE := Lib.hid (own_empty (f := Value.int .i64) (e := 2) (α := Int) w1 (by_ := 0) (w.heap.size + 1) (by omega) rfl)
  have HB1 := Lib.hid (HB0.out.alloc (by omega) (.cells #[] 2))
  have HS1 := Lib.hid (HS.out.below ((Below.refl w1.heap.size w1).alloc (Nat.le_refl _) (.cells #[] 2)) (Nat.le_refl _))
  have hlt0 : w.heap.size < w1.heap.size := by omega
  clear HS HB0 hsz
  go_wp2_with fail
  refine (pick_any (n := 10) HS1.out (by omega) (by omega) (by omega)).mono ?_
  rintro e w2 ⟨v, rfl, hv, hs2, hg2⟩
  have HO2 := Lib.hid (HE.out.kept hg2 (fun g hg p hp => by
    have h1 := HE.out.blk p hp
    simp only [Option.some.injEq] at hg
    omega))
  have HB2 := Lib.hid (HB1.out.grown hg2 HB1.out.size (fun k hk => by simp only [Option.some.injEq] at hk; omega))
  have HS2 := Lib.hid hs2
  clear hs2 hg2 HE HB1 HS1
  go_wp2_with fail
  go_loopw [6, 7] (fun ov nv wr => ∃ (k j : Nat) (b2 : Option Addr) (cc : Nat) (ys : List Int), k + j ≤ 9 ∧ nv = .int .i64 (k : Int) ∧ ov = .slice b2 ys.length cc ∧ Hid (EdgesOk N ys j) ∧ Hid (Own (Value.int .i64) 2 wr (w.heap.size + 1) b2 cc ys) ∧ Hid (Src wr w.heap.size a c xs (1 + 2 * j)) ∧ Hid (Below w.heap.size w wr)) (fun _ nv _ => (intOf nv).toNat)
  case atStart => exact ⟨v, 0, _, _, [], by omega, rfl, rfl, Lib.hid ⟨rfl, by simp, fun i hi => by omega⟩, HO2, HS2, HB2⟩
  case round =>
    clear HO2 HS2 HB2
    obtain ⟨k, j, b2, cc, ys, hk, rfl, rfl, HD, HO, HS, HB⟩ := hrel
    by_cases hk0 : 0 < k
    · obtain ⟨wi, rfl⟩ : ∃ wi : World, wi = wr := ⟨_, rfl⟩
      have z1 : (0 : Int) < (k : Int) := by omega
      have ewn : IntKind.i64.wrap ((k : Int) - 1) = ((k - 1 : Nat) : Int) := by rw [IntWalk.i64_in _ (by omega)]; omega
      have ewN : IntKind.i64.wrap ((N : Int) - 1) = ((N - 1 : Nat) : Int) := by rw [IntWalk.i64_in _ (by omega)]; omega
      go_wp2_with fail
      refine (pick_any (n := N) HS.out (by omega) (by omega) (by omega)).mono ?_
      rintro e w3 ⟨va, rfl, hva, hs3, hg3⟩
      have HO3 := Lib.hid (HO.out.kept hg3 (fun g hg p hp => by
        have h1 := HO.out.blk p hp
        simp only [Option.some.injEq] at hg
        omega))
      have HB3 := Lib.hid (HB.out.grown hg3 HB.out.size (fun k hk => by simp only [Option.some.injEq] at hk; omega))
      have HS3 := Lib.hid hs3
      have hz3 : w.heap.size + 1 ≤ w3.heap.size := by have := hs3.lt; omega
      have hl : ys.length ≤ 18 := by rw [HD.out.1]; omega
      clear hs3 hg3 HO HS HB
      go_wp2_with (at_builtin; refine wpl_append1 (f := Value.int .i64) (d := 0) (base := w.heap.size + 1) und_ise info_i (fun _ => rfl) (va : Int) HO3.out rfl _ _ rfl rfl rfl (by omega) (by omega) hz3 ?_; intro a4 c4 w4 ho4 hg4)
      have HS4 := Lib.hid (HS3.out.kept hg4 (fun e => by
        obtain ⟨x, hx, e⟩ := Option.map_eq_some_iff.1 e.symm
        have h1 := HO3.out.blk x hx
        omega) (fun h0 x hx e => by
        obtain ⟨y, hy, e⟩ := Option.map_eq_some_iff.1 e.symm
        have h1 := HO3.out.blk y hy
        have h2 := HH.out h0 x hx
        omega))
      have HB4 := Lib.hid (HB3.out.trans (grown_belowOwn HO3.out hg4 (by omega) (by omega)))
      obtain ⟨zs, hzs⟩ : ∃ zs : List Int, zs = ys ++ [(va : Int)] := ⟨_, rfl⟩
      have hlz : zs.length = ys.length + 1 := by rw [hzs]; simp
      rw [← hzs] at ho4
      rw [← hlz]
      have hl5 : zs.length ≤ 19 := by omega
      have HO4 := Lib.hid ho4
      have HZ := Lib.hid hzs
      clear ho4 hg4 hlz hzs
      refine (pick_any (n := N - 1) HS4.out (by omega) (by omega) (by omega)).mono ?_
      rintro e w5 ⟨vb, rfl, hvb, hs5, hg5⟩
      have HO5 := Lib.hid (HO4.out.kept hg5 (fun g hg p hp => by
        have h1 := HO4.out.blk p hp
        simp only [Option.some.injEq] at hg
        omega))
      have HB5 := Lib.hid (HB4.out.grown hg5 HB4.out.size (fun k hk => by simp only [Option.some.injEq] at hk; omega))
      have HS5 := Lib.hid hs5
      have hz5 : w.heap.size + 1 ≤ w5.heap.size := by have := hs5.lt; omega
      have ew1 : IntKind.i64.wrap ((va : Int) + 1) = (va : Int) + 1 := IntWalk.i64_in _ (by omega)
      have ew2 : IntKind.i64.wrap ((va : Int) + 1 + (vb : Int)) = (va : Int) + 1 + (vb : Int) := IntWalk.i64_in _ (by omega)
      clear hs5 hg5 HS4 HB4 HO4
      have hx1 : 0 ≤ ((va : Int) + 1 + (vb : Int)) % (N : Int) := Int.emod_nonneg _ (by omega)
      have hx2 : ((va : Int) + 1 + (vb : Int)) % (N : Int) < (N : Int) := Int.emod_lt_of_pos _ (by omega)
      have hx3 : (va : Int) ≠ ((va : Int) + 1 + (vb : Int)) % (N : Int) := by
        intro e
        have h1 := Int.mul_ediv_add_emod ((va : Int) + 1 + (vb : Int)) (N : Int)
        rw [← e] at h1
        generalize ((va : Int) + 1 + (vb : Int)) / (N : Int) = q at h1
        have hq : 0 < q ∨ q ≤ 0 := by omega
        rcases hq with hq | hq
        · have : (N : Int) * 1 ≤ N * q := Int.mul_le_mul_of_nonneg_left (by omega) (by omega)
          omega
        · have : (N : Int) * q ≤ N * 0 := Int.mul_le_mul_of_nonneg_left hq (by omega)
          omega
      have ewr : IntKind.i64.wrap (((va : Int) + 1 + (vb : Int)) % (N : Int)) = ((va : Int) + 1 + (vb : Int)) % (N : Int) := IntWalk.i64_in _ (by omega)
      have hx0 : ((va : Int) + 1 + (vb : Int)).tmod (N : Int) = ((va : Int) + 1 + (vb : Int)) % (N : Int) := Int.tmod_eq_emod_of_nonneg (by omega)
      have hn0 : ¬ (N : Int) = 0 := by omega
      have hn00 : ((N : Int) == 0) = false := by simp; omega
      have HX := Lib.hid (And.intro hx1 (And.intro hx2 hx3))
      clear hx1 hx2 hx3
      generalize ((va : Int) + 1 + (vb : Int)) % (N : Int) = x at *
      go_wp2_with (at_builtin; refine wpl_append1 (f := Value.int .i64) (d := 0) (base := w.heap.size + 1) und_ise info_i (fun _ => rfl) x HO5.out rfl _ _ rfl rfl rfl (by omega) (by omega) hz5 ?_; intro a6 c6 w6 ho6 hg6)
      have HS6 := Lib.hid (HS5.out.kept hg6 (fun e => by
        obtain ⟨x, hx, e⟩ := Option.map_eq_some_iff.1 e.symm
        have h1 := HO5.out.blk x hx
        omega) (fun h0 x hx e => by
        obtain ⟨y, hy, e⟩ := Option.map_eq_some_iff.1 e.symm
        have h1 := HO5.out.blk y hy
        have h2 := HH.out h0 x hx
        omega))
      have HB6 := Lib.hid (HB5.out.trans (grown_belowOwn HO5.out hg6 (by omega) (by omega)))
      go_roundw
      case rel =>
        refine ⟨k - 1, j + 1, a6, c6, zs ++ [x], by omega, rfl, by simp, Lib.hid (by rw [HZ.out]; exact HD.out.snoc (by omega) ⟨HX.out.1, HX.out.2.1⟩ HX.out.2.2), Lib.hid ho6, Lib.hid (HS6.out.mono (by omega)), HB6⟩
      case measure => simp [intOf]; omega
    · obtain rfl : k = 0 := by omega
      have z1 : ¬ (0 : Int) < ((0 : Nat) : Int) := by omega
      go_wp2
      go_ret
      exact ⟨b2, cc, ys, rfl, j, by omega, HD.out, HO.out.mono (by omega), HB.out⟩
end Go.Proofs.Ytfecdmenliohhaa
