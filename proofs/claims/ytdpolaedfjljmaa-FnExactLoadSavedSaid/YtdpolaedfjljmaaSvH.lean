/- The laws' helpers on lists of saved ones. -/
import Derived.Test.YtdpolaedfjljmaaSvD
import Derived.Test.YtdpolaedfjljmaaCalm
namespace Go.Proofs.Ytdpolaedfjljmaa
open Go.RowKit

theorem und_svi : Try.prog.underlying 34 = some (.slice (Try.prog.elem 34)) := by kernel_rfl
theorem siz_svi (w : World) : (sizeOf (Try.prog.elem 34)).run Try.prog w = .ok 9 w := by kernel_rfl
theorem und_svie : Try.prog.underlying 34 = some (.slice 28) := by kernel_rfl
theorem info_sv : (Try.prog.info? 28).map (fun i => (i.zero, i.size, i.bytes)) = some (some (.agg #[.string ⟨#[]⟩, .int .i64 0, .int .i64 0, .int .i64 0, .slice none 0 0, .int .i64 0, .slice none 0 0, .slice none 0 0, .slice none 0 0]), 9, 144) := by kernel_rfl
theorem make_svs {n : Nat} (hn : n ≤ 1048576) (w : World) : (Instr.makeSlice 34 (.int .i64 (n : Int)) (.int .i64 (n : Int))).run Try.prog w = .ok (.slice (some ⟨w.heap.size, 0, none⟩) n n) (w.alloc (.cells (madeCells #[.string ⟨#[]⟩, .int .i64 0, .int .i64 0, .int .i64 0, .slice none 0 0, .int .i64 0, .slice none 0 0, .slice none 0 0, .slice none 0 0] (n * 9)) 28)) := by
  obtain ⟨i0, hi, hz0, hz1, hz2⟩ := info_parts info_sv
  have h := run_make (P := Try.prog) w 34 28 i0 _ und_svie hi hz0 .i64 .i64 n n (by omega) (Int.le_refl _) (by rw [hz2]; omega) (by omega)
  rw [h, hz1]
  simp [Value.cells]

theorem eqSv_same {h1 h2 : SvH} {s : Sv} {w : World} (g1 : SvRd w h1 s) (g2 : SvRd w h2 s) :
    Calls Try.prog 13 #[.agg (svV h1 s), .agg (svV h2 s)] w fun e w' => e = .returned (.bool true) ∧ Below w.heap.size w w' :=
  eqSaved_same g1.cs g2.cs g1.ks g2.ks g1.ts g2.ts g1.es g2.es

set_option maxHeartbeats 1000000 in
theorem eqSavedS_same {a1 a2 : Option Addr} {c1 c2 : Nat} {hs1 hs2 : List SvH} {ss : List Sv} {w : World} (hx : Rd9 w a1 c1 hs1 ss) (hy : Rd9 w a2 c2 hs2 ss) :
    Calls Try.prog 18 #[.slice a1 ss.length c1, .slice a2 ss.length c2] w fun e w' => e = .returned (.bool true) ∧ Below w.heap.size w w' := by
  have hln := hx.len
  have hd : ((ss.length : Int) != (ss.length : Int)) = false := by simp
  go_enter Try.func18, Try.ntmps18
  go_wp2
  clear hd
  go_loopw [5] (fun i wr => ∃ k : Nat, k ≤ ss.length ∧ i = .int .i64 k ∧ Below w.heap.size w wr) (fun i _ => ss.length - (intOf i).toNat)
  case atStart => exact ⟨0, Nat.zero_le _, rfl, Below.refl _ _⟩
  case round =>
    obtain ⟨k, hk, rfl, hb⟩ := hrel
    by_cases hlt : k < ss.length
    · obtain ⟨ι, hne, G, hG, hS⟩ := calm_family wr
      have hltz : (k : Int) < (ss.length : Int) := by omega
      have ewk : IntKind.i64.wrap ((k : Int) + 1) = (k : Int) + 1 := IntWalk.i64_in _ (by omega)
      obtain ⟨b1, o1, rfl, _⟩ := hx.here (by omega)
      obtain ⟨b2, o2, rfl, _⟩ := hy.here (by omega)
      obtain ⟨d1, hrx, x0, x1, x2, x3, x4, x5, x6, x7, x8⟩ := (hx.below hb (Nat.le_refl _)).at hlt
      obtain ⟨d2, hry, y0, y1, y2, y3, y4, y5, y6, y7, y8⟩ := (hy.below hb (Nat.le_refl _)).at hlt
      have x0' := fun i => k_at (hG i) x0
      have x1' := fun i => k_at (hG i) x1
      have x2' := fun i => k_at (hG i) x2
      have x3' := fun i => k_at (hG i) x3
      have x4' := fun i => k_at (hG i) x4
      have x5' := fun i => k_at (hG i) x5
      have x6' := fun i => k_at (hG i) x6
      have x7' := fun i => k_at (hG i) x7
      have x8' := fun i => k_at (hG i) x8
      have y0' := fun i => k_at (hG i) y0
      have y1' := fun i => k_at (hG i) y1
      have y2' := fun i => k_at (hG i) y2
      have y3' := fun i => k_at (hG i) y3
      have y4' := fun i => k_at (hG i) y4
      have y5' := fun i => k_at (hG i) y5
      have y6' := fun i => k_at (hG i) y6
      have y7' := fun i => k_at (hG i) y7
      have y8' := fun i => k_at (hG i) y8
      have hix := idx9 (b := b1) (o := o1) (n := ss.length) (c := c1) und_svi siz_svi
      have hiy := idx9 (b := b2) (o := o2) (n := ss.length) (c := c2) und_svi siz_svi
      have HC := Lib.hid (fun i => eqSv_same (hrx.below (hG i) (Nat.le_refl _)) (hry.below (hG i) (Nat.le_refl _)))
      have HG := Lib.hid hG
      have HSU := Lib.hid hS
      generalize ss[k] = s at x0' x1' x2' x3' x4' x5' x6' x7' x8' y0' y1' y2' y3' y4' y5' y6' y7' y8' HC
      clear hG hS x0 x1 x2 x3 x4 x5 x6 x7 x8 y0 y1 y2 y3 y4 y5 y6 y7 y8 hrx hry
      go_wp2_with fail
      refine wp_region_calm (G := G) (by kernel_rfl) (by kernel_rfl) HSU.out ?_
      repeat (go_big_quiet_step ((go_at_call 13; exact calm_call HG.out HSU.out (HC.out _))))
      refine wpQuiet_nil ?_
      intro _ hw'
      obtain ⟨i, hw''⟩ := hw'
      subst hw''
      have hb2 := hb.trans ((HG.out i).mono hb.size)
      clear x0' x1' x2' x3' x4' x5' x6' x7' x8' y0' y1' y2' y3' y4' y5' y6' y7' y8' HC
      generalize G i = w2 at hb2 ⊢
      go_wp2
      go_roundw
      case rel => exact ⟨k + 1, by omega, by go_num, hb2⟩
      case measure => simp [intOf]; omega
    · obtain rfl : k = ss.length := by omega
      have hltz : ¬ (ss.length : Int) < (ss.length : Int) := by omega
      go_wp2
      go_ret
      exact ⟨rfl, hb⟩

end Go.Proofs.Ytdpolaedfjljmaa
