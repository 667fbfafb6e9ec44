/- FnForests: the pieces ahead of the call of ForestsShared, in a view. -/
import Derived.Test.YtfecdmenliohhaaQFo42
import Derived.Test.YtfecdmenliohhaaQFo33
set_option linter.unusedVariables false
set_option linter.unusedSimpArgs false
set_option linter.unusedSimpArgs false
set_option linter.unusedVariables false
namespace Go.Proofs.Ytfecdmenliohhaa
open Go Go.Conc Go.RowKit
def LG : List FuncId := [6, 7, 8, 26, 27, 46, 9, 10, 12, 13, 14, 15, 16, 28, 29, 30, 31, 37, 38, 39, 40, 41, 42, 43, 47, 52, 53, 54, 55, 70, 71]
theorem lg_ok : LG.all (fnOk Try.prog LG) = true := by decide +kernel
noncomputable def bodyF : Code := Try.f3.body.getD .skip
theorem bodyF_ok : pOk Try.prog LG 6 bodyF = true := by kernel_rfl
noncomputable def restF8 : Code := match dropC 6 bodyF with | .seq _ c => c | c => c
theorem restF8_ok : codeOk Try.prog LG restF8 = true := by decide +kernel

noncomputable def pieceF (n : Nat) : Code := match dropC n bodyF with | .seq c _ => c | _ => .skip
noncomputable def pieceF0 : Code := pieceF 0
noncomputable def pieceF1 : Code := pieceF 1
noncomputable def pieceF2 : Code := pieceF 2
noncomputable def pieceF3 : Code := pieceF 3
noncomputable def pieceF4 : Code := pieceF 4
noncomputable def pieceF5 : Code := pieceF 5
/-- At the early return. -/
def FoR (a : Act) (_ : World) : Prop := a.tmps.size = 264 ∧ a.tmps[4]? = some (.bool true)
/-- Ahead of the call. -/
structure FoH (V0 : World) (bV : Option Addr) (m c2 N k : Nat) (ys : List Int) (a6 a7 a10 : Option Addr) (c6 c7 c10 : Nat) (T : Array Value) (w : World) : Prop where
  size : T.size = 264
  t1 : T[1]? = some (.slice bV m c2)
  t5 : T[5]? = some (.int .i64 N)
  t6 : T[6]? = some (.slice a6 ys.length c6)
  t7 : T[7]? = some (.slice a7 (forestR N ys).length c7)
  t8 : T[8]? = some (.int .i64 (forestN N ys))
  t9 : T[9]? = some (.bool true)
  t10 : T[10]? = some (.slice a10 (forestR N ys).length c10)
  t11 : T[11]? = some (.int .i64 (forestN N ys))
  t12 : T[12]? = some (.bool true)
  o6 : Own (Value.int .i64) 2 w V0.heap.size a6 c6 ys
  o7 : Rd (Value.int .i64) w a7 c7 (forestR N ys)
  o10 : Rd (Value.int .i64) w a10 c10 (forestR N ys)
  low : Low V0 w
def FoQ (V0 : World) (bV : Option Addr) (m c2 : Nat) (a : Act) (w : World) : Prop := ∃ (N k : Nat) (ys : List Int) (a6 a7 a10 : Option Addr) (c6 c7 c10 : Nat), 2 ≤ N ∧ N ≤ 8 ∧ k ≤ 9 ∧ EdgesOk N ys k ∧ FoH V0 bV m c2 N k ys a6 a7 a10 c6 c7 c10 a.tmps w
theorem pwp_seq {P : Program} {R Q : Act → World → Prop} {n : Nat} {c1 c2 : Code} {a : Act} {w : World} (h : ∀ T d, c1.wp P (fun e a' w' => a'.defers = [] ∧ ((e = .normal ∧ pwp P R Q n c2 a' w') ∨ (e = .ret ∧ R a' w'))) a (World.tp w T d)) : pwp P R Q (n + 1) (.seq c1 c2) a w := h
attribute [local go_sem ↓] Go.wp_at_zero Go.wp_at_succ
set_option maxRecDepth 100000 in
set_option maxHeartbeats 8000000 in
theorem fo_head {V0 : World} {aV bV : Option Addr} {c1 c2 : Nat} {xs zs : List Int} (h1 : Rd (Value.int .u8) V0 aV c1 xs) (b1 : ∀ x ∈ xs, 0 ≤ x ∧ x < 256) (h2 : Rd (Value.int .u8) V0 bV c2 zs) (b2 : ∀ x ∈ zs, 0 ≤ x ∧ x < 256) :
    pwp Try.prog FoR (FoQ V0 bV zs.length c2) 6 bodyF ⟨#[.slice aV xs.length c1, .slice bV zs.length c2, undef, undef, undef, undef, undef, undef, undef, undef, undef, undef, undef, undef, undef, undef, undef, undef, undef, undef, undef, undef, undef, undef, undef, undef, undef, undef, undef, undef, undef, undef, undef, undef, undef, undef, undef, undef, undef, undef, undef, undef, undef, undef, undef, undef, undef, undef, undef, undef, undef, undef, undef, undef, undef, undef, undef, undef, undef, undef, undef, undef, undef, undef, undef, undef, undef, undef, undef, undef, undef, undef, undef, undef, undef, undef, undef, undef, undef, undef, undef, undef, undef, undef, undef, undef, undef, undef, undef, undef, undef, undef, undef, undef, undef, undef, undef, undef, undef, undef, undef, undef, undef, undef, undef, undef, undef, undef, undef, undef, undef, undef, undef, undef, undef, undef, undef, undef, undef, undef, undef, undef, undef, undef, undef, undef, undef, undef, undef, undef, undef, undef, undef, undef, undef, undef, undef, undef, undef, undef, undef, undef, undef, undef, undef, undef, undef, undef, undef, undef, undef, undef, undef, undef, undef, undef, undef, undef, undef, undef, undef, undef, undef, undef, undef, undef, undef, undef, undef, undef, undef, undef, undef, undef, undef, undef, undef, undef, undef, undef, undef, undef, undef, undef, undef, undef, undef, undef, undef, undef, undef, undef, undef, undef, undef, undef, undef, undef, undef, undef, undef, undef, undef, undef, undef, undef, undef, undef, undef, undef, undef, undef, undef, undef, undef, undef, undef, undef, undef, undef, undef, undef, undef, undef, undef, undef, undef, undef, undef, undef, undef, undef, undef, undef, undef, undef, undef, undef, undef, undef, undef, undef, undef, undef, undef, undef, undef, undef, undef, undef, undef, undef, undef, undef, undef, undef, undef, undef, undef, undef, undef, undef, undef, undef], []⟩ V0 := by
  have H1 := Lib.hid h1
  have H2 := Lib.hid h2
  have B1 := Lib.hid b1
  have B2 := Lib.hid b2
  have hm1 := h1.len
  have hm2 := h2.len
  clear h1 h2 b1 b2
  have hb : bodyF = .seq pieceF0 (.seq pieceF1 (.seq pieceF2 (.seq pieceF3 (.seq pieceF4 (.seq pieceF5 (dropC 6 bodyF)))))) := by kernel_rfl
  rw [hb]
  clear hb
  generalize dropC 6 bodyF = tl
  -- nothing yet
  refine pwp_seq fun T d => ?_
  obtain ⟨w1, hl1⟩ : ∃ w1, w1 = World.tp V0 T d ∧ Low V0 w1 := ⟨_, rfl, .tp V0 T d⟩
  rw [← hl1.1]
  replace hl1 := hl1.2
  clear T d
  simp only [pieceF0, pieceF, bodyF, dropC, Try.f3, Option.getD_some]
  go_wp2_with fail
  -- are they long
  refine pwp_seq fun T d => ?_
  obtain ⟨w2, hl2⟩ : ∃ w2, w2 = World.tp w1 T d ∧ Low V0 w2 := ⟨_, rfl, hl1.trans (.tp w1 T d)⟩
  rw [← hl2.1]
  replace hl2 := hl2.2
  clear T d
  simp only [pieceF1, pieceF, bodyF, dropC, Try.f3, Option.getD_some]
  go_wp2_with fail
  refine (b10Long_any hm1 hm2).mono ?_
  rintro e _ ⟨rfl, rfl⟩
  cases hq : (decide (1048576 < xs.length) || decide (1048576 < zs.length)) with
  | true =>
    go_wp2_with fail
    exact ⟨rfl, rfl⟩
  | false =>
  go_wp2_with fail
  -- how many nodes
  refine pwp_seq fun T d => ?_
  obtain ⟨w3, hl3⟩ : ∃ w3, w3 = World.tp w2 T d ∧ Low V0 w3 := ⟨_, rfl, hl2.trans (.tp w2 T d)⟩
  rw [← hl3.1]
  replace hl3 := hl3.2
  clear T d hl2
  simp only [pieceF2, pieceF, bodyF, dropC, Try.f3, Option.getD_some]
  go_wp2_with fail
  refine (b10At_any (i := 0) (n := 7) (rd_old H2.out hl3.1 hl3.2) B2.out (by omega) (by omega) (by omega)).mono ?_
  rintro e _ ⟨⟨v, rfl, hv⟩, rfl⟩
  obtain ⟨N, hN⟩ : ∃ N : Nat, N = v + 2 := ⟨_, rfl⟩
  have ewN : IntKind.i64.wrap (2 + (v : Int)) = (N : Int) := by rw [IntWalk.i64_in _ (by omega)]; omega
  have hN1 : 2 ≤ N := by omega
  have hN2 : N ≤ 8 := by omega
  clear hN hv
  go_wp2_with fail
  clear ewN
  -- the edges
  refine pwp_seq fun T d => ?_
  obtain ⟨w4, hl4⟩ : ∃ w4, w4 = World.tp w3 T d ∧ Low V0 w4 := ⟨_, rfl, hl3.trans (.tp w3 T d)⟩
  rw [← hl4.1]
  replace hl4 := hl4.2
  clear T d hl3
  simp only [pieceF3, pieceF, bodyF, dropC, Try.f3, Option.getD_some]
  go_wp2_with fail
  refine (edges_any (rd_old H1.out hl4.1 hl4.2) B1.out hN1 hN2).mono ?_
  rintro e w5 ⟨a6, c6, ys, k, rfl, hk, HE, ho6, hb5⟩
  have HE := Lib.hid HE
  have HO6 := Lib.hid (ho6.mono (hl4.1))
  have hl5 : Low V0 w5 := hl4.trans ⟨hb5.size, hb5.block⟩
  clear ho6 hb5 hl4
  go_wp2_with fail
  -- the forest
  refine pwp_seq fun T d => ?_
  obtain ⟨w6, hl6⟩ : ∃ w6, w6 = World.tp w5 T d ∧ Low w5 w6 := ⟨_, rfl, .tp w5 T d⟩
  rw [← hl6.1]
  replace hl6 := hl6.2
  replace HO6 := Lib.hid (hl6.own HO6.out)
  have hl6 := hl5.trans hl6
  clear T d hl5
  simp only [pieceF4, pieceF, bodyF, dropC, Try.f3, Option.getD_some]
  go_wp2_with fail
  refine (implForest_any (n := (N : Int)) HO6.out.rd).mono ?_
  rintro e w7 ⟨a7, c7, rfl, ho7, hb7⟩
  rw [HE.out.edgesB hN1 hN2 hk]
  have hl7 : Low w6 w7 := ⟨hb7.size, hb7.block⟩
  have HO7 := Lib.hid ho7.rd
  replace HO6 := Lib.hid (hl7.own HO6.out)
  have hl7 := hl6.trans hl7
  clear ho7 hb7 hl6
  go_wp2_with fail
  -- the reference's
  refine pwp_seq fun T d => ?_
  obtain ⟨w8, hl8⟩ : ∃ w8, w8 = World.tp w7 T d ∧ Low w7 w8 := ⟨_, rfl, .tp w7 T d⟩
  rw [← hl8.1]
  replace hl8 := hl8.2
  replace HO6 := Lib.hid (hl8.own HO6.out)
  replace HO7 := Lib.hid (hl8.rd HO7.out)
  have hl8 := hl7.trans hl8
  clear T d hl7
  simp only [pieceF5, pieceF, bodyF, dropC, Try.f3, Option.getD_some]
  go_wp2_with fail
  refine (specForest_any (n := (N : Int)) HO6.out.rd).mono ?_
  rintro e w9 ⟨a10, c10, rfl, ho10, hb10⟩
  rw [HE.out.edgesB hN1 hN2 hk]
  have hl9 : Low w8 w9 := ⟨hb10.size, hb10.block⟩
  have HO10 := Lib.hid ho10.rd
  replace HO6 := Lib.hid (hl9.own HO6.out)
  replace HO7 := Lib.hid (hl9.rd HO7.out)
  have hl9 := hl8.trans hl9
  clear ho10 hb10 hl8
  go_wp2_with fail
  exact ⟨N, k, ys, a6, a7, a10, c6, c7, c10, hN1, hN2, hk, HE.out, ⟨rfl, rfl, rfl, rfl, rfl, rfl, rfl, rfl, rfl, rfl, HO6.out, HO7.out, HO10.out, hl9⟩⟩
end Go.Proofs.Ytfecdmenliohhaa
