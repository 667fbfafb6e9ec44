/- A worker's whole script. (Printed by mkPoolT.py.). -/
import Derived.Test.YtfecdmenliohhaaQLe26
import Derived.Test.YtfecdmenliohhaaQLe16
import Derived.Conc.WgWords
import Derived.WideLaws
set_option linter.unusedVariables false
set_option linter.unusedSimpArgs false
set_option linter.unusedSimpArgs false
set_option linter.unusedVariables false
namespace Go.Proofs.Ytfecdmenliohhaa
open Go Go.Conc Go.ConcN Go.RowKit Go.Conc.Lib Go.ConcR.Gen Go.ConcN.Gen
open Go.ConcR (Payload DC0 WgAt)

noncomputable def botP : Frame := { (default : Frame) with fn := Try.prog.funcs.size, defers := [], mode := .panicking [goexitEntry] }
noncomputable def bodyG : Code := Try.f57.body.getD .skip
def callG (Gb Hb : Nat) : Deferred := { target := .fn (.func 57) #[.pointer (some ⟨Gb, 0, none⟩), .pointer (some ⟨Hb, 0, none⟩)], args := #[] }
theorem quitsTailG (T : Array Value) : QuitsD Try.prog 2 0 (G { (baseD 57).at ⟨T, []⟩ [] with mode := .returning } [botP]) := by
  refine QuitsD.ctl (g' := G botP []) rfl (fun w => ?_) ?_
  · simp [G, stepG, unwind, doReturn, results, Frame.at, baseD, botP, Try.func57, Try.f57, seen, GStep.after, goexitEntry]
  refine QuitsD.ctl (g' := { G botP [] with status := .finished }) rfl (fun w => ?_) ⟨rfl, rfl⟩
  simp [G, stepG, unwind, botP, goexitEntry, Frame.catches]
  rfl
theorem born_stepG (Gb Hb : Nat) (w : World) : stepG Try.prog false (born Try.prog (callG Gb Hb)) w =
    .go (G ((baseD 57).at ⟨#[.pointer (some ⟨Gb, 0, none⟩), .pointer (some ⟨Hb, 0, none⟩), undef, undef, undef], []⟩ [.code bodyG]) [botP]) w #[] := by
  simp [born, callG, stepG, unwind, callDeferred, invoke, callFunc, Try.func57, Try.f57, seen, GStep.after, G, Frame.enter, Frame.at, baseD, botP, bodyG]

theorem evNil (w : World) : (binOp .neq 20 .nilIface .nilIface).events Try.prog w #[] = #[] := by
  have h : Try.prog.underlying 20 = some (.interface (Try.prog.methodsAt 20)) := by kernel_rfl
  have key : ∀ d, (Op.equalIn (d + 1) 20 .nilIface .nilIface).events Try.prog w #[] = #[] := fun d => by
    simp [Op.equalIn, run_underlying h, go_sem]
  simp only [binOp]
  simp [Op.equal]
  exact key 9999

section
variable {X : PX} {j GB n2 lB oB nB wB dB Fb Gb Hb : Nat} {N : Int} {la : Option Addr} {lc oc : Nat} {rows : Nat → Option Addr × Nat × List Int} {O : OwnB} {w : World} {LL : List FuncId} {bad : TypeId}

set_option maxRecDepth 100000 in
set_option maxHeartbeats 8000000 in
theorem workerW (hL : LL.all (fnOk Try.prog LL) = true) (hC9 : LL.contains 9 = true) (hG : GB = Try.prog.globals.size) (hbad : Try.prog.info? bad = none) (hroC : ∀ b, X.Ro b → b ≠ X.C ∧ b ≠ X.Wg) (ety : X.ety = 2) (hty : X.ty = wgLink.tWg) (hCW : X.Wg ≠ X.C) (hmine : ∀ k, X.mine j k ↔ k % X.W = j) (hjW : j < X.W) (hn : X.n < 4611686018427387904) (hWm : X.W < 4611686018427387904)
    (hval : ∀ k, k < X.n → X.val k = .int .i64 (forestN N (rows k).2.2)) (hF0 : WF X GB n2 lB oB N la lc oc rows w) (hG0 : WG X j n2 lB oB nB wB dB Fb w) (hpay : X.Pay w) (hB : Bnd X O w) (hFb : O Fb) (hGb : O Gb) (hHb : O Hb) (hlive : WgLive X.ty X.Wg w)
    (hcG : w.cell? ⟨Gb, 0, none⟩ = some (.pointer (some ⟨X.Wg, 0, none⟩))) (hcH : w.cell? ⟨Hb, 0, none⟩ = some (.func (.func 50) #[] #[.pointer (some ⟨Fb, 0, none⟩), .pointer (some ⟨nB, 0, none⟩), .pointer (some ⟨wB, 0, none⟩), .pointer (some ⟨dB, 0, none⟩)])) :
    GG Try.prog false (RWk X j) (GWk X j) (StW Try.prog X j) O (born Try.prog (callG Gb Hb)) w := by
  refine .ctl GWk.idle RWk.trans rfl (fun w => born_stepG Gb Hb w) ?_
  have hF : RWk X j O w w := RWk.refl O w
  simp only [bodyG, Try.f57, Option.getD_some]
  refine stretchW (F := RWk X j O w) (n := 60) (fun _ _ r h => RWk.trans O _ _ _ h r) ?_
  u_c stepG_seq fl3 hF
  u_reg fl3 hF
  u_op fl3 hF
  refine Goes.stop fun w₁ h₁ => ?_
  replace hF := fl3 hF h₁
  clear h₁
  refine .ctl GWk.idle RWk.trans rfl (fun _ => stepG_deferClo rfl rfl (by decide) rfl rfl) ?_
  walk_nrm
  refine stretchW (F := RWk X j O w) (n := 60) (fun _ _ r h => RWk.trans O _ _ _ h r) ?_
  u_c stepG_region_end fl3 hF
  u_reg fl3 hF
  refine Goes.stop fun w₂ h₁ => ?_
  replace hF := fl3 hF h₁
  clear h₁
  refine GG.goes rfl fun w₃ h₁ => ?_
  replace hF := RWk.trans O _ _ _ hF h₁
  clear h₁
  refine goes_oper_k rfl rfl (by decide) (fun K hK => ?_)
  have hc := (hF.sn 0).cellRo (.inr hHb) hcH
  go_simp
  refine hK _ _ ⟨O, .read fun e he => ?_, ?_⟩
  · have hm' := mem_listed he
    simp [go_sem, hc] at hm'
    subst hm'
    exact .inl ⟨rfl, .inl (.inl ⟨_, rfl, hHb⟩)⟩
  clear hK K hc
  refine GG.callClo GWk.idle RWk.trans rfl rfl (by decide) rfl rfl Try.func50 (by kernel_rfl) rfl ?_
  have hnt : (Try.f50).ntmps = 15 := rfl
  simp only [hnt]
  walk_nrm
  refine stretchW (F := RWk X j O w) (n := 60) (fun _ _ r h => RWk.trans O _ _ _ h r) ?_
  u_c stepG_seq fl3 hF
  u_reg fl3 hF
  refine Goes.stop fun w₄ h₁ => ?_
  replace hF := fl3 hF h₁
  clear h₁
  refine GG.goes rfl fun w₅ h₁ => ?_
  replace hF := RWk.trans O _ _ _ hF h₁
  clear h₁
  refine goes_oper_k rfl rfl (by decide) (fun K hK => ?_)
  have hc := (hF.sn 0).cellRo (.inr hFb) hG0.fb
  go_simp
  refine hK _ _ ⟨O, .read fun e he => ?_, ?_⟩
  · have hm' := mem_listed he
    simp [go_sem, hc] at hm'
    subst hm'
    exact .inl ⟨rfl, .inl (.inl ⟨_, rfl, hFb⟩)⟩
  clear hK K hc
  refine stretchW (F := RWk X j O w) (n := 60) (fun _ _ r h => RWk.trans O _ _ _ h r) ?_
  u_op fl3 hF
  u_c stepG_region_end fl3 hF
  u_c stepG_block fl3 hF
  u_c stepG_loop fl3 hF
  refine Goes.stop fun w₆ h₁ => ?_
  replace hF := fl3 hF h₁
  clear h₁
  have hs6 := hF.size
  refine loopW (O₀ := O) (w₀ := w₆) hL hC9 hG hbad hroC ety hCW hmine (by omega) hn hWm hval ?_ X.n j _ O w₆ (by omega) (by omega) rfl rfl rfl rfl rfl rfl (Nat.mod_eq_of_lt hjW) (hF0.sn (hF.sn 0)) (hG0.sn (hF.sn 0) hFb) (hF.pay hpay) (fun _ h => h) hFb (hB.grow hF.size) ⟨Nat.le_refl _, fun _ _ => rfl, id, id⟩ (fun k hk hkn hkm => ?_)
  rotate_left
  · have := (hmine k).1 hkm
    rw [Nat.mod_eq_of_lt (by omega)] at this
    omega
  intro O' T w₇ hOO hB' hKp hdone
  have hKw : Kp X O w w₇ := ((hF.sn 0).kp fun _ h => h).trans hKp
  clear hF
  have hF : RWk X j O' w₇ w₇ := RWk.refl O' w₇
  have hcG7 : w₇.cell? ⟨Gb, 0, none⟩ = some (.pointer (some ⟨X.Wg, 0, none⟩)) := by rw [cell_of_block (hKw.held Gb (.inr hGb))]; exact hcG
  have hcF7 : w₇.cell? ⟨Fb, 0, none⟩ = some (.int .i64 j) := by rw [cell_of_block (hKw.held Fb (.inr hFb))]; exact hG0.fb
  have hlive7 := hKw.live hlive
  refine GG.leave0 GWk.idle RWk.trans rfl rfl Try.func50 rfl ?_
  walk_nrm
  refine stretchW (F := RWk X j O' w₇) (n := 60) (fun _ _ r h => RWk.trans O' _ _ _ h r) ?_
  u_c stepG_region_end fl3 hF
  u_c stepG_end fl3 hF
  refine Goes.stop fun w₈ h₁ => ?_
  replace hF := fl3 hF h₁
  clear h₁
  refine .ctl GWk.idle RWk.trans rfl (fun _ => stepG_unwind_clo rfl Try.func58 (by kernel_rfl) rfl) ?_
  have hnt8 : (Try.f58).ntmps = 8 := rfl
  simp only [hnt8]
  walk_nrm
  refine stretchW (F := RWk X j O' w₇) (n := 60) (fun _ _ r h => RWk.trans O' _ _ _ h r) ?_
  u_c stepG_seq fl3 hF
  u_c stepG_seq fl3 hF
  u_reg fl3 hF
  refine Goes.stop fun w₉ h₁ => ?_
  replace hF := fl3 hF h₁
  clear h₁
  refine .ctl GWk.idle RWk.trans rfl (fun w => stepG_recover rfl rfl rfl rfl (by simp [go_sem, execOp, resolve, invoke, builtin]) (by simp [go_sem, execOp, resolve, invoke, builtin])) ?_
  walk_nrm
  refine stretchW (F := RWk X j O' w₇) (n := 60) (fun _ _ r h => RWk.trans O' _ _ _ h r) ?_
  u_op fl3 hF
  u_c stepG_region_end fl3 hF
  u_c stepG_seq fl3 hF
  u_reg fl3 hF
  u_op fl3 hF
  refine Goes.stop fun w₁₀ h₁ => ?_
  replace hF := fl3 hF h₁
  clear h₁
  refine GG.goes rfl fun wq h₁ => ?_
  replace hF := RWk.trans O' _ _ _ hF h₁
  clear h₁
  refine goes_oper_k rfl rfl (by decide) (fun K hK => ?_)
  simp [go_sem, execOp]
  refine hK _ _ ⟨O', .read fun e he => ?_, ?_⟩
  · have hm' := mem_listed he
    simp [go_sem, execOp, evNil] at hm'
  clear hK K
  refine stretchW (F := RWk X j O' w₇) (n := 60) (fun _ _ r h => RWk.trans O' _ _ _ h r) ?_
  u_c stepG_region_end fl3 hF
  u_cond false fl3 hF
  u_c stepG_skip fl3 hF
  u_reg fl3 hF
  refine Goes.stop fun w₁₁ h₁ => ?_
  replace hF := fl3 hF h₁
  clear h₁
  refine GG.goes rfl fun wr h₁ => ?_
  replace hF := RWk.trans O' _ _ _ hF h₁
  clear h₁
  refine goes_oper_k rfl rfl (by decide) (fun K hK => ?_)
  have hc := (hF.sn 0).cellRo (.inr (hOO _ hGb)) hcG7
  go_simp
  refine hK _ _ ⟨O', .read fun e he => ?_, ?_⟩
  · have hm' := mem_listed he
    simp [go_sem, hc] at hm'
    subst hm'
    exact .inl ⟨rfl, .inl (.inl ⟨_, rfl, hOO _ hGb⟩)⟩
  clear hK K hc
  refine stretchW (F := RWk X j O' w₇) (n := 60) (fun _ _ r h => RWk.trans O' _ _ _ h r) ?_
  u_call wgLib.f_done (nm_done wgLink) doneFn fl3 hF
  u_reg fl3 hF
  u_op fl3 hF
  u_call wgLib.f_add (nm_add wgLink) addFn fl3 hF
  refine Goes.stop fun w₁₂ h₁ => ?_
  replace hF := fl3 hF h₁
  clear h₁
  have hA := @atR0_of _ wgLink Try.prog wgLib X.Wg Fb 1 0 1 (.int .i64 j)
  simp only [body_add, addFn, Option.getD_some] at hA
  refine GG.of_goes (R₁ := RWk X j O') (D₁ := DC0) (n := 20) (fun _ _ h => h) (fun w w' es h => by obtain ⟨rfl, rfl⟩ := h; exact GWk.idle O' _)
    (hA (R := RWk X j O') (F := RWk X j O' w₇) (qt := 8) (fun _ _ r h => RWk.trans O' _ _ _ h r) (fun a b r h => ⟨by have := r.live; rw [hty] at this; exact this h.1, (cell_of_block (r.held Fb (.inr (hOO _ hFb))) _).trans h.2⟩) ?_ _ ⟨⟨by have := hF.live hlive7; rwa [hty] at this, (cell_of_block (hF.held Fb (.inr (hOO _ hFb))) _).trans hcF7⟩, hF⟩)
    (fun g w hs => .stop fun w₁ h₁ => ⟨Fb, .int .i64 j, hOO _ hFb, by rw [hty]; exact hs.1 w₁ h₁, hdone.cells fun k hk => ((RWk.trans O' _ _ _ hs.2 h₁).cell k hk)⟩) RWk.refl
  q_c stepG_region_end
  q_c stepG_end
  q_leave0 wgLib.f_done
  q_c stepG_region_end
  q_c stepG_end
  exact QuitsD.leaveD rfl rfl Try.func58 rfl rfl (quitsTailG _)
end
end Go.Proofs.Ytfecdmenliohhaa
