/- A worker's loop: sharedWork$1, in company. (Printed by mkPoolQ.py.). -/
import Derived.Test.YtfecdmenliohhaaQLe25
set_option linter.unusedVariables false
set_option linter.unusedSimpArgs false
set_option linter.unusedSimpArgs false
set_option linter.unusedVariables false
namespace Go.Proofs.Ytfecdmenliohhaa
open Go Go.Conc Go.ConcN Go.RowKit Go.ConcR.Gen Go.ConcN.Gen
open Go.ConcR (Payload DC0 WgAt)

noncomputable def loopC : Code := match Try.f50.body with | some (.seq _ (.block _ (.loop c))) => c | _ => .skip
noncomputable def bodyC : Code := Try.f50.body.getD .skip

/-- What the shared work's boxes hold. -/
structure WG (X : PX) (j n2 lB oB nB wB dB Fb : Nat) (w : World) : Prop where
  roN : X.Ro nB
  roW : X.Ro wB
  roD : X.Ro dB
  nb : w.cell? ⟨nB, 0, none⟩ = some (.int .i64 X.n)
  wb : w.cell? ⟨wB, 0, none⟩ = some (.int .i64 X.W)
  db : w.cell? ⟨dB, 0, none⟩ = some (.func (.func 36) #[] #[.pointer (some ⟨n2, 0, none⟩), .pointer (some ⟨lB, 0, none⟩), .pointer (some ⟨oB, 0, none⟩)])
  fb : w.cell? ⟨Fb, 0, none⟩ = some (.int .i64 j)

/-- What is kept since world w₀. -/
structure Kp (X : PX) (O : OwnB) (w w₁ : World) : Prop where
  size : w.heap.size ≤ w₁.heap.size
  held : ∀ b, X.Ro b ∨ O b → w₁.heap[b]? = w.heap[b]?
  live : WgLive X.ty X.Wg w → WgLive X.ty X.Wg w₁
  pay : X.Pay w → X.Pay w₁
theorem Kp.trans {X : PX} {O : OwnB} {a b c : World} (h : Kp X O a b) (k : Kp X O b c) : Kp X O a c := ⟨Nat.le_trans h.size k.size, fun b hb => (k.held b hb).trans (h.held b hb), k.live ∘ h.live, k.pay ∘ h.pay⟩
theorem Sn.kp {X : PX} {j i : Nat} {O O' : OwnB} {w w₁ : World} (h : Sn X j i O' w w₁) (hO : ∀ b, O b → O' b) : Kp X O w w₁ := ⟨h.size, fun b hb => h.held b (hb.imp id (hO b)), h.live, h.pay⟩
theorem array15 (T : Array Value) (h : T.size = 15) : ∃ v0 v1 v2 v3 v4 v5 v6 v7 v8 v9 v10 v11 v12 v13 v14, T = #[v0, v1, v2, v3, v4, v5, v6, v7, v8, v9, v10, v11, v12, v13, v14] := by
  obtain ⟨l⟩ := T
  match l, h with
  | [v0, v1, v2, v3, v4, v5, v6, v7, v8, v9, v10, v11, v12, v13, v14], _ => exact ⟨v0, v1, v2, v3, v4, v5, v6, v7, v8, v9, v10, v11, v12, v13, v14, rfl⟩

section
variable {X : PX} {j i GB n2 lB oB nB wB dB Fb : Nat} {N : Int} {la : Option Addr} {lc oc : Nat} {rows : Nat → Option Addr × Nat × List Int} {O O₀ : OwnB} {w w₀ : World} {Stop : OwnB → Goroutine → World → Prop} {LL : List FuncId} {bad : TypeId}

theorem WG.sn (h : WG X j n2 lB oB nB wB dB Fb w₀) (s : Sn X j i O w₀ w) (hFb : O Fb) : WG X j n2 lB oB nB wB dB Fb w :=
  ⟨h.roN, h.roW, h.roD, s.cellRo (.inl h.roN) h.nb, s.cellRo (.inl h.roW) h.wb, s.cellRo (.inl h.roD) h.db, s.cellRo (.inr hFb) h.fb⟩
theorem WF.sn (h : WF X GB n2 lB oB N la lc oc rows w₀) (s : Sn X j i O w₀ w) : WF X GB n2 lB oB N la lc oc rows w := by
  refine ⟨h.roN, h.roL, h.roO, h.roA, h.roR, s.cellRo (.inl h.roN) h.n2, s.cellRo (.inl h.roL) h.l, s.cellRo (.inl h.roO) h.o, fun k hk => ?_, fun k hk => ?_⟩
  · obtain ⟨b, oo, rfl, hb⟩ := h.roA (by omega)
    exact s.cellRo (a := elt (some ⟨b, oo, none⟩) k) (.inl (by simpa [elt_some] using hb)) (h.row k hk)
  · have hr := h.rd k hk
    refine ⟨hr.cap, hr.max, hr.nil, fun h0 => let ⟨b, oo, e, hlt⟩ := hr.here h0; ⟨b, oo, e, Nat.lt_of_lt_of_le hlt s.size⟩, fun kk hkk => ?_⟩
    obtain ⟨b, oo, e, _⟩ := hr.here (by omega)
    have hb := h.roR k hk _ e (by omega)
    rw [e]
    exact s.cellRo (a := elt (some ⟨b, oo, none⟩) kk) (.inl (by simpa [elt_some] using hb)) (by rw [← e]; exact hr.cell kk hkk)

set_option maxRecDepth 100000 in
set_option maxHeartbeats 4000000 in
/-- From the loop's head. -/
theorem loopW (hL : LL.all (fnOk Try.prog LL) = true) (hC9 : LL.contains 9 = true) (hG : GB = Try.prog.globals.size) (hbad : Try.prog.info? bad = none) (hroC : ∀ b, X.Ro b → b ≠ X.C ∧ b ≠ X.Wg) (ety : X.ety = 2) (hCW : X.Wg ≠ X.C) (hmine : ∀ k, X.mine j k ↔ k % X.W = j) (hW : 0 < X.W) (hn : X.n < 4611686018427387904) (hWm : X.W < 4611686018427387904)
    (hval : ∀ k, k < X.n → X.val k = .int .i64 (forestN N (rows k).2.2)) {fr : Frame} {cs : List Frame}
    (cont : ∀ O T w, (∀ b, O₀ b → O b) → Bnd X O w → Kp X O₀ w₀ w → X.Done j w → GG Try.prog false (RWk X j) (GWk X j) Stop O (G { (base 50).at ⟨T, []⟩ [] with mode := .returning } (fr :: cs)) w) :
    ∀ (m i : Nat) (T : Array Value) (O : OwnB) (w : World), X.n - i ≤ m → i ≤ X.n + X.W → T.size = 15 → T[0]? = some (.pointer (some ⟨Fb, 0, none⟩)) → T[1]? = some (.pointer (some ⟨nB, 0, none⟩)) → T[2]? = some (.pointer (some ⟨wB, 0, none⟩)) → T[3]? = some (.pointer (some ⟨dB, 0, none⟩)) → T[4]? = some (.int .i64 i) → i % X.W = j →
      WF X GB n2 lB oB N la lc oc rows w → WG X j n2 lB oB nB wB dB Fb w → X.Pay w → (∀ b, O₀ b → O b) → O Fb → Bnd X O w → Kp X O₀ w₀ w →
      (∀ k, k < i → k < X.n → X.mine j k → w.cell? ⟨X.C, k, none⟩ = some (X.val k)) →
      GG Try.prog false (RWk X j) (GWk X j) Stop O (G ((base 50).at ⟨T, []⟩ [.code loopC, .inLoop loopC, .inBlock 0]) (fr :: cs)) w := by
  intro m
  induction m using Nat.strongRecOn with
  | _ m ih =>
    intro i T O w hm him hT t0 t1 t2 t3 t4 hij hF0 hG0 hpay hOO hFb hB hKp hdone
    obtain ⟨v0, v1, v2, v3, v4, v5, v6, v7, v8, v9, v10, v11, v12, v13, v14, rfl⟩ := array15 T hT
    simp only [List.getElem?_toArray, List.getElem?_cons_zero, List.getElem?_cons_succ, Option.some.injEq] at t0 t1 t2 t3 t4
    subst t0 t1 t2 t3 t4
    have hF : RWk X j O w w := RWk.refl O w
    simp only [loopC, Try.f50]
    refine stretchW (F := RWk X j O w) (n := 60) (fun _ _ r h => RWk.trans O _ _ _ h r) ?_
    u_c stepG_seq fl3 hF
    u_c stepG_seq fl3 hF
    u_reg fl3 hF
    u_op fl3 hF
    refine Goes.stop fun w₁ h₁ => ?_
    replace hF := fl3 hF h₁
    clear h₁
    refine GG.goes rfl fun w₂ h₁ => ?_
    replace hF := RWk.trans O _ _ _ hF h₁
    clear h₁
    refine goes_oper_k rfl rfl (by decide) (fun K hK => ?_)
    have hc := (hF.sn 0).cellRo (.inl hG0.roN) hG0.nb
    go_simp
    refine hK _ _ ⟨O, .read fun e he => ?_, ?_⟩
    · have hm' := mem_listed he
      simp [go_sem, hc] at hm'
      subst hm'
      exact .inl ⟨rfl, .inr (.inl ⟨.inl ⟨_, rfl, hG0.roN⟩, rfl⟩)⟩
    clear hK K hc
    refine stretchW (F := RWk X j O w) (n := 60) (fun _ _ r h => RWk.trans O _ _ _ h r) ?_
    u_op fl3 hF
    u_c stepG_region_end fl3 hF
    refine Goes.stop fun w₃ h₁ => ?_
    replace hF := fl3 hF h₁
    clear h₁
    by_cases hlt : i < X.n
    · have q1 : decide ((i : Int) < (X.n : Int)) = true := decide_eq_true (by omega)
      refine stretchW (F := RWk X j O w) (n := 60) (fun _ _ r h => RWk.trans O _ _ _ h r) ?_
      u_cnd true fl3 hF
      u_c stepG_skip fl3 hF
      u_c stepG_seq fl3 hF
      u_c stepG_block fl3 hF
      u_reg fl3 hF
      refine Goes.stop fun w₄ h₁ => ?_
      replace hF := fl3 hF h₁
      clear h₁
      refine GG.goes rfl fun w₅ h₁ => ?_
      replace hF := RWk.trans O _ _ _ hF h₁
      clear h₁
      refine goes_oper_k rfl rfl (by decide) (fun K hK => ?_)
      have hc := (hF.sn 0).cellRo (.inl hG0.roD) hG0.db
      go_simp
      refine hK _ _ ⟨O, .read fun e he => ?_, ?_⟩
      · have hm' := mem_listed he
        simp [go_sem, hc] at hm'
        subst hm'
        exact .inl ⟨rfl, .inr (.inl ⟨.inl ⟨_, rfl, hG0.roD⟩, rfl⟩)⟩
      clear hK K hc
      refine stretchW (F := RWk X j O w) (n := 60) (fun _ _ r h => RWk.trans O _ _ _ h r) ?_
      u_op fl3 hF
      refine Goes.stop fun w₆ h₁ => ?_
      replace hF := fl3 hF h₁
      clear h₁
      refine GG.callClo GWk.idle RWk.trans rfl rfl (by decide) rfl rfl Try.func36 (by kernel_rfl) bodyW ?_
      have hnt : (Try.f36).ntmps = 18 := rfl
      simp only [hnt]
      walk_nrm
      refine regionW hL hC9 hG hbad (hF0.sn (hF.sn i)) hlt ((hmine i).2 hij) hroC (by omega) ety (hF.pay hpay) hCW (hB.grow hF.size) rfl (by decide) ?_
      intro O' a' w₇ hSn hO' hB' hcell hdf
      refine .ctl GWk.idle RWk.trans rfl (fun _ => stepG_end) ?_
      refine GG.leave0 GWk.idle RWk.trans rfl hdf Try.func36 rfl ?_
      walk_nrm
      have hFold := hF
      clear hF
      have hF : RWk X j O' w₇ w₇ := RWk.refl O' w₇
      have hF7 := (hF0.sn (hFold.sn i)).sn hSn
      have hG7 := (hG0.sn (hFold.sn i) hFb).sn hSn hFb
      have hpay7 := hSn.pay (hFold.pay hpay)
      refine stretchW (F := RWk X j O' w₇) (n := 60) (fun _ _ r h => RWk.trans O' _ _ _ h r) ?_
      u_c stepG_region_end fl3 hF
      u_c stepG_inBlock fl3 hF
      u_reg fl3 hF
      u_op fl3 hF
      refine Goes.stop fun w₈ h₁ => ?_
      replace hF := fl3 hF h₁
      clear h₁
      refine GG.goes rfl fun w₉ h₁ => ?_
      replace hF := RWk.trans O' _ _ _ hF h₁
      clear h₁
      refine goes_oper_k rfl rfl (by decide) (fun K hK => ?_)
      have hc := (hF.sn 0).cellRo (.inl hG7.roW) hG7.wb
      go_simp
      refine hK _ _ ⟨O', .read fun e he => ?_, ?_⟩
      · have hm' := mem_listed he
        simp [go_sem, hc] at hm'
        subst hm'
        exact .inl ⟨rfl, .inr (.inl ⟨.inl ⟨_, rfl, hG7.roW⟩, rfl⟩)⟩
      clear hK K hc
      have hwrap : IntKind.i64.wrap ((i : Int) + (X.W : Int)) = ((i + X.W : Nat) : Int) := by rw [IntKind.wrap_i64]; omega
      refine stretchW (F := RWk X j O' w₇) (n := 60) (fun _ _ r h => RWk.trans O' _ _ _ h r) ?_
      u_op fl3 hF
      u_op fl3 hF
      u_c stepG_region_end fl3 hF
      u_c stepG_inLoop fl3 hF
      refine Goes.stop fun w₁₀ h₁ => ?_
      replace hF := fl3 hF h₁
      clear h₁
      have hsz := hF.size
      have hsz2 := hSn.size
      have hsz3 := hFold.size
      refine ih (X.n - (i + X.W)) (by omega) (i + X.W) _ O' w₁₀ (Nat.le_refl _) (by omega) rfl rfl rfl rfl rfl (by simp [hwrap]) (by rw [Nat.add_mod_right]; exact hij) (hF7.sn (hF.sn 0)) (hG7.sn (hF.sn 0) (hO' _ hFb)) (hF.pay hpay7) (fun b hb => hO' b (hOO b hb)) (hO' _ hFb) (hB'.grow hF.size)
        (((hKp.trans ((hFold.sn i).kp hOO)).trans (hSn.kp hOO)).trans ((hF.sn 0).kp fun b hb => hO' b (hOO b hb))) fun k hk hkn hkm => ?_
      rw [hF.cell k hkm]
      by_cases e : k = i
      · subst e; rw [hcell, hval k hkn]
      · rw [hSn.cell k e hkm, hFold.cell k hkm]
        refine hdone k ?_ hkn hkm
        refine Nat.lt_of_not_le fun hle => ?_
        have h1 := (hmine k).1 hkm
        have h2 : (k - i) % X.W = 0 := Nat.sub_mod_eq_zero_of_mod_eq (h1.trans hij.symm)
        rw [Nat.mod_eq_of_lt (by omega)] at h2
        omega
    · have q1 : decide ((i : Int) < (X.n : Int)) = false := decide_eq_false (by omega)
      refine stretchW (F := RWk X j O w) (n := 60) (fun _ _ r h => RWk.trans O _ _ _ h r) ?_
      u_cnd false fl3 hF
      u_exit fl3 hF
      u_c stepG_end fl3 hF
      refine Goes.stop fun w₄ h₁ => ?_
      replace hF := fl3 hF h₁
      clear h₁
      exact cont O _ _ hOO (hB.grow hF.size) (hKp.trans ((hF.sn 0).kp hOO)) fun k hk hm => (hF.cell k hm).trans (hdone k (by omega) hk hm)
end
end Go.Proofs.Ytfecdmenliohhaa
