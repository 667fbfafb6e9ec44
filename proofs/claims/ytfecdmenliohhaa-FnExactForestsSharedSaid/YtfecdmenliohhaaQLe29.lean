/- The starter's script: sharedWork's loop, from its head on. (Printed by mkPoolV.py.). -/
import Derived.Test.YtfecdmenliohhaaQLe28
import Derived.Test.YtfecdmenliohhaaQLe17
set_option linter.unusedVariables false
set_option linter.unusedSimpArgs false
set_option linter.unusedSimpArgs false
set_option linter.unusedVariables false
namespace Go.Proofs.Ytfecdmenliohhaa
open Go Go.Conc Go.ConcN Go.RowKit Go.Conc.Lib Go.ConcR.Gen Go.ConcN.Gen
open Go.ConcR (Payload DC0 WgAt)

noncomputable def loopS : Code := match Try.f35.body with | some (.seq _ (.seq _ (.seq (.seq _ (.block _ (.loop c))) _))) => c | _ => .skip
noncomputable def lastS : Code := match Try.f35.body with | some (.seq _ (.seq _ (.seq _ c))) => c | _ => .skip
noncomputable def opsS : Array Oper := match lastS with | .region _ ops _ => ops | _ => #[]
theorem array17 (T : Array Value) (h : T.size = 17) : ∃ v0 v1 v2 v3 v4 v5 v6 v7 v8 v9 v10 v11 v12 v13 v14 v15 v16, T = #[v0, v1, v2, v3, v4, v5, v6, v7, v8, v9, v10, v11, v12, v13, v14, v15, v16] := by
  obtain ⟨l⟩ := T
  match l, h with
  | [v0, v1, v2, v3, v4, v5, v6, v7, v8, v9, v10, v11, v12, v13, v14, v15, v16], _ => exact ⟨v0, v1, v2, v3, v4, v5, v6, v7, v8, v9, v10, v11, v12, v13, v14, v15, v16, rfl⟩

theorem nmGo : (Try.f49.name == "runtime.NumGoroutine") = false := by kernel_rfl

/-- What the starter's boxes hold. -/
structure SG (X : PX) (n2 lB oB nB wB dB : Nat) (w : World) : Prop where
  roN : X.Ro nB
  roW : X.Ro wB
  roD : X.Ro dB
  nb : w.cell? ⟨nB, 0, none⟩ = some (.int .i64 X.n)
  wb : w.cell? ⟨wB, 0, none⟩ = some (.int .i64 X.W)
  db : w.cell? ⟨dB, 0, none⟩ = some (.func (.func 36) #[] #[.pointer (some ⟨n2, 0, none⟩), .pointer (some ⟨lB, 0, none⟩), .pointer (some ⟨oB, 0, none⟩)])

theorem WF.ks {X : PX} {S : OwnB} {GB n2 lB oB : Nat} {N : Int} {la : Option Addr} {lc oc : Nat} {rows : Nat → Option Addr × Nat × List Int} {w w₀ : World} (h : WF X GB n2 lB oB N la lc oc rows w₀) (s : Ks X S w₀ w) : WF X GB n2 lB oB N la lc oc rows w := by
  refine ⟨h.roN, h.roL, h.roO, h.roA, h.roR, s.cellRo (.inl h.roN) h.n2, s.cellRo (.inl h.roL) h.l, s.cellRo (.inl h.roO) h.o, fun k hk => ?_, fun k hk => ?_⟩
  · obtain ⟨b, oo, rfl, hb⟩ := h.roA (by omega)
    exact s.cellRo (a := elt (some ⟨b, oo, none⟩) k) (.inl (by simpa [elt_some] using hb)) (h.row k hk)
  · have hr := h.rd k hk
    refine ⟨hr.cap, hr.max, hr.nil, fun h0 => let ⟨b, oo, e, hlt⟩ := hr.here h0; ⟨b, oo, e, Nat.lt_of_lt_of_le hlt s.size⟩, fun kk hkk => ?_⟩
    obtain ⟨b, oo, e, _⟩ := hr.here (by omega)
    have hb := h.roR k hk _ e (by omega)
    rw [e]
    exact s.cellRo (a := elt (some ⟨b, oo, none⟩) kk) (.inl (by simpa [elt_some] using hb)) (by rw [← e]; exact hr.cell kk hkk)
theorem SG.ks {X : PX} {S : OwnB} {n2 lB oB nB wB dB : Nat} {w w₀ : World} (h : SG X n2 lB oB nB wB dB w₀) (s : Ks X S w₀ w) : SG X n2 lB oB nB wB dB w :=
  ⟨h.roN, h.roW, h.roD, s.cellRo (.inl h.roN) h.nb, s.cellRo (.inl h.roW) h.wb, s.cellRo (.inl h.roD) h.db⟩

/-- Aok: the starter's slots at its Wait. -/
def AokS (a : Act) : Prop := a.tmps.size = 17 ∧ a.defers = []

section
variable {X : PX} {n2 lB oB nB wB dB GB : Nat} {N : Int} {la : Option Addr} {lc oc : Nat} {rows : Nat → Option Addr × Nat × List Int} {LL : List FuncId} {bad : TypeId} {fr : Frame} {cs : List Frame}

theorem evGo (P : Program) (fn : FuncId) (a : Act) (o : Oper) (w : World) {f : Fn} {x y : Array Value} (ho : o.op = Op.go { callee := Callee.value (Operand.tmp 6), args := #[], argTypes := #[] }) (hv : a.eval (.tmp 6) = .func f x y) : listed P fn a o w = #[] := by
  have he : (execOp a.eval o).events P w #[] = #[] := by
    unfold execOp
    simp [ho, resolve, Deferred.ofValue, hv]
  unfold listed
  rw [he]
  exact seen_none _ _

/-- The head of Wait's loop. -/
noncomputable def AnchS (X : PX) (cs : List Frame) : OwnB → Goroutine → World → Prop := AnchP wgLink X AokS (base 35) opsS 0 [] [] cs

set_option maxRecDepth 100000 in
set_option maxHeartbeats 8000000 in
/-- ████ From the head of the starter's loop. ████ -/
theorem spawnsS (hL : LL.all (fnOk Try.prog LL) = true) (hC9 : LL.contains 9 = true) (hG : GB = Try.prog.globals.size) (hbad : Try.prog.info? bad = none) (hroC : ∀ b, X.Ro b → b ≠ X.C ∧ b ≠ X.Wg) (ety : X.ety = 2) (hty : X.ty = wgLink.tWg) (hCW : X.Wg ≠ X.C) (hmine : ∀ j k, X.mine j k ↔ k % X.W = j) (hn : X.n < 4611686018427387904) (hWm : X.W < 4611686018427387904)
    (hval : ∀ k, k < X.n → X.val k = .int .i64 (forestN N (rows k).2.2)) :
    ∀ (r : Nat) (S : OwnB) (T : Array Value) (w : World), r ≤ X.W → T.size = 17 → T[3]? = some (.pointer (some ⟨nB, 0, none⟩)) → T[4]? = some (.pointer (some ⟨wB, 0, none⟩)) → T[5]? = some (.pointer (some ⟨dB, 0, none⟩)) → T[6]? = some (.pointer (some ⟨X.Wg, 0, none⟩)) → T[9]? = some (.int .i64 X.W) → T[10]? = some (.int .i64 ((X.W - r : Nat) : Int)) →
      WF X GB n2 lB oB N la lc oc rows w → SG X n2 lB oB nB wB dB w → X.Pay w → WgLive X.ty X.Wg w → Bnd X S w →
      SpawnsG Try.prog X (AnchS X (fr :: cs)) r S (G ((base 35).at ⟨T, []⟩ [.code loopS, .inLoop loopS, .inBlock 0, .code lastS]) (fr :: cs)) w := by
  intro r
  induction r with
  | zero =>
    intro S₁ T w₁ hr hT t3 t4 t5 t6 t9 t10 hF0 hG0 hpay hlive hB
    obtain ⟨v0, v1, v2, v3, v4, v5, v6, v7, v8, v9, v10, v11, v12, v13, v14, v15, v16, rfl⟩ := array17 T hT
    simp only [List.getElem?_toArray, List.getElem?_cons_zero, List.getElem?_cons_succ, Option.some.injEq] at t3 t4 t5 t6 t9 t10
    subst t3 t4 t5 t6 t9 t10
    rw [spawns_eq]
    have hFS : ∀ w w₂, RSt X S₁ w w₂ → RSt X S₁ w₁ w ∧ WgLive X.ty X.Wg w → RSt X S₁ w₁ w₂ ∧ WgLive X.ty X.Wg w₂ := fun _ _ h k => ⟨RSt.trans _ _ _ _ k.1 h, h.live k.2⟩
    have hF : RSt X S₁ w₁ w₁ ∧ WgLive X.ty X.Wg w₁ := ⟨RSt.refl _ _, hlive⟩
    simp only [loopS, lastS, Try.f35]
    refine stretch (F := RSt X S₁ w₁) (n := 60) hFS ?_
    u_c stepG_seq fl2 hF
    u_reg fl2 hF
    u_op fl2 hF
    u_c stepG_region_end fl2 hF
    refine Goes.stop fun w₂ h₁ => ?_
    replace hF := fl2 hF h₁
    clear h₁
    refine stretch (F := RSt X S₁ w₁) (n := 60) hFS ?_
    u_c stepG_seq fl2 hF
    u_cnd false fl2 hF
    u_exit fl2 hF
    u_reg fl2 hF
    refine Goes.stop fun w₃ h₁ => ?_
    replace hF := fl2 hF h₁
    clear h₁
    have hA := fun a (ha : AokS a) w h => @gWaitStart wgLink Try.prog X S₁ AokS (base 35) a opsS 0 [] [] (fr :: cs) wgLib hty ha w h
    simp only [body_wait, waitFn, Option.getD_some, opsS, lastS, Try.f35] at hA
    refine stretch (F := RSt X S₁ w₁) (n := 60) hFS ?_
    u_call wgLib.f_wait (nm_wait wgLink) waitFn fl2 hF
    refine Goes.stop fun w₄ h₁ => ?_
    replace hF := fl2 hF h₁
    clear h₁
    exact hA _ ⟨rfl, rfl⟩ _ hF.2
  | succ r ih =>
    intro S₁ T w₁ hr hT t3 t4 t5 t6 t9 t10 hF0 hG0 hpay hlive hB
    obtain ⟨v0, v1, v2, v3, v4, v5, v6, v7, v8, v9, v10, v11, v12, v13, v14, v15, v16, rfl⟩ := array17 T hT
    simp only [List.getElem?_toArray, List.getElem?_cons_zero, List.getElem?_cons_succ, Option.some.injEq] at t3 t4 t5 t6 t9 t10
    subst t3 t4 t5 t6 t9 t10
    rw [spawns_eq]
    have hWn : ∀ b, X.Ro b ∨ S₁ b → b ≠ X.Wg := fun b hb => hb.elim (fun h => (hroC b h).2) fun h e => hB.oW (e ▸ h)
    obtain ⟨j, hj⟩ : ∃ j, X.W - (r + 1) = j := ⟨_, rfl⟩
    have hjW : j < X.W := by omega
    simp only [spStop, hj]
    have hFS : ∀ cl w w₂, RSt X (OS S₁ cl) w w₂ → St4 X S₁ w₁ cl w ∧ WgLive X.ty X.Wg w → St4 X S₁ w₁ cl w₂ ∧ WgLive X.ty X.Wg w₂ := fun _ _ _ h k => ⟨k.1.st h, h.live k.2⟩
    have hF : St4 X S₁ w₁ [] w₁ ∧ WgLive X.ty X.Wg w₁ := ⟨⟨.refl _ _, fun x hx => by simp at hx, fun x hx => by simp at hx⟩, hlive⟩
    have hOS : S₁ = OS S₁ [] := by funext b; simp [OS]
    rw [hOS]
    have q1 : decide ((j : Int) < (X.W : Int)) = true := decide_eq_true (by omega)
    simp only [loopS, lastS, Try.f35]
    refine stretch (F := St4 X S₁ w₁ []) (n := 60) (hFS _) ?_
    u_c stepG_seq fl2 hF
    u_reg fl2 hF
    u_op fl2 hF
    u_c stepG_region_end fl2 hF
    u_c stepG_seq fl2 hF
    u_cnd true fl2 hF
    u_c stepG_skip fl2 hF
    u_c stepG_seq fl2 hF
    u_c stepG_block fl2 hF
    u_c stepG_seq fl2 hF
    u_reg fl2 hF
    u_op fl2 hF
    refine Goes.stop fun w₂ h₁ => ?_
    replace hF := fl2 hF h₁
    clear h₁
    refine GG.goes rfl fun w₃ h₁ => ?_
    replace hF := hFS _ _ _ h₁ hF
    clear h₁
    refine goes_oper_k rfl rfl (by decide) (fun K hK => ?_)
    go_simp
    refine hK _ _ ⟨_, GSt.newOS (.int .i64 0) _, ?_⟩
    clear hK K
    have hlv := hF.2
    replace hF := And.intro (hF.1.alloc hB.lt hB.cl (.int .i64 0) 3) (live_alloc (.cells #[.int .i64 0] 3 (0, 0)) hF.2)
    clear hlv
    obtain ⟨Fb, eFb⟩ : ∃ n, n = w₃.heap.size := ⟨_, rfl⟩
    rw [← eFb] at hF ⊢
    clear eFb
    refine GG.goes rfl fun w₄ h₁ => ?_
    replace hF := hFS _ _ _ h₁ hF
    clear h₁
    refine goes_oper_k rfl rfl (by decide) (fun K hK => ?_)
    obtain ⟨hc, hfr⟩ := hF.1.cell (List.mem_cons_self ..)
    go_simp
    refine hK _ _ ⟨OS S₁ [(Fb, .int .i64 j)], ?_, ?_⟩
    · refine GSt.congr (S := OS S₁ [(Fb, .int .i64 0)]) (by simp [OS]) (GSt.put (.inr ⟨_, List.mem_cons_self .., rfl⟩) fun e he => ?_)
      have hm' := mem_listed he
      simp [go_sem, storedEv, hc, hfr] at hm'
      exact hm'
    clear hK K hc hfr
    have hlv := hF.2
    replace hF := And.intro (hF.1.put (v' := .int .i64 j) hB.lt hB.cl) (live_put (a := ⟨Fb, 0, none⟩) (v := .int .i64 j) (by have := (hF.1.low _ (List.mem_cons_self ..)).1; have := hB.wl; simp only at this ⊢; omega) hF.2)
    clear hlv
    refine stretch (F := St4 X S₁ w₁ [(Fb, .int .i64 j)]) (n := 60) (hFS _) ?_
    u_c stepG_region_end fl2 hF
    u_reg fl2 hF
    u_op fl2 hF
    u_call Try.func49 nmGo Try.f49 fl2 hF
    u_c stepG_seq fl2 hF
    u_reg fl2 hF
    refine Goes.stop fun w₅ h₁ => ?_
    replace hF := fl2 hF h₁
    clear h₁
    refine GG.goes rfl fun w₆ h₁ => ?_
    replace hF := hFS _ _ _ h₁ hF
    clear h₁
    refine goes_oper_k rfl rfl (by decide) (fun K hK => ?_)
    go_simp
    refine hK _ _ ⟨_, GSt.newOS (.pointer (some ⟨X.Wg, 0, none⟩)) _, ?_⟩
    clear hK K
    have hlv := hF.2
    replace hF := And.intro (hF.1.alloc hB.lt hB.cl (.pointer (some ⟨X.Wg, 0, none⟩)) 79) (live_alloc (.cells #[.pointer (some ⟨X.Wg, 0, none⟩)] 79 (0, 0)) hF.2)
    clear hlv
    obtain ⟨Gb, eGb⟩ : ∃ n, n = w₆.heap.size := ⟨_, rfl⟩
    rw [← eGb] at hF ⊢
    clear eGb
    refine GG.goes rfl fun w₇ h₁ => ?_
    replace hF := hFS _ _ _ h₁ hF
    clear h₁
    refine goes_oper_k rfl rfl (by decide) (fun K hK => ?_)
    go_simp
    refine hK _ _ ⟨_, GSt.newOS (.func (.func 50) #[] #[.pointer (some ⟨Fb, 0, none⟩), .pointer (some ⟨nB, 0, none⟩), .pointer (some ⟨wB, 0, none⟩), .pointer (some ⟨dB, 0, none⟩)]) _, ?_⟩
    clear hK K
    have hlv := hF.2
    replace hF := And.intro (hF.1.alloc hB.lt hB.cl (.func (.func 50) #[] #[.pointer (some ⟨Fb, 0, none⟩), .pointer (some ⟨nB, 0, none⟩), .pointer (some ⟨wB, 0, none⟩), .pointer (some ⟨dB, 0, none⟩)]) 1) (live_alloc (.cells #[.func (.func 50) #[] #[.pointer (some ⟨Fb, 0, none⟩), .pointer (some ⟨nB, 0, none⟩), .pointer (some ⟨wB, 0, none⟩), .pointer (some ⟨dB, 0, none⟩)]] 1 (0, 0)) hF.2)
    clear hlv
    obtain ⟨Hb, eHb⟩ : ∃ n, n = w₇.heap.size := ⟨_, rfl⟩
    rw [← eHb] at hF ⊢
    clear eHb
    refine stretch (F := St4 X S₁ w₁ [(Hb, .func (.func 50) #[] #[.pointer (some ⟨Fb, 0, none⟩), .pointer (some ⟨nB, 0, none⟩), .pointer (some ⟨wB, 0, none⟩), .pointer (some ⟨dB, 0, none⟩)]), (Gb, .pointer (some ⟨X.Wg, 0, none⟩)), (Fb, .int .i64 j)]) (n := 60) (hFS _) ?_
    u_c stepG_region_end fl2 hF
    u_c stepG_seq fl2 hF
    u_reg fl2 hF
    refine Goes.stop fun w₈ h₁ => ?_
    replace hF := fl2 hF h₁
    clear h₁
    refine GG.goes rfl fun w₉ h₁ => ?_
    replace hF := hFS _ _ _ h₁ hF
    clear h₁
    refine goes_oper_k rfl rfl (by decide) (fun K hK => ?_)
    obtain ⟨hc, hfr⟩ := hF.1.cell (n := Gb) (v := .pointer (some ⟨X.Wg, 0, none⟩)) (by simp)
    go_simp
    refine hK _ _ ⟨_, GSt.readRo (a := ⟨Gb, 0, none⟩) (.inr (.inr ⟨(Gb, .pointer (some ⟨X.Wg, 0, none⟩)), by simp, rfl⟩)) fun e he => ?_, ?_⟩
    · have hm' := mem_listed he
      simp [go_sem, hc] at hm'
      exact hm'
    clear hK K hc hfr
    refine stretch (F := St4 X S₁ w₁ [(Hb, .func (.func 50) #[] #[.pointer (some ⟨Fb, 0, none⟩), .pointer (some ⟨nB, 0, none⟩), .pointer (some ⟨wB, 0, none⟩), .pointer (some ⟨dB, 0, none⟩)]), (Gb, .pointer (some ⟨X.Wg, 0, none⟩)), (Fb, .int .i64 j)]) (n := 60) (hFS _) ?_
    u_call wgLib.f_add (nm_add wgLink) addFn fl2 hF
    refine Goes.stop fun w₁₀ h₁ => ?_
    replace hF := fl2 hF h₁
    clear h₁
    have hA := fun (b₀ : Frame) (a₀ : Act) (ops₀ : Array Oper) (i₀ : Nat) (rest₀ : List Nat) (k₀ : List Item) (cs' : List Frame) => gAddPos (L := wgLink) (P := Try.prog) (X := X) (S := OS S₁ [(Hb, .func (.func 50) #[] #[.pointer (some ⟨Fb, 0, none⟩), .pointer (some ⟨nB, 0, none⟩), .pointer (some ⟨wB, 0, none⟩), .pointer (some ⟨dB, 0, none⟩)]), (Gb, .pointer (some ⟨X.Wg, 0, none⟩)), (Fb, .int .i64 j)]) (F := St4 X S₁ w₁ [(Hb, .func (.func 50) #[] #[.pointer (some ⟨Fb, 0, none⟩), .pointer (some ⟨nB, 0, none⟩), .pointer (some ⟨wB, 0, none⟩), .pointer (some ⟨dB, 0, none⟩)]), (Gb, .pointer (some ⟨X.Wg, 0, none⟩)), (Fb, .int .i64 j)]) (b₀ := b₀) (a₀ := a₀) (ops₀ := ops₀) (i₀ := i₀) (rest₀ := rest₀) (k₀ := k₀) (cs := cs') (j := j) (Next := SpawnsG Try.prog X (AnchS X (fr :: cs)) r) wgLib hty (hFS _) (fun _ _ ha h => h.aside ha hWn (Ne.symm hCW) hB.wl)
    simp only [body_add, addFn, Option.getD_some] at hA
    refine hA _ _ _ _ _ _ _ ?_ _ hF
    clear hA hF
    intro w₁₁ hF
    walk_nrm
    refine stretch (F := St4 X S₁ w₁ [(Hb, .func (.func 50) #[] #[.pointer (some ⟨Fb, 0, none⟩), .pointer (some ⟨nB, 0, none⟩), .pointer (some ⟨wB, 0, none⟩), .pointer (some ⟨dB, 0, none⟩)]), (Gb, .pointer (some ⟨X.Wg, 0, none⟩)), (Fb, .int .i64 j)]) (n := 60) (hFS _) ?_
    u_c stepG_region_end fl2 hF
    u_reg fl2 hF
    u_op fl2 hF
    refine Goes.stop fun w₁₂ h₁ => ?_
    replace hF := fl2 hF h₁
    clear h₁
    refine .stop fun w₁₃ h₁ => ⟨rfl, fun hl hp => ?_⟩
    replace hF := hFS _ _ _ h₁ hF
    clear h₁
    have hlF := hF.1.low (Fb, .int .i64 j) (by simp)
    have hlG := hF.1.low (Gb, .pointer (some ⟨X.Wg, 0, none⟩)) (by simp)
    have hlH := hF.1.low (Hb, .func (.func 50) #[] #[.pointer (some ⟨Fb, 0, none⟩), .pointer (some ⟨nB, 0, none⟩), .pointer (some ⟨wB, 0, none⟩), .pointer (some ⟨dB, 0, none⟩)]) (by simp)
    have hcF := (hF.1.cell (n := Fb) (v := .int .i64 j) (by simp)).1
    have hcG := (hF.1.cell (n := Gb) (v := .pointer (some ⟨X.Wg, 0, none⟩)) (by simp)).1
    have hcH := (hF.1.cell (n := Hb) (v := .func (.func 50) #[] #[.pointer (some ⟨Fb, 0, none⟩), .pointer (some ⟨nB, 0, none⟩), .pointer (some ⟨wB, 0, none⟩), .pointer (some ⟨dB, 0, none⟩)]) (by simp)).1
    simp only at hlF hlG hlH
    have hlt := hB.lt
    have hcl := hB.cl
    have hwl := hB.wl
    have hks := hF.1.ks
    have hsz := hks.size
    clear hF
    refine ⟨_, _, fun b => b = Fb ∨ b = Gb ∨ b = Hb, (stepG_spawn (d := callG Gb Hb) (w' := w₁₃) (f := .func 57) (c := #[.pointer (some ⟨Gb, 0, none⟩), .pointer (some ⟨Hb, 0, none⟩)]) rfl rfl (by decide) ?_ rfl).trans (by rw [evGo _ _ _ _ _ rfl rfl]), rfl, fun b hb => ?_, ?_, ?_⟩
    · simp [go_sem, execOp, resolve, Deferred.ofValue, callG, Act.eval]
    · exact .inr (hb.elim (fun e => ⟨(Fb, .int .i64 j), by simp, e⟩) fun e => e.elim (fun e => ⟨(Gb, .pointer (some ⟨X.Wg, 0, none⟩)), by simp, e⟩) fun e => ⟨(Hb, .func (.func 50) #[] #[.pointer (some ⟨Fb, 0, none⟩), .pointer (some ⟨nB, 0, none⟩), .pointer (some ⟨wB, 0, none⟩), .pointer (some ⟨dB, 0, none⟩)]), by simp, e⟩)
    · refine workerW hL hC9 hG hbad hroC ety hty hCW (hmine j) hjW hn hWm hval (hF0.ks hks) ⟨hG0.roN, hG0.roW, hG0.roD, (hG0.ks hks).nb, (hG0.ks hks).wb, (hG0.ks hks).db, hcF⟩ hp ⟨fun b hb hr => ?_, fun hb => ?_, fun hb => ?_, fun b hb => ?_, by omega, by omega⟩ (.inl rfl) (.inr (.inl rfl)) (.inr (.inr rfl)) hl hcG hcH
      · have := hlt b (.inl hr)
        rcases hb with rfl | rfl | rfl <;> omega
      · rcases hb with hb | hb | hb <;> omega
      · rcases hb with hb | hb | hb <;> omega
      · rcases hb with hb | hb
        · have := hlt b (.inl hb); omega
        · rcases hb with rfl | rfl | rfl <;> omega
    rw [spawns_eq]
    have hS1 : ∀ b, S₁ b → OS S₁ [(Hb, .func (.func 50) #[] #[.pointer (some ⟨Fb, 0, none⟩), .pointer (some ⟨nB, 0, none⟩), .pointer (some ⟨wB, 0, none⟩), .pointer (some ⟨dB, 0, none⟩)]), (Gb, .pointer (some ⟨X.Wg, 0, none⟩)), (Fb, .int .i64 j)] b ∧ ¬ (b = Fb ∨ b = Gb ∨ b = Hb) := fun b hb => ⟨.inl hb, fun h => by
      have := hlt b (.inr hb)
      rcases h with rfl | rfl | rfl <;> omega⟩
    have hFS' : ∀ w w₂, RSt X (fun b => OS S₁ [(Hb, .func (.func 50) #[] #[.pointer (some ⟨Fb, 0, none⟩), .pointer (some ⟨nB, 0, none⟩), .pointer (some ⟨wB, 0, none⟩), .pointer (some ⟨dB, 0, none⟩)]), (Gb, .pointer (some ⟨X.Wg, 0, none⟩)), (Fb, .int .i64 j)] b ∧ ¬ (b = Fb ∨ b = Gb ∨ b = Hb)) w w₂ → Ks X S₁ w₁ w ∧ WgLive X.ty X.Wg w → Ks X S₁ w₁ w₂ ∧ WgLive X.ty X.Wg w₂ := fun _ _ h k => ⟨k.1.trans (h.ks hS1), h.live k.2⟩
    have hF : Ks X S₁ w₁ w₁₃ ∧ WgLive X.ty X.Wg w₁₃ := ⟨hks, hl⟩
    clear hks
    have hin : ∀ b, (OS S₁ [(Hb, .func (.func 50) #[] #[.pointer (some ⟨Fb, 0, none⟩), .pointer (some ⟨nB, 0, none⟩), .pointer (some ⟨wB, 0, none⟩), .pointer (some ⟨dB, 0, none⟩)]), (Gb, .pointer (some ⟨X.Wg, 0, none⟩)), (Fb, .int .i64 j)] b ∧ ¬ (b = Fb ∨ b = Gb ∨ b = Hb)) → S₁ b := fun b hb => by
      refine hb.1.resolve_right ?_
      rintro ⟨x, hx, rfl⟩
      simp only [List.mem_cons, List.not_mem_nil, or_false] at hx
      rcases hx with rfl | rfl | rfl
      · exact hb.2 (.inr (.inr rfl))
      · exact hb.2 (.inr (.inl rfl))
      · exact hb.2 (.inl rfl)
    have hwrap : IntKind.i64.wrap ((j : Int) + 1) = ((X.W - r : Nat) : Int) := by rw [IntKind.wrap_i64]; omega
    walk_nrm
    refine stretch (F := Ks X S₁ w₁) (n := 60) hFS' ?_
    u_c stepG_region_end fl2 hF
    u_c stepG_end fl2 hF
    u_leave0 Try.func49 fl2 hF
    u_c stepG_region_end fl2 hF
    u_c stepG_inBlock fl2 hF
    u_reg fl2 hF
    u_op fl2 hF
    u_op fl2 hF
    u_c stepG_region_end fl2 hF
    u_c stepG_inLoop fl2 hF
    refine Goes.stop fun w₁₄ h₁ => ?_
    replace hF := fl2 hF h₁
    clear h₁
    rw [← spawns_eq]
    have hsz' := hF.1.size
    refine ih _ _ w₁₄ (by omega) rfl rfl rfl rfl rfl rfl (by simp [hwrap]) (hF0.ks hF.1) (hG0.ks hF.1) (hF.1.pay hpay) hF.2 ⟨fun b hb hr => ?_, fun hb => ?_, fun hb => ?_, fun b hb => ?_, by omega, by omega⟩
    · exact hB.on b (hin b hb) hr
    · exact hB.oC (hin _ hb)
    · exact hB.oW (hin _ hb)
    · rcases hb with hb | hb
      · have := hlt b (.inl hb); omega
      · have := hlt b (.inr (hin b hb)); omega
end
end Go.Proofs.Ytfecdmenliohhaa
