/- The worker's piece of work: ForestsShared$2: one drawn region, in company: the walk. (Printed by mkPoolN.py.). -/
import Derived.Test.YtfecdmenliohhaaQLe24
set_option linter.unusedVariables false
set_option linter.unusedSimpArgs false
set_option linter.unusedSimpArgs false
set_option linter.unusedVariables false
namespace Go.Proofs.Ytfecdmenliohhaa
open Go Go.Conc Go.ConcN Go.RowKit
open Go.ConcR (Payload DC0 WgAt)

theorem opsW_size : opsW.size = 14 := rfl
theorem dep_of {L : Array Bool} {o : Oper} {k : Nat} {g : Ground} (hall : ∀ e ∈ o.after, Region.binds .any e = true → L.getD e.on false = true) (h : ({ on := k, ground := g } : Edge) ∈ o.after) (hb : Region.binds .any { on := k, ground := g } = true) : L.getD k false = true := hall _ h hb

section
variable {X : PX} {j i GB n2 lB oB : Nat} {N : Int} {la : Option Addr} {lc oc : Nat} {rows : Nat → Option Addr × Nat × List Int} {parts : Nat → Int} {O₀ : OwnB} {w₀ : World} {Stop : OwnB → Goroutine → World → Prop}

/-- What is held when these operations have come up. -/
def InvW (X : PX) (j i n2 lB oB : Nat) (N : Int) (la : Option Addr) (lc oc : Nat) (rows : Nat → Option Addr × Nat × List Int) (parts : Nat → Int) (O₀ : OwnB) (w₀ : World) (L : Array Bool) (O : OwnB) (a : Act) (w : World) : Prop :=
  (∃ r : Value × Value × Value, SlW n2 lB oB i (valW X i N la lc oc rows r) L a ∧ (L.getD 7 false = true → r.2.1 = .int .i64 (parts i))) ∧
  (∀ k, k = 8 ∨ k = 9 ∨ k = 10 ∨ k = 11 → L.getD k false = true → L.getD 7 false = true) ∧ L.size = 14 ∧
  Sn X j i O₀ w₀ w ∧ (∀ b, O₀ b → O b) ∧ Bnd X O w ∧ (L.getD 13 false = true → w.cell? ⟨X.C, i, none⟩ = some (.int .i64 (parts i)))

theorem InvW.rely {L : Array Bool} {O : OwnB} {a : Act} {w w₁ : World} (hm : X.mine j i) (h : InvW X j i n2 lB oB N la lc oc rows parts O₀ w₀ L O a w) (hr : RWk X j O w w₁) : InvW X j i n2 lB oB N la lc oc rows parts O₀ w₀ L O a w₁ :=
  ⟨h.1, h.2.1, h.2.2.1, h.2.2.2.1.trans ((hr.sub h.2.2.2.2.1).sn i), h.2.2.2.2.1, h.2.2.2.2.2.1.grow hr.size, fun hl => (hr.cell i hm).trans (h.2.2.2.2.2.2 hl)⟩

/-- A quiet operation: one slot is laid. -/
theorem InvW.step {L : Array Bool} {O : OwnB} {a : Act} {w : World} {k d : Nat} (hd : dstW k = some d) (h7 : k ≠ 7) (hk : k = 8 ∨ k = 9 ∨ k = 10 ∨ k = 11 → L.getD 7 false = true) (h : InvW X j i n2 lB oB N la lc oc rows parts O₀ w₀ L O a w)
    {v : Value} (hv : ∀ r, SlW n2 lB oB i (valW X i N la lc oc rows r) L a → v = valW X i N la lc oc rows r k) : InvW X j i n2 lB oB N la lc oc rows parts O₀ w₀ (L.setIfInBounds k true) O (a.put (some d) v) w := by
  obtain ⟨⟨r, hs, hr⟩, h1, h2, h3, h4, h5, h6⟩ := h
  have k13 := (dstW_ge hd).2.2
  refine ⟨⟨r, by rw [hv r hs]; exact hs.put hd, fun h => hr ?_⟩, fun k' hk' h => ?_, by simp [h2], h3, h4, h5, fun h => h6 ?_⟩
  · exact (getD_set_self h).resolve_left (Ne.symm h7)
  · rcases getD_set_self h with e | e
    · rw [getD_set_ne false h7]; exact hk (e ▸ hk')
    · rw [getD_set_ne false h7]; exact h1 k' hk' e
  · exact (getD_set_self h).resolve_left (by omega)

set_option maxRecDepth 100000 in
set_option maxHeartbeats 4000000 in
/-- Each operation leads on. -/
theorem opsW_step {b : Frame} {k : List Item} {cs : List Frame} (hb : b.fn = 36) (hbk : b.kind ≠ .early) (hF : WF X GB n2 lB oB N la lc oc rows w₀) (hi : i < X.n) (hm : X.mine j i) (hmax : i < 9223372036854775808) (hpay : X.Pay w₀) (hroC : ∀ b, X.Ro b → b ≠ X.C ∧ b ≠ X.Wg) (hCW : X.Wg ≠ X.C) (ety : X.ety = 2)
    (hcall : ∀ (L : Array Bool) (ix : Nat) (rest : List Nat) (O : OwnB) (a : Act) (w : World) (o : Oper), InvW X j i n2 lB oB N la lc oc rows parts O₀ w₀ L O a w → ix = 7 → opsW[ix]? = some o → o.dst = some 13 → L.getD 2 false = true → L.getD 6 false = true → L.getD 7 true = false →
      (∀ O' a' w', InvW X j i n2 lB oB N la lc oc rows parts O₀ w₀ (L.setIfInBounds ix true) O' a' w' → GG Try.prog false (RWk X j) (GWk X j) Stop O' (G (b.at a' (.inRegion opsW rest :: k)) cs) w') → GG Try.prog false (RWk X j) (GWk X j) Stop O (G (b.at a (.inRegion opsW (ix :: rest) :: k)) cs) w)
    (L : Array Bool) (ix : Nat) (rest : List Nat) (O : OwnB) (a : Act) (w : World) (hI : InvW X j i n2 lB oB N la lc oc rows parts O₀ w₀ L O a w) (hr : ix ∈ Region.ready .any opsW L)
    (hk : ∀ O' a' w', InvW X j i n2 lB oB N la lc oc rows parts O₀ w₀ (L.setIfInBounds ix true) O' a' w' → GG Try.prog false (RWk X j) (GWk X j) Stop O' (G (b.at a' (.inRegion opsW rest :: k)) cs) w') : GG Try.prog false (RWk X j) (GWk X j) Stop O (G (b.at a (.inRegion opsW (ix :: rest) :: k)) cs) w := by
  obtain ⟨hun, o, ho, hall⟩ := mem_ready.1 hr
  have hlt : ix < 14 := by have := (Array.getElem?_eq_some_iff.1 ho).1; rwa [opsW_size] at this
  obtain ⟨r, hs, hr7⟩ := hI.1
  match ix, hlt with
  | 0, _ =>
    have ho' := ho
    simp [opsW, Try.f36] at ho'
    have hw : Region.wanted o (yielded opsW a.tmps) = true := by rw [← ho']; rfl
    have hdst : o.dst = some 6 := by rw [← ho']
    have e0 := hs.p3
    refine .mk rfl fun w₁ h₁ => ?_
    have hI₁ := hI.rely hm h₁
    have hc := hI₁.2.2.2.1.cellRo (.inl hF.roO) hF.o
    have hrun : (execOp a.eval o).run Try.prog w₁ = .ok (.value (valW X i N la lc oc rows r 0)) w₁ := by rw [← ho']; simp [go_sem, e0, hc, valW]
    refine ⟨_, _, _, O, (stepG_value ho hw hbk hrun).trans (by rw [hdst]; rfl), .read fun e he => ?_, hk _ _ _ (hI₁.step (k := 0) rfl (by omega) (by omega) fun r' hs' => rfl)⟩
    have hm' := mem_listed he
    rw [← ho'] at hm'
    simp [go_sem, e0, hc] at hm'
    subst hm'
    exact .inl ⟨rfl, .inr (.inl ⟨.inl ⟨_, rfl, hF.roO⟩, rfl⟩)⟩
  | 1, _ =>
    have ho' := ho
    simp [opsW, Try.f36] at ho'
    have hw : Region.wanted o (yielded opsW a.tmps) = true := by rw [← ho']; rfl
    have hdst : o.dst = some 7 := by rw [← ho']
    have e0 := hs.p0
    refine .mk rfl fun w₁ h₁ => ?_
    have hI₁ := hI.rely hm h₁
    have hrun : (execOp a.eval o).run Try.prog w₁ = .ok (.value (valW X i N la lc oc rows r 1)) w₁ := by rw [← ho']; simp [go_sem, e0, valW, hi]
    refine ⟨_, _, _, O, (stepG_value ho hw hbk hrun).trans (by rw [hdst]; rfl), .read fun e he => ?_, hk _ _ _ (hI₁.step (k := 1) rfl (by omega) (by omega) fun r' hs' => rfl)⟩
    have hm' := mem_listed he
    rw [← ho'] at hm'
    simp [go_sem, e0, valW, hi] at hm'
  | 2, _ =>
    have ho' := ho
    simp [opsW, Try.f36] at ho'
    have hw : Region.wanted o (yielded opsW a.tmps) = true := by rw [← ho']; rfl
    have hdst : o.dst = some 8 := by rw [← ho']
    have e0 := hs.p1
    refine .mk rfl fun w₁ h₁ => ?_
    have hI₁ := hI.rely hm h₁
    have hc := hI₁.2.2.2.1.cellRo (.inl hF.roN) hF.n2
    have hrun : (execOp a.eval o).run Try.prog w₁ = .ok (.value (valW X i N la lc oc rows r 2)) w₁ := by rw [← ho']; simp [go_sem, e0, hc, valW]
    refine ⟨_, _, _, O, (stepG_value ho hw hbk hrun).trans (by rw [hdst]; rfl), .read fun e he => ?_, hk _ _ _ (hI₁.step (k := 2) rfl (by omega) (by omega) fun r' hs' => rfl)⟩
    have hm' := mem_listed he
    rw [← ho'] at hm'
    simp [go_sem, e0, hc] at hm'
    subst hm'
    exact .inl ⟨rfl, .inr (.inl ⟨.inl ⟨_, rfl, hF.roN⟩, rfl⟩)⟩
  | 3, _ =>
    have ho' := ho
    simp [opsW, Try.f36] at ho'
    have hw : Region.wanted o (yielded opsW a.tmps) = true := by rw [← ho']; rfl
    have hdst : o.dst = some 9 := by rw [← ho']
    have e0 := hs.p2
    refine .mk rfl fun w₁ h₁ => ?_
    have hI₁ := hI.rely hm h₁
    have hc := hI₁.2.2.2.1.cellRo (.inl hF.roL) hF.l
    have hrun : (execOp a.eval o).run Try.prog w₁ = .ok (.value (valW X i N la lc oc rows r 3)) w₁ := by rw [← ho']; simp [go_sem, e0, hc, valW]
    refine ⟨_, _, _, O, (stepG_value ho hw hbk hrun).trans (by rw [hdst]; rfl), .read fun e he => ?_, hk _ _ _ (hI₁.step (k := 3) rfl (by omega) (by omega) fun r' hs' => rfl)⟩
    have hm' := mem_listed he
    rw [← ho'] at hm'
    simp [go_sem, e0, hc] at hm'
    subst hm'
    exact .inl ⟨rfl, .inr (.inl ⟨.inl ⟨_, rfl, hF.roL⟩, rfl⟩)⟩
  | 4, _ =>
    have ho' := ho
    simp [opsW, Try.f36] at ho'
    have hw : Region.wanted o (yielded opsW a.tmps) = true := by rw [← ho']; rfl
    have hdst : o.dst = some 10 := by rw [← ho']
    have e0 := hs.p0
    refine .mk rfl fun w₁ h₁ => ?_
    have hI₁ := hI.rely hm h₁
    have hrun : (execOp a.eval o).run Try.prog w₁ = .ok (.value (valW X i N la lc oc rows r 4)) w₁ := by rw [← ho']; simp [go_sem, e0, valW, hi]
    refine ⟨_, _, _, O, (stepG_value ho hw hbk hrun).trans (by rw [hdst]; rfl), .read fun e he => ?_, hk _ _ _ (hI₁.step (k := 4) rfl (by omega) (by omega) fun r' hs' => rfl)⟩
    have hm' := mem_listed he
    rw [← ho'] at hm'
    simp [go_sem, e0, valW, hi] at hm'
  | 5, _ =>
    have ho' := ho
    simp [opsW, Try.f36] at ho'
    have hw : Region.wanted o (yielded opsW a.tmps) = true := by rw [← ho']; rfl
    have hdst : o.dst = some 11 := by rw [← ho']
    have d0 := hs.at_ 3 9 rfl (dep_of (k := 3) (g := .data) hall (by rw [← ho']; simp) rfl)
    have e0 := d0
    have d1 := hs.at_ 4 10 rfl (dep_of (k := 4) (g := .data) hall (by rw [← ho']; simp) rfl)
    have e1 := d1
    simp only [valW] at e0
    simp only [valW] at e1
    obtain ⟨bA, oA, rfl, hroA⟩ := hF.roA (by omega)
    refine .mk rfl fun w₁ h₁ => ?_
    have hI₁ := hI.rely hm h₁
    have hrun : (execOp a.eval o).run Try.prog w₁ = .ok (.value (valW X i N (some ⟨bA, oA, none⟩) lc oc rows r 5)) w₁ := by rw [← ho']; simp [go_sem, e0, e1, valW, elt_some, add_elt, hi]
    refine ⟨_, _, _, O, (stepG_value ho hw hbk hrun).trans (by rw [hdst]; rfl), .read fun e he => ?_, hk _ _ _ (hI₁.step (k := 5) rfl (by omega) (by omega) fun r' hs' => rfl)⟩
    have hm' := mem_listed he
    rw [← ho'] at hm'
    simp [go_sem, e0, e1, valW, elt_some, add_elt, hi] at hm'
  | 6, _ =>
    have ho' := ho
    simp [opsW, Try.f36] at ho'
    have hw : Region.wanted o (yielded opsW a.tmps) = true := by rw [← ho']; rfl
    have hdst : o.dst = some 12 := by rw [← ho']
    have d0 := hs.at_ 5 11 rfl (dep_of (k := 5) (g := .data) hall (by rw [← ho']; simp) rfl)
    have e0 := d0
    simp only [valW] at e0
    refine .mk rfl fun w₁ h₁ => ?_
    have hI₁ := hI.rely hm h₁
    obtain ⟨bA, oA, rfl, hroA⟩ := hF.roA (by omega)
    have hc := hI₁.2.2.2.1.cellRo (a := elt (some ⟨bA, oA, none⟩) i) (.inl (by simpa [elt_some] using hroA)) (hF.row i hi)
    have hrun : (execOp a.eval o).run Try.prog w₁ = .ok (.value (valW X i N (some ⟨bA, oA, none⟩) lc oc rows r 6)) w₁ := by rw [← ho']; simp [go_sem, e0, hc, valW]
    refine ⟨_, _, _, O, (stepG_value ho hw hbk hrun).trans (by rw [hdst]; rfl), .read fun e he => ?_, hk _ _ _ (hI₁.step (k := 6) rfl (by omega) (by omega) fun r' hs' => rfl)⟩
    have hm' := mem_listed he
    rw [← ho'] at hm'
    simp [go_sem, e0, valW, hc] at hm'
    subst hm'
    exact .inl ⟨rfl, .inr (.inl ⟨.inl ⟨_, rfl, by simpa [elt_some] using hroA⟩, rfl⟩)⟩
  | 7, _ =>
    have ho' := ho
    simp [opsW, Try.f36] at ho'
    have hw : Region.wanted o (yielded opsW a.tmps) = true := by rw [← ho']; rfl
    have hdst : o.dst = some 13 := by rw [← ho']
    exact hcall L 7 rest O a w o hI rfl ho hdst (dep_of (k := 2) (g := .data) hall (by rw [← ho']; simp) rfl) (dep_of (k := 6) (g := .data) hall (by rw [← ho']; simp) rfl) hun hk
  | 8, _ =>
    have ho' := ho
    simp [opsW, Try.f36] at ho'
    have hw : Region.wanted o (yielded opsW a.tmps) = true := by rw [← ho']; rfl
    have hdst : o.dst = some 5 := by rw [← ho']
    have d0 := hs.at_ 7 13 rfl (dep_of (k := 7) (g := .data) hall (by rw [← ho']; simp) rfl)
    have e0 := d0
    simp only [valW] at e0
    refine .mk rfl fun w₁ h₁ => ?_
    have hI₁ := hI.rely hm h₁
    have hrun : (execOp a.eval o).run Try.prog w₁ = .ok (.value (valW X i N la lc oc rows r 8)) w₁ := by rw [← ho']; simp [go_sem, e0, valW]
    refine ⟨_, _, _, O, (stepG_value ho hw hbk hrun).trans (by rw [hdst]), .read fun e he => ?_, hk _ _ _ (hI₁.step (k := 8) rfl (by omega) (fun _ => dep_of (k := 7) (g := .data) hall (by rw [← ho']; simp) rfl) fun r' hs' => ?_)⟩
    · have hm' := mem_listed he
      rw [← ho'] at hm'
      simp [go_sem, e0, valW] at hm'
    · have d' := hs'.at_ 7 13 rfl (dep_of (k := 7) (g := .data) hall (by rw [← ho']; simp) rfl)
      rw [d0] at d'
      simp [valW] at d' ⊢
      simp [d']
  | 9, _ =>
    have ho' := ho
    simp [opsW, Try.f36] at ho'
    have hw : Region.wanted o (yielded opsW a.tmps) = true := by rw [← ho']; rfl
    have hdst : o.dst = some 14 := by rw [← ho']
    have d0 := hs.at_ 8 5 rfl (dep_of (k := 8) (g := .data) hall (by rw [← ho']; simp) rfl)
    have e0 := d0
    simp only [valW] at e0
    refine .mk rfl fun w₁ h₁ => ?_
    have hI₁ := hI.rely hm h₁
    have hrun : (execOp a.eval o).run Try.prog w₁ = .ok (.value (valW X i N la lc oc rows r 9)) w₁ := by rw [← ho']; simp [go_sem, e0, valW]
    refine ⟨_, _, _, O, (stepG_value ho hw hbk hrun).trans (by rw [hdst]), .read fun e he => ?_, hk _ _ _ (hI₁.step (k := 9) rfl (by omega) (fun _ => hI.2.1 8 (.inl rfl) (dep_of (k := 8) (g := .data) hall (by rw [← ho']; simp) rfl)) fun r' hs' => ?_)⟩
    · have hm' := mem_listed he
      rw [← ho'] at hm'
      simp [go_sem, e0, valW] at hm'
    · have d' := hs'.at_ 8 5 rfl (dep_of (k := 8) (g := .data) hall (by rw [← ho']; simp) rfl)
      rw [d0] at d'
      simp [valW] at d' ⊢
      simp [d']
  | 10, _ =>
    have ho' := ho
    simp [opsW, Try.f36] at ho'
    have hw : Region.wanted o (yielded opsW a.tmps) = true := by rw [← ho']; rfl
    have hdst : o.dst = some 15 := by rw [← ho']
    have d0 := hs.at_ 8 5 rfl (dep_of (k := 8) (g := .data) hall (by rw [← ho']; simp) rfl)
    have e0 := d0
    simp only [valW] at e0
    refine .mk rfl fun w₁ h₁ => ?_
    have hI₁ := hI.rely hm h₁
    have hrun : (execOp a.eval o).run Try.prog w₁ = .ok (.value (valW X i N la lc oc rows r 10)) w₁ := by rw [← ho']; simp [go_sem, e0, valW]
    refine ⟨_, _, _, O, (stepG_value ho hw hbk hrun).trans (by rw [hdst]), .read fun e he => ?_, hk _ _ _ (hI₁.step (k := 10) rfl (by omega) (fun _ => hI.2.1 8 (.inl rfl) (dep_of (k := 8) (g := .data) hall (by rw [← ho']; simp) rfl)) fun r' hs' => ?_)⟩
    · have hm' := mem_listed he
      rw [← ho'] at hm'
      simp [go_sem, e0, valW] at hm'
    · have d' := hs'.at_ 8 5 rfl (dep_of (k := 8) (g := .data) hall (by rw [← ho']; simp) rfl)
      rw [d0] at d'
      simp [valW] at d' ⊢
      simp [d']
  | 11, _ =>
    have ho' := ho
    simp [opsW, Try.f36] at ho'
    have hw : Region.wanted o (yielded opsW a.tmps) = true := by rw [← ho']; rfl
    have hdst : o.dst = some 16 := by rw [← ho']
    have d0 := hs.at_ 8 5 rfl (dep_of (k := 8) (g := .data) hall (by rw [← ho']; simp) rfl)
    have e0 := d0
    simp only [valW] at e0
    refine .mk rfl fun w₁ h₁ => ?_
    have hI₁ := hI.rely hm h₁
    have hrun : (execOp a.eval o).run Try.prog w₁ = .ok (.value (valW X i N la lc oc rows r 11)) w₁ := by rw [← ho']; simp [go_sem, e0, valW]
    refine ⟨_, _, _, O, (stepG_value ho hw hbk hrun).trans (by rw [hdst]), .read fun e he => ?_, hk _ _ _ (hI₁.step (k := 11) rfl (by omega) (fun _ => hI.2.1 8 (.inl rfl) (dep_of (k := 8) (g := .data) hall (by rw [← ho']; simp) rfl)) fun r' hs' => ?_)⟩
    · have hm' := mem_listed he
      rw [← ho'] at hm'
      simp [go_sem, e0, valW] at hm'
    · have d' := hs'.at_ 8 5 rfl (dep_of (k := 8) (g := .data) hall (by rw [← ho']; simp) rfl)
      rw [d0] at d'
      simp [valW] at d' ⊢
      simp [d']
  | 12, _ =>
    have ho' := ho
    simp [opsW, Try.f36] at ho'
    have hw : Region.wanted o (yielded opsW a.tmps) = true := by rw [← ho']; rfl
    have hdst : o.dst = some 17 := by rw [← ho']
    have d0 := hs.at_ 0 6 rfl (dep_of (k := 0) (g := .data) hall (by rw [← ho']; simp) rfl)
    have e0 := d0
    have d1 := hs.at_ 1 7 rfl (dep_of (k := 1) (g := .data) hall (by rw [← ho']; simp) rfl)
    have e1 := d1
    simp only [valW] at e0
    simp only [valW] at e1
    refine .mk rfl fun w₁ h₁ => ?_
    have hI₁ := hI.rely hm h₁
    have hrun : (execOp a.eval o).run Try.prog w₁ = .ok (.value (valW X i N la lc oc rows r 12)) w₁ := by rw [← ho']; simp [go_sem, e0, e1, valW, add_elt, hi]
    refine ⟨_, _, _, O, (stepG_value ho hw hbk hrun).trans (by rw [hdst]; rfl), .read fun e he => ?_, hk _ _ _ (hI₁.step (k := 12) rfl (by omega) (by omega) fun r' hs' => rfl)⟩
    have hm' := mem_listed he
    rw [← ho'] at hm'
    simp [go_sem, e0, e1, valW, add_elt, hi] at hm'
  | 13, _ =>
    have ho' := ho
    simp [opsW, Try.f36] at ho'
    have hw : Region.wanted o (yielded opsW a.tmps) = true := by rw [← ho']; rfl
    have hdst : o.dst = none := by rw [← ho']
    have d0 := hs.at_ 12 17 rfl (dep_of (k := 12) (g := .data) hall (by rw [← ho']; simp) rfl)
    have e0 := d0
    have d1 := hs.at_ 10 15 rfl (dep_of (k := 10) (g := .data) hall (by rw [← ho']; simp) rfl)
    have e1 := d1
    simp only [valW] at e0
    simp only [valW] at e1
    have h7 : L.getD 7 false = true := hI.2.1 10 (by simp) (dep_of (k := 10) (g := .data) hall (by rw [← ho']; simp) rfl)
    have hr2 := hr7 h7
    rw [hr2] at e1
    refine .mk rfl fun w₁ h₁ => ?_
    have hI₁ := hI.rely hm h₁
    obtain ⟨cs', hcs, hn⟩ := hI₁.2.2.2.1.pay hpay
    have hcell : w₁.cell? ⟨X.C, i, none⟩ = some (cs'[i]'(by omega)) := by simp [World.cell?, hcs, hn, hi]
    have hfr : w₁.frozen? ⟨X.C, i, none⟩ = false := by simp [World.frozen?, hcs]
    have hrow : (w₁.setCell ⟨X.C, i, none⟩ (.int .i64 (parts i))).heap[X.C]? = some (.cells (cs'.setIfInBounds i (.int .i64 (parts i))) X.ety) := by
      rw [setCell_eq_setRow w₁ X.C i _ X.ety (0, 0) _ hcs, setRow_heap w₁ X.C _ _ X.ety _ hcs]
    have hrun : (execOp a.eval o).run Try.prog w₁ = .ok .skip (w₁.setCell ⟨X.C, i, none⟩ (.int .i64 (parts i))) := by rw [← ho']; simp [go_sem, e0, e1, hcell, hfr]
    have hasd := aside_setCell w₁ ⟨X.C, i, none⟩ (.int .i64 (parts i))
    have hoth : ∀ kk, kk ≠ i → (w₁.setCell ⟨X.C, i, none⟩ (.int .i64 (parts i))).cell? ⟨X.C, kk, none⟩ = w₁.cell? ⟨X.C, kk, none⟩ := fun kk hkk => by
      simp only [World.cell?, hrow, hcs]
      simp [Array.getElem?_setIfInBounds_ne (Ne.symm hkk)]
    have hpay' : X.Pay (w₁.setCell ⟨X.C, i, none⟩ (.int .i64 (parts i))) := ⟨_, hrow, by simp [hn]⟩
    have hg : GWk X j O O w₁ (w₁.setCell ⟨X.C, i, none⟩ (.int .i64 (parts i))) (listed Try.prog b.fn a o w₁) := by
      refine ⟨hasd.tape, hasd.os, hasd.output, Nat.le_of_eq hasd.size.symm, fun bb _ _ hC => hasd.block bb hC, fun _ => hpay', fun kk hkk => hoth kk fun e => hkk (e ▸ hm), fun _ h => h, fun _ h => .inl h, fun e he => ?_⟩
      have hm' := mem_listed he
      rw [← ho'] at hm'
      simp [go_sem, e0, e1, hcell, hfr] at hm'
      subst hm'
      exact .inl ⟨rfl, .inr (.inr ⟨_, rfl, rfl, hm⟩)⟩
    refine ⟨_, _, _, O, (stepG_none ho hw hbk hrun).trans (by rw [hdst]; rfl), hg, hk _ _ _ ⟨⟨r, hs.mark rfl, fun h => hr7 ((getD_set_self h).resolve_left (by omega))⟩, fun kk hkk h => ?_, by simp [hI.2.2.1], hI₁.2.2.2.1.trans ⟨hasd.tape, Nat.le_of_eq hasd.size.symm, fun bb hbb => hasd.block bb ?_, fun ⟨st, sm, h⟩ => ⟨st, sm, h.of_block (hasd.block _ ?_)⟩, fun _ => hpay', fun kk hkk _ => hoth kk hkk⟩, hI₁.2.2.2.2.1, hI₁.2.2.2.2.2.1.grow (Nat.le_of_eq hasd.size.symm), fun _ => ?_⟩⟩
    · rw [getD_set_ne false (by omega)]
      exact hI.2.1 kk hkk ((getD_set_self h).resolve_left (by omega))
    · rcases hbb with h | h
      · exact (hroC _ h).1
      · exact fun e => hI₁.2.2.2.2.2.1.oC (by have := hI₁.2.2.2.2.1 _ h; rwa [show bb = X.C from e] at this)
    · exact hCW
    · simp only [World.cell?, hrow]
      simp [hn, hi]
end
end Go.Proofs.Ytfecdmenliohhaa
