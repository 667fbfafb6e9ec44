/- A pool: the starter's Wait, in company. Plain. (Printed by mkPoolI.py.). -/
import Derived.Test.YtfecdmenliohhaaQFo14
import Derived.Conc.WgGenN3
set_option linter.unusedVariables false
set_option linter.unusedSimpArgs false
set_option linter.unusedSimpArgs false
set_option linter.unusedVariables false
namespace Go.Proofs.Ytfecdmenliohhaa
open Go Go.Conc Go.ConcN Go.RowKit Go.Conc.Lib Go.ConcR.Gen Go.ConcN.Gen
open Go.ConcR (KK wgBlock WgAt stA smA rd wr mk Payload DC0)
variable [Payload] {L : WgLink}

/-- At the head of Wait's loop. -/
def AnchP (L : WgLink) (X : PX) (Aok : Act → Prop) (b₀ : Frame) (ops₀ : Array Oper) (i₀ : Nat) (rest₀ : List Nat) (k₀ : List Item) (cs : List Frame) (S : OwnB) (g : Goroutine) (w : World) : Prop :=
  ∃ (T : Array Value) (a₀ : Act), Aok a₀ ∧ g = G ((base L.wait).at ⟨T, []⟩ [.code (L7 L), .inLoop (L7 L), .inBlock 0]) (b₀.at a₀ (.inRegion ops₀ (i₀ :: rest₀) :: k₀) :: cs) ∧ T.size = 84 ∧ T[0]? = some (.pointer (some ⟨X.Wg, 0, none⟩)) ∧ WgLive X.ty X.Wg w

section
variable {P : Program} {X : PX} {End : OwnB → Goroutine → World → Prop} {S : OwnB} {Aok : Act → Prop}
  {b₀ : Frame} {a₀ : Act} {ops₀ : Array Oper} {i₀ : Nat} {rest₀ : List Nat} {k₀ : List Item} {cs : List Frame}

omit [Payload] in
set_option maxRecDepth 100000 in
set_option maxHeartbeats 16000000 in
theorem gWaitStart (H : WgLib P L) (ety : X.ty = L.tWg) (hA : Aok a₀) (w : World) (hF : WgLive X.ty X.Wg w) :
    GG P true (RSt X) (GSt X) (StKd P X (AnchP L X Aok b₀ ops₀ i₀ rest₀ k₀ cs)) S (G ((base L.wait).at ⟨#[.pointer (some ⟨X.Wg, 0, none⟩), undef, undef, undef, undef, undef, undef, undef, undef, undef, undef, undef, undef, undef, undef, undef, undef, undef, undef, undef, undef, undef, undef, undef, undef, undef, undef, undef, undef, undef, undef, undef, undef, undef, undef, undef, undef, undef, undef, undef, undef, undef, undef, undef, undef, undef, undef, undef, undef, undef, undef, undef, undef, undef, undef, undef, undef, undef, undef, undef, undef, undef, undef, undef, undef, undef, undef, undef, undef, undef, undef, undef, undef, undef, undef, undef, undef, undef, undef, undef, undef, undef, undef, undef], []⟩ [.code (body_wait L)]) (b₀.at a₀ (.inRegion ops₀ (i₀ :: rest₀) :: k₀) :: cs)) w := by
  lib_facts
  obtain ⟨ty, Wg, C, nn, et, Ro, mine, val, WW⟩ := X
  simp only at ety
  subst ety
  simp only at hF ⊢
  have hFS : ∀ w w₁, RSt ⟨L.tWg, Wg, C, nn, et, Ro, mine, val, WW⟩ S w w₁ → True ∧ WgLive L.tWg Wg w → True ∧ WgLive L.tWg Wg w₁ := fun _ _ hr h => ⟨trivial, hr.live h.2⟩
  replace hF : True ∧ WgLive L.tWg Wg w := ⟨trivial, hF⟩
  simp only [body_wait, waitFn, Option.getD_some]
  refine stretch (F := fun _ => True) (n := 120) hFS ?_
  u_c stepG_seq fl2 hF
  u_cond true fl2 hF
  u_reg fl2 hF
  refine Goes.stop fun w₂ h₁ => ?_
  replace hF := fl2 hF h₁
  clear h₁
  refine .stop fun w₃ h₁ => ?_
  replace hF := hFS _ _ h₁ hF
  clear h₁
  refine ⟨rfl, _, stepG_mark0 .disable (by simp) rfl rfl (by k_ne) rfl H.f_disable (x_disable_n L) (x_disable_b L) (x_disable_x L) (x_disable_f L), ?_⟩
  walk_nrm
  refine stretch (F := fun _ => True) (n := 120) hFS ?_
  u_c stepG_region_end fl2 hF
  u_c stepG_block fl2 hF
  u_c stepG_loop fl2 hF
  refine Goes.stop fun w₄ h₁ => ?_
  replace hF := fl2 hF h₁
  clear h₁
  exact .stop fun w₅ h₁ => ⟨_, _, hA, rfl, by simp, by simp, (hFS _ _ h₁ hF).2⟩

omit [Payload] in
set_option maxRecDepth 100000 in
set_option maxHeartbeats 16000000 in
theorem gWaitRound (H : WgLib P L) (ety : X.ty = L.tWg)
    (hT : ∀ S a₀ w, Aok a₀ → True ∧ WgLive X.ty X.Wg w → GG P true (RSt X) (GSt X) End S (G (b₀.at (a₀.put ((ops₀[i₀]?).bind (·.dst)) (.tuple #[])) (.inRegion ops₀ rest₀ :: k₀)) cs) w)
    (S : OwnB) (g : Goroutine) (w : World) (h : AnchP L X Aok b₀ ops₀ i₀ rest₀ k₀ cs S g w) : GG P true (RSt X) (GSt X) (StW1 P X (AnchP L X Aok b₀ ops₀ i₀ rest₀ k₀ cs) End) S g w := by
  lib_facts
  obtain ⟨T, a₀, hA, rfl, hT84, t0, hF⟩ := h
  obtain ⟨v0, v1, v2, v3, v4, v5, v6, v7, v8, v9, v10, v11, v12, v13, v14, v15, v16, v17, v18, v19, v20, v21, v22, v23, v24, v25, v26, v27, v28, v29, v30, v31, v32, v33, v34, v35, v36, v37, v38, v39, v40, v41, v42, v43, v44, v45, v46, v47, v48, v49, v50, v51, v52, v53, v54, v55, v56, v57, v58, v59, v60, v61, v62, v63, v64, v65, v66, v67, v68, v69, v70, v71, v72, v73, v74, v75, v76, v77, v78, v79, v80, v81, v82, v83, rfl⟩ := array84 T hT84
  simp only [List.getElem?_toArray, List.getElem?_cons_zero, Option.some.injEq] at t0
  subst t0
  obtain ⟨ty, Wg, C, nn, et, Ro, mine, val, WW⟩ := X
  simp only at ety
  subst ety
  simp only at hT hF ⊢
  have hFS : ∀ w w₁, RSt ⟨L.tWg, Wg, C, nn, et, Ro, mine, val, WW⟩ S w w₁ → True ∧ WgLive L.tWg Wg w → True ∧ WgLive L.tWg Wg w₁ := fun _ _ hr h => ⟨trivial, hr.live h.2⟩
  replace hF : True ∧ WgLive L.tWg Wg w := ⟨trivial, hF⟩
  simp only [L7, body_wait, waitFn, Option.getD_some]
  refine stretch (F := fun _ => True) (n := 120) hFS ?_
  u_c stepG_block fl2 hF
  u_c stepG_seq fl2 hF
  u_reg fl2 hF
  u_op fl2 hF
  u_op fl2 hF
  u_op fl2 hF
  u_call H.f_uLoad (nm_uLoad L) uLoadFn fl2 hF
  u_c stepG_seq fl2 hF
  u_reg fl2 hF
  u_op fl2 hF
  u_c stepG_region_end fl2 hF
  u_c stepG_seq fl2 hF
  u_reg fl2 hF
  u_op fl2 hF
  u_op fl2 hF
  u_op fl2 hF
  refine Goes.stop fun w₂ h₁ => ?_
  replace hF := fl2 hF h₁
  clear h₁
  refine .stop fun w₃ h₁ => ⟨rfl, fun v hv hw => ?_⟩
  replace hF := hFS _ _ h₁ hF
  clear h₁
  simp only at hw
  rcases Nat.eq_zero_or_pos v with rfl | hvp
  · replace hw : WgAt L.tWg Wg w₃ 0 0 := by simpa using hw
    refine ⟨_, stepG_load_atomic (v := 0) rfl rfl (by k_ne) rfl H.f_loadU64 (x_loadU64_n L) (x_loadU64_b L) (x_loadU64_x L) .u64 (x_loadU64_f L) rfl hw.cellSt, fun _ => ?_, fun h => absurd rfl h⟩
    clear hw
    walk_nrm
    refine stretch (F := fun _ => True) (n := 120) hFS ?_
    u_op fl2 hF
    u_c stepG_region_end fl2 hF
    u_c stepG_ret' fl2 hF
    u_leave1 H.f_uLoad fl2 hF
    u_op fl2 hF
    u_c stepG_region_end fl2 hF
    u_c stepG_seq fl2 hF
    u_reg fl2 hF
    u_op fl2 hF
    u_op fl2 hF
    u_op fl2 hF
    u_op fl2 hF
    u_c stepG_region_end fl2 hF
    u_c stepG_seq fl2 hF
    u_reg fl2 hF
    u_op fl2 hF
    u_op fl2 hF
    u_op fl2 hF
    u_op fl2 hF
    u_c stepG_region_end fl2 hF
    u_c stepG_seq fl2 hF
    u_c stepG_seq fl2 hF
    u_reg fl2 hF
    u_op fl2 hF
    u_op fl2 hF
    u_c stepG_region_end fl2 hF
    u_cond true fl2 hF
    u_c stepG_seq fl2 hF
    u_cond true fl2 hF
    u_c stepG_seq fl2 hF
    u_reg fl2 hF
    refine Goes.stop fun w₅ h₁ => ?_
    replace hF := fl2 hF h₁
    clear h₁
    refine .stop fun w₆ h₁ => ?_
    replace hF := hFS _ _ h₁ hF
    clear h₁
    refine ⟨rfl, _, stepG_mark0 .enable (by simp) rfl rfl (by k_ne) rfl H.f_enable (x_enable_n L) (x_enable_b L) (x_enable_x L) (x_enable_f L), ?_⟩
    walk_nrm
    refine stretch (F := fun _ => True) (n := 120) hFS ?_
    u_c stepG_region_end fl2 hF
    u_reg fl2 hF
    u_op fl2 hF
    u_conv H.underlying_tWgP H.room_tWg (WgLive.cell0 hF.2).choose_spec fl2 hF
    refine Goes.stop fun w₇ h₁ => ?_
    replace hF := fl2 hF h₁
    clear h₁
    refine .stop fun w₈ h₁ => ?_
    replace hF := hFS _ _ h₁ hF
    clear h₁
    refine ⟨rfl, _, stepG_markAt .acquire (by simp) rfl rfl (by k_ne) rfl H.f_acquire (x_acquire_n L) (x_acquire_b L) (x_acquire_x L) (x_acquire_f L) (by simp [Act.eval, stA]), ?_⟩
    walk_nrm
    refine stretch (F := fun _ => True) (n := 120) hFS ?_
    u_c stepG_region_end fl2 hF
    u_c stepG_seq fl2 hF
    u_c stepG_seq fl2 hF
    u_reg fl2 hF
    u_op fl2 hF
    u_op fl2 hF
    u_op fl2 hF
    u_op fl2 hF
    u_op fl2 hF
    u_op fl2 hF
    u_op fl2 hF
    u_op fl2 hF
    u_skip fl2 hF
    u_skip fl2 hF
    u_op fl2 hF
    u_c stepG_region_end fl2 hF
    u_cond false fl2 hF
    u_c stepG_skip fl2 hF
    u_c stepG_ret' fl2 hF
    u_leave0 H.f_wait fl2 hF
    refine Goes.stop fun w₉ h₁ => ?_
    replace hF := fl2 hF h₁
    clear h₁
    exact hT _ _ _ hA hF
  · obtain ⟨Z, hS⟩ : ∃ Z : Int, (v : Int) * KK = Z := ⟨_, rfl⟩
    have a1 : Z / 4294967296 = (v : Int) := by rw [← hS]; simp only [KK]; omega
    have b1 : bits .and .u64 Z 2147483648 = 0 := by rw [← hS]; have := st_flag v 0 (by omega) (by omega); simpa [KK] using this
    have b2 : bits .and .u64 Z 2147483647 = 0 := by rw [← hS]; have := st_waiters v 0 (by omega) (by omega); simpa [KK] using this
    have c1 : IntKind.i32.wrap (v : Int) = (v : Int) := by rw [IntKind.wrap_i32]; omega
    have w1 : IntKind.u64.wrap (Z + 1) = Z + 1 := by rw [IntKind.wrap_u64, ← hS]; simp only [KK]; omega
    have q3 : decide ((v : Int) < 0) = false := decide_eq_false (by omega)
    have q4 : decide (0 < (v : Int)) = true := decide_eq_true (by omega)
    have q5 : ((v : Int) == 0) = false := by simp; omega
    have q6 : decide ((v : Int) = 0) = false := decide_eq_false (by omega)
    rw [hS] at hw
    refine ⟨_, stepG_load_atomic (v := Z) rfl rfl (by k_ne) rfl H.f_loadU64 (x_loadU64_n L) (x_loadU64_b L) (x_loadU64_x L) .u64 (x_loadU64_f L) rfl hw.cellSt, fun h0 => absurd h0 (by omega), fun _ => ?_⟩
    clear hw
    walk_nrm
    refine stretch (F := fun _ => True) (n := 120) hFS ?_
    u_op fl2 hF
    u_c stepG_region_end fl2 hF
    u_c stepG_ret' fl2 hF
    u_leave1 H.f_uLoad fl2 hF
    u_op fl2 hF
    u_c stepG_region_end fl2 hF
    u_c stepG_seq fl2 hF
    u_reg fl2 hF
    u_op fl2 hF
    u_op fl2 hF
    u_op fl2 hF
    u_op fl2 hF
    u_c stepG_region_end fl2 hF
    u_c stepG_seq fl2 hF
    u_reg fl2 hF
    u_op fl2 hF
    u_op fl2 hF
    u_op fl2 hF
    u_op fl2 hF
    u_c stepG_region_end fl2 hF
    u_c stepG_seq fl2 hF
    u_c stepG_seq fl2 hF
    u_reg fl2 hF
    u_op fl2 hF
    u_op fl2 hF
    u_c stepG_region_end fl2 hF
    u_cond false fl2 hF
    u_c stepG_skip fl2 hF
    u_c stepG_seq fl2 hF
    u_reg fl2 hF
    u_op fl2 hF
    u_op fl2 hF
    u_op fl2 hF
    u_op fl2 hF
    u_op fl2 hF
    u_op fl2 hF
    u_call H.f_uCas (nm_uCas L) uCasFn fl2 hF
    u_c stepG_seq fl2 hF
    u_reg fl2 hF
    u_op fl2 hF
    u_c stepG_region_end fl2 hF
    u_c stepG_seq fl2 hF
    u_reg fl2 hF
    u_op fl2 hF
    u_op fl2 hF
    u_op fl2 hF
    u_op fl2 hF
    u_op fl2 hF
    refine Goes.stop fun w₄ h₁ => ?_
    replace hF := fl2 hF h₁
    clear h₁
    refine .stop fun w₅ h₁ => ⟨rfl, fun v' hv' hw => ⟨fun e => ?_, fun e => ?_⟩⟩
    · replace hF := hFS _ _ h₁ hF
      clear h₁
      subst e
      simp only at hw
      rw [hS] at hw ⊢
      refine ⟨_, (stepG_cas_hit (v := Z) (n := Z + 1) rfl rfl (by k_ne) rfl H.f_casU64 (x_casU64_n L) (x_casU64_b L) (x_casU64_x L) .u64 (x_casU64_f L) rfl rfl rfl hw.cellSt (hw.thaw 0)).trans (by rfl), ?_⟩
      replace hF : True ∧ WgLive L.tWg Wg (w₅.setCell (stA Wg) (.int .u64 (Z + 1))) := ⟨trivial, ⟨_, _, hw.setSt _⟩⟩
      clear hw
      walk_nrm
      refine stretch (F := fun _ => True) (n := 120) hFS ?_
      u_op fl2 hF
      u_c stepG_region_end fl2 hF
      u_c stepG_ret' fl2 hF
      u_leave1 H.f_uCas fl2 hF
      u_c stepG_region_end fl2 hF
      u_cond true fl2 hF
      u_c stepG_seq fl2 hF
      u_c stepG_seq fl2 hF
      u_reg fl2 hF
      u_op fl2 hF
      u_op fl2 hF
      u_op fl2 hF
      u_op fl2 hF
      u_c stepG_region_end fl2 hF
      u_cond true fl2 hF
      u_reg fl2 hF
      u_op fl2 hF
      u_op fl2 hF
      u_op fl2 hF
      u_conv H.underlying_tPU32 H.room_tU32 (WgLive.cell1 hF.2).choose_spec fl2 hF
      refine Goes.stop fun w₆ h₁ => ?_
      replace hF := fl2 hF h₁
      clear h₁
      -- race.Write(&wg.sema)
      refine .mk rfl fun w₇ h₁ => ?_
      replace hF := hFS _ _ h₁ hF
      clear h₁
      refine ⟨_, _, _, S, stepG_markAt .write (by simp) rfl rfl (by k_ne) rfl H.f_raceWrite (x_raceWrite_n L) (x_raceWrite_b L) (x_raceWrite_x L) (x_raceWrite_f L) (ad := ⟨Wg, 1, none⟩) (by simp [Act.eval]), ⟨rfl, rfl, rfl, Nat.le_refl _, fun _ _ _ => rfl, fun _ h => h, fun _ h => .inl h, fun e he => ?_⟩, ?_⟩
      · rw [Array.mem_singleton] at he
        subst he
        exact .inr (.inr ⟨⟨Wg, 1, none⟩, rfl, .inr rfl⟩)
      walk_nrm
      refine stretch (F := fun _ => True) (n := 120) hFS ?_
      u_c stepG_region_end fl2 hF
      u_c stepG_seq fl2 hF
      u_reg fl2 hF
      u_op fl2 hF
      u_c stepG_region_end fl2 hF
      u_c stepG_seq fl2 hF
      u_c stepG_seq fl2 hF
      u_reg fl2 hF
      u_op fl2 hF
      u_op fl2 hF
      u_op fl2 hF
      u_op fl2 hF
      u_skip fl2 hF
      u_op fl2 hF
      u_c stepG_region_end fl2 hF
      u_cond false fl2 hF
      u_c stepG_skip fl2 hF
      u_c stepG_seq fl2 hF
      u_reg fl2 hF
      u_op fl2 hF
      u_op fl2 hF
      u_op fl2 hF
      u_op fl2 hF
      refine Goes.stop fun w₈ h₁ => ?_
      replace hF := fl2 hF h₁
      clear h₁
      refine .stop fun w₉ h₁ => ?_
      replace hF := hFS _ _ h₁ hF
      clear h₁
      refine ⟨rfl, rfl, fun ⟨st, hw⟩ => stepG_semacquire_wait rfl rfl rfl H.f_semacquire (x_semacquire_n L) (x_semacquire_b L) (x_semacquire_x L) (x_semacquire_f L) (by simp [Act.eval, smA]) hw.cellSm, fun hf => ?_⟩
      simp only at hf
      refine ⟨_, (stepG_semacquire (n := 1) rfl rfl (by k_ne) rfl H.f_semacquire (x_semacquire_n L) (x_semacquire_b L) (x_semacquire_x L) (x_semacquire_f L) (by simp [Act.eval, smA]) hf.cellSm (by k_ne) (hf.thaw 1)).trans (by rfl), ?_⟩
      replace hF : True ∧ WgLive L.tWg Wg (w₉.setCell (smA Wg) (.int .u32 0)) := ⟨trivial, ⟨_, _, hf.setSm 0⟩⟩
      clear hf
      walk_nrm
      refine stretch (F := fun _ => True) (n := 120) hFS ?_
      u_c stepG_region_end fl2 hF
      u_c stepG_seq fl2 hF
      u_reg fl2 hF
      u_op fl2 hF
      u_op fl2 hF
      u_op fl2 hF
      u_call H.f_uLoad (nm_uLoad L) uLoadFn fl2 hF
      u_c stepG_seq fl2 hF
      u_reg fl2 hF
      u_op fl2 hF
      u_c stepG_region_end fl2 hF
      u_c stepG_seq fl2 hF
      u_reg fl2 hF
      u_op fl2 hF
      u_op fl2 hF
      u_op fl2 hF
      refine Goes.stop fun w₁₀ h₁ => ?_
      replace hF := fl2 hF h₁
      clear h₁
      refine .stop fun w₁₁ h₁ => ?_
      replace hF := hFS _ _ h₁ hF
      clear h₁
      refine ⟨rfl, fun hw => ⟨_, stepG_load_atomic (v := 0) rfl rfl (by k_ne) rfl H.f_loadU64 (x_loadU64_n L) (x_loadU64_b L) (x_loadU64_x L) .u64 (x_loadU64_f L) rfl hw.cellSt, ?_⟩⟩
      clear hw
      walk_nrm
      refine stretch (F := fun _ => True) (n := 120) hFS ?_
      u_op fl2 hF
      u_c stepG_region_end fl2 hF
      u_c stepG_ret' fl2 hF
      u_leave1 H.f_uLoad fl2 hF
      u_op fl2 hF
      u_op fl2 hF
      u_c stepG_region_end fl2 hF
      u_c stepG_seq fl2 hF
      u_cond true fl2 hF
      u_c stepG_seq fl2 hF
      u_reg fl2 hF
      refine Goes.stop fun w₅ h₁ => ?_
      replace hF := fl2 hF h₁
      clear h₁
      refine .stop fun w₆ h₁ => ?_
      replace hF := hFS _ _ h₁ hF
      clear h₁
      refine ⟨rfl, _, stepG_mark0 .enable (by simp) rfl rfl (by k_ne) rfl H.f_enable (x_enable_n L) (x_enable_b L) (x_enable_x L) (x_enable_f L), ?_⟩
      walk_nrm
      refine stretch (F := fun _ => True) (n := 120) hFS ?_
      u_c stepG_region_end fl2 hF
      u_reg fl2 hF
      u_op fl2 hF
      u_conv H.underlying_tWgP H.room_tWg (WgLive.cell0 hF.2).choose_spec fl2 hF
      refine Goes.stop fun w₇ h₁ => ?_
      replace hF := fl2 hF h₁
      clear h₁
      refine .stop fun w₈ h₁ => ?_
      replace hF := hFS _ _ h₁ hF
      clear h₁
      refine ⟨rfl, _, stepG_markAt .acquire (by simp) rfl rfl (by k_ne) rfl H.f_acquire (x_acquire_n L) (x_acquire_b L) (x_acquire_x L) (x_acquire_f L) (by simp [Act.eval, stA]), ?_⟩
      walk_nrm
      refine stretch (F := fun _ => True) (n := 120) hFS ?_
      u_c stepG_region_end fl2 hF
      u_c stepG_seq fl2 hF
      u_c stepG_seq fl2 hF
      u_reg fl2 hF
      u_op fl2 hF
      u_c stepG_region_end fl2 hF
      u_cond false fl2 hF
      u_c stepG_skip fl2 hF
      u_c stepG_ret' fl2 hF
      u_leave0 H.f_wait fl2 hF
      refine Goes.stop fun w₉ h₁ => ?_
      replace hF := fl2 hF h₁
      clear h₁
      exact hT _ _ _ hA hF
    · replace hF := hFS _ _ h₁ hF
      clear h₁
      simp only at hw
      refine ⟨_, stepG_cas_miss (v := (v' : Int) * KK) (old := Z) (n := Z + 1) rfl rfl (by k_ne) rfl H.f_casU64 (x_casU64_n L) (x_casU64_b L) (x_casU64_x L) .u64 (x_casU64_f L) rfl rfl rfl hw.cellSt (hw.thaw 0) (by rw [← hS]; simp only [KK]; omega), ?_⟩
      clear hw
      walk_nrm
      refine stretch (F := fun _ => True) (n := 120) hFS ?_
      u_op fl2 hF
      u_c stepG_region_end fl2 hF
      u_c stepG_ret' fl2 hF
      u_leave1 H.f_uCas fl2 hF
      u_c stepG_region_end fl2 hF
      u_cond false fl2 hF
      u_c stepG_skip fl2 hF
      u_c stepG_inBlock fl2 hF
      u_c stepG_inLoop fl2 hF
      refine Goes.stop fun w₆ h₁ => ?_
      replace hF := fl2 hF h₁
      clear h₁
      exact .stop fun w₇ h₁ => ⟨_, _, hA, rfl, by simp, by simp, (hFS _ _ h₁ hF).2⟩
end
end Go.Proofs.Ytfecdmenliohhaa
