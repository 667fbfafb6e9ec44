/- A pool: the starter's Add(1) and Wait, in company. Plain. (Printed by mkPoolH.py.). -/
import Derived.Test.YtfecdmenliohhaaQFo14
import Derived.Conc.WgGenN3
set_option linter.unusedVariables false
set_option linter.unusedSimpArgs false
set_option linter.unusedSimpArgs false
set_option linter.unusedVariables false
namespace Go.Proofs.Ytfecdmenliohhaa
open Go Go.Conc Go.ConcN Go.RowKit Go.Conc.Lib Go.ConcR.Gen Go.ConcN.Gen
open Go.ConcR (KK wgBlock WgAt stA smA rd wr mk Payload DC0)
variable [Payload] {L : WgLink}

section
variable {P : Program} {X : PX} {AnchW End : OwnB → Goroutine → World → Prop} {S : OwnB} {F : World → Prop}
  {b₀ : Frame} {a₀ : Act} {ops₀ : Array Oper} {i₀ : Nat} {rest₀ : List Nat} {k₀ : List Item} {cs : List Frame}

set_option maxRecDepth 100000 in
set_option maxHeartbeats 16000000 in
theorem gAddPos (H : WgLib P L) (ety : X.ty = L.tWg) {j : Nat} {Next : OwnB → Goroutine → World → Prop} (hFS : ∀ w w₁, RSt X S w w₁ → F w ∧ WgLive X.ty X.Wg w → F w₁ ∧ WgLive X.ty X.Wg w₁) (hFW : ∀ w w', Aside X.Wg w w' → F w → F w')
    (hT : ∀ w, F w ∧ WgLive X.ty X.Wg w → GG P true (RSt X) (GSt X) (StGoS P X j Next) S (G (b₀.at (a₀.put ((ops₀[i₀]?).bind (·.dst)) (.tuple #[])) (.inRegion ops₀ rest₀ :: k₀)) cs) w) (w : World) (hF : F w ∧ WgLive X.ty X.Wg w) :
    GG P true (RSt X) (GSt X) (StKdS P X j Next) S (G ((base L.add).at ⟨#[.pointer (some ⟨X.Wg, 0, none⟩), .int .i64 1, undef, undef, undef, undef, undef, undef, undef, undef, undef, undef, undef, undef, undef, undef, undef, undef, undef, undef, undef, undef, undef, undef, undef, undef, undef, undef, undef, undef, undef, undef, undef, undef, undef, undef, undef, undef, undef, undef, undef, undef, undef, undef, undef, undef, undef, undef, undef, undef, undef, undef, undef, undef, undef, undef, undef, undef, undef, undef, undef, undef, undef, undef, undef, undef, undef, undef, undef, undef, undef, undef, undef, undef, undef, undef, undef, undef, undef, undef, undef, undef, undef, undef, undef, undef, undef, undef, undef, undef, undef, undef, undef, undef, undef, undef, undef, undef, undef, undef, undef, undef, undef, undef, undef, undef, undef, undef, undef, undef, undef, undef, undef, undef, undef, undef, undef], []⟩ [.code (body_add L)]) (b₀.at a₀ (.inRegion ops₀ (i₀ :: rest₀) :: k₀) :: cs)) w := by
  lib_facts
  obtain ⟨ty, Wg, C, nn, et, Ro, mine, val, WW⟩ := X
  simp only at ety
  subst ety
  simp only at hFS hFW hT hF ⊢
  simp only [body_add, addFn, Option.getD_some]
  refine stretch (F := F) (n := 120) hFS ?_
  u_c stepG_seq fl2 hF
  u_cond true fl2 hF
  u_c stepG_seq fl2 hF
  u_c stepG_seq fl2 hF
  u_reg fl2 hF
  u_op fl2 hF
  u_op fl2 hF
  u_c stepG_region_end fl2 hF
  u_cond false fl2 hF
  u_c stepG_skip fl2 hF
  u_c stepG_seq fl2 hF
  u_reg fl2 hF
  refine Goes.stop fun w₂ h₁ => ?_
  replace hF := fl2 hF h₁
  clear h₁
  refine .stop fun w₃ h₁ => ?_
  replace hF := hFS _ _ h₁ hF
  clear h₁
  refine ⟨rfl, _, stepG_mark0 .disable (by simp) rfl rfl (by k_ne) rfl H.f_disable (x_disable_n L) (x_disable_b L) (x_disable_x L) (x_disable_f L), ?_⟩
  walk_nrm
  refine stretch (F := F) (n := 120) hFS ?_
  u_c stepG_region_end fl2 hF
  u_reg fl2 hF
  u_defer fl2 hF
  u_c stepG_region_end fl2 hF
  u_c stepG_seq fl2 hF
  u_reg fl2 hF
  u_op fl2 hF
  u_c stepG_region_end fl2 hF
  u_c stepG_seq fl2 hF
  u_c stepG_seq fl2 hF
  u_reg fl2 hF
  u_bub fl2 hF
  u_c stepG_region_end fl2 hF
  u_cond false fl2 hF
  u_c stepG_skip fl2 hF
  u_c stepG_seq fl2 hF
  u_reg fl2 hF
  u_op fl2 hF
  u_op fl2 hF
  u_op fl2 hF
  u_op fl2 hF
  u_op fl2 hF
  u_op fl2 hF
  u_call H.f_uAdd (nm_uAdd L) uAddFn fl2 hF
  u_c stepG_seq fl2 hF
  u_reg fl2 hF
  u_op fl2 hF
  u_c stepG_region_end fl2 hF
  u_c stepG_seq fl2 hF
  u_reg fl2 hF
  u_op fl2 hF
  u_op fl2 hF
  u_op fl2 hF
  u_op fl2 hF
  refine Goes.stop fun w₄ h₁ => ?_
  replace hF := fl2 hF h₁
  clear h₁
  refine .stop fun w₅ h₁ => ⟨rfl, fun v hv hw => ?_⟩
  replace hF := hFS _ _ h₁ hF
  clear h₁
  simp only at hw
  rcases Nat.eq_zero_or_pos v with rfl | hvp
  · replace hw : WgAt L.tWg Wg w₅ 0 0 := by simpa using hw
    have z : (((0 : Nat) : Int) + 1) * KK = KK := by simp
    rw [z]
    have e0 : IntKind.u64.wrap (0 + 4294967296) = KK := by decide
    refine ⟨_, (stepG_add_atomic rfl rfl (by k_ne) rfl H.f_addU64 (x_addU64_n L) (x_addU64_b L) (x_addU64_x L) .u64 (x_addU64_f L) rfl rfl hw.cellSt (hw.thaw 0)).trans (by rw [e0]; rfl), ?_⟩
    replace hF : F (w₅.setCell (stA Wg) (.int .u64 KK)) ∧ WgLive L.tWg Wg (w₅.setCell (stA Wg) (.int .u64 KK)) := ⟨hFW _ _ (aside_setCell w₅ (stA Wg) _) hF.1, ⟨_, _, hw.setSt _⟩⟩
    clear hw
    simp only [KK] at hF ⊢
    walk_nrm
    refine stretch (F := F) (n := 120) hFS ?_
    u_op fl2 hF
    u_c stepG_region_end fl2 hF
    u_c stepG_ret' fl2 hF
    u_leave1 H.f_uAdd fl2 hF
    u_op fl2 hF
    u_c stepG_region_end fl2 hF
    u_c stepG_seq fl2 hF
    u_c stepG_seq fl2 hF
    u_reg fl2 hF
    u_op fl2 hF
    u_op fl2 hF
    u_op fl2 hF
    u_op fl2 hF
    u_skip fl2 hF
    u_skip fl2 hF
    u_op fl2 hF
    u_c stepG_region_end fl2 hF
    u_cond false fl2 hF
    u_c stepG_skip fl2 hF
    u_c stepG_seq fl2 hF
    u_reg fl2 hF
    u_op fl2 hF
    u_op fl2 hF
    u_op fl2 hF
    u_op fl2 hF
    u_c stepG_region_end fl2 hF
    u_c stepG_seq fl2 hF
    u_reg fl2 hF
    u_op fl2 hF
    u_op fl2 hF
    u_op fl2 hF
    u_op fl2 hF
    u_c stepG_region_end fl2 hF
    u_c stepG_seq fl2 hF
    u_c stepG_seq fl2 hF
    u_reg fl2 hF
    u_op fl2 hF
    u_op fl2 hF
    u_op fl2 hF
    u_op fl2 hF
    u_op fl2 hF
    u_op fl2 hF
    u_op fl2 hF
    u_op fl2 hF
    u_op fl2 hF
    u_op fl2 hF
    u_c stepG_region_end fl2 hF
    u_cond true fl2 hF
    u_reg fl2 hF
    u_op fl2 hF
    u_op fl2 hF
    u_op fl2 hF
    u_conv H.underlying_tPU32 H.room_tU32 (WgLive.cell1 hF.2).choose_spec fl2 hF
    refine Goes.stop fun w₆ h₁ => ?_
    replace hF := fl2 hF h₁
    clear h₁
    -- race.Read(&wg.sema)
    refine .mk rfl fun w₇ h₁ => ?_
    replace hF := hFS _ _ h₁ hF
    clear h₁
    refine ⟨_, _, _, S, stepG_markAt .read (by simp) rfl rfl (by k_ne) rfl H.f_raceRead (x_raceRead_n L) (x_raceRead_b L) (x_raceRead_x L) (x_raceRead_f L) (ad := ⟨Wg, 1, none⟩) (by simp [Act.eval]), ⟨rfl, rfl, rfl, Nat.le_refl _, fun _ _ _ => rfl, fun _ h => h, fun _ h => .inl h, fun e he => ?_⟩, ?_⟩
    · rw [Array.mem_singleton] at he
      subst he
      exact .inr (.inr ⟨⟨Wg, 1, none⟩, rfl, .inl rfl⟩)
    walk_nrm
    refine stretch (F := F) (n := 120) hFS ?_
    u_c stepG_region_end fl2 hF
    u_c stepG_seq fl2 hF
    u_c stepG_seq fl2 hF
    u_reg fl2 hF
    u_op fl2 hF
    u_op fl2 hF
    u_c stepG_region_end fl2 hF
    u_cond false fl2 hF
    u_c stepG_skip fl2 hF
    u_c stepG_seq fl2 hF
    u_c stepG_seq fl2 hF
    u_reg fl2 hF
    u_op fl2 hF
    u_op fl2 hF
    u_op fl2 hF
    u_skip fl2 hF
    u_skip fl2 hF
    u_op fl2 hF
    u_op fl2 hF
    u_skip fl2 hF
    u_skip fl2 hF
    u_skip fl2 hF
    u_skip fl2 hF
    u_op fl2 hF
    u_c stepG_region_end fl2 hF
    u_cond false fl2 hF
    u_c stepG_skip fl2 hF
    u_c stepG_seq fl2 hF
    u_c stepG_seq fl2 hF
    u_reg fl2 hF
    u_op fl2 hF
    u_op fl2 hF
    u_op fl2 hF
    u_skip fl2 hF
    u_skip fl2 hF
    u_op fl2 hF
    u_c stepG_region_end fl2 hF
    u_cond true fl2 hF
    u_c stepG_ret' fl2 hF
    refine Goes.stop fun w₈ h₁ => ?_
    replace hF := fl2 hF h₁
    clear h₁
    refine .stop fun w₉ h₁ => ?_
    replace hF := hFS _ _ h₁ hF
    clear h₁
    refine ⟨rfl, _, stepG_unwind_entry (v := .tuple #[]) (evs := #[mk .enable]) rfl H.f_enable (x_enable_n L) (x_enable_b L) (x_enable_x L) (x_enable_f L) (by simp [Extern.Race.none_]) (by simp [mk]) (by simp [mk]), ?_⟩
    refine stretch (F := F) (n := 120) hFS ?_
    u_leave0 H.f_add fl2 hF
    refine Goes.stop fun w₁₀ h₁ => ?_
    replace hF := fl2 hF h₁
    clear h₁
    exact hT _ hF
  · obtain ⟨V, hV⟩ : ∃ V : Int, V = (v : Int) + 1 := ⟨_, rfl⟩
    obtain ⟨Z, hS⟩ : ∃ Z : Int, Z = V * KK := ⟨_, rfl⟩
    have eS : IntKind.u64.wrap ((v : Int) * KK + 4294967296) = Z := by rw [IntKind.wrap_u64, hS, hV]; simp only [KK]; omega
    rw [← hV, ← hS]
    have a1 : Z / 4294967296 = V := by rw [hS]; simp only [KK]; omega
    have b1 : bits .and .u64 Z 2147483648 = 0 := by rw [hS, hV]; have := st_flag (v + 1) 0 (by omega) (by omega); simpa [KK] using this
    have b2 : bits .and .u64 Z 2147483647 = 0 := by rw [hS, hV]; have := st_waiters (v + 1) 0 (by omega) (by omega); simpa [KK] using this
    have c1 : IntKind.i32.wrap V = V := by rw [IntKind.wrap_i32]; omega
    have hV1 : 1 < V := by omega
    have hV2 : V < 2147483648 := by omega
    have q1 : (V == 1) = false := by simp; omega
    have q2 : decide (V = 1) = false := decide_eq_false (by omega)
    have q3 : decide (V < 0) = false := decide_eq_false (by omega)
    have q4 : decide (0 < V) = true := decide_eq_true (by omega)
    have q5 : (V == 0) = false := by simp; omega
    have q6 : decide (V = 0) = false := decide_eq_false (by omega)
    refine ⟨_, (stepG_add_atomic rfl rfl (by k_ne) rfl H.f_addU64 (x_addU64_n L) (x_addU64_b L) (x_addU64_x L) .u64 (x_addU64_f L) rfl rfl hw.cellSt (hw.thaw 0)).trans (by rw [eS]; rfl), ?_⟩
    replace hF : F (w₅.setCell (stA Wg) (.int .u64 Z)) ∧ WgLive L.tWg Wg (w₅.setCell (stA Wg) (.int .u64 Z)) := ⟨hFW _ _ (aside_setCell w₅ (stA Wg) _) hF.1, ⟨_, _, hw.setSt _⟩⟩
    clear hw hS hV eS
    walk_nrm
    refine stretch (F := F) (n := 120) hFS ?_
    u_op fl2 hF
    u_c stepG_region_end fl2 hF
    u_c stepG_ret' fl2 hF
    u_leave1 H.f_uAdd fl2 hF
    u_op fl2 hF
    u_c stepG_region_end fl2 hF
    u_c stepG_seq fl2 hF
    u_c stepG_seq fl2 hF
    u_reg fl2 hF
    u_op fl2 hF
    u_op fl2 hF
    u_op fl2 hF
    u_op fl2 hF
    u_skip fl2 hF
    u_skip fl2 hF
    u_op fl2 hF
    u_c stepG_region_end fl2 hF
    u_cond false fl2 hF
    u_c stepG_skip fl2 hF
    u_c stepG_seq fl2 hF
    u_reg fl2 hF
    u_op fl2 hF
    u_op fl2 hF
    u_op fl2 hF
    u_op fl2 hF
    u_c stepG_region_end fl2 hF
    u_c stepG_seq fl2 hF
    u_reg fl2 hF
    u_op fl2 hF
    u_op fl2 hF
    u_op fl2 hF
    u_op fl2 hF
    u_c stepG_region_end fl2 hF
    u_c stepG_seq fl2 hF
    u_c stepG_seq fl2 hF
    u_reg fl2 hF
    u_op fl2 hF
    u_op fl2 hF
    u_op fl2 hF
    u_op fl2 hF
    u_op fl2 hF
    u_op fl2 hF
    u_op fl2 hF
    u_op fl2 hF
    u_op fl2 hF
    u_op fl2 hF
    u_c stepG_region_end fl2 hF
    u_cond false fl2 hF
    u_c stepG_skip fl2 hF
    u_c stepG_seq fl2 hF
    u_c stepG_seq fl2 hF
    u_reg fl2 hF
    u_op fl2 hF
    u_op fl2 hF
    u_c stepG_region_end fl2 hF
    u_cond false fl2 hF
    u_c stepG_skip fl2 hF
    u_c stepG_seq fl2 hF
    u_c stepG_seq fl2 hF
    u_reg fl2 hF
    u_op fl2 hF
    u_op fl2 hF
    u_op fl2 hF
    u_skip fl2 hF
    u_skip fl2 hF
    u_op fl2 hF
    u_op fl2 hF
    u_skip fl2 hF
    u_skip fl2 hF
    u_skip fl2 hF
    u_skip fl2 hF
    u_op fl2 hF
    u_c stepG_region_end fl2 hF
    u_cond false fl2 hF
    u_c stepG_skip fl2 hF
    u_c stepG_seq fl2 hF
    u_c stepG_seq fl2 hF
    u_reg fl2 hF
    u_op fl2 hF
    u_op fl2 hF
    u_op fl2 hF
    u_skip fl2 hF
    u_skip fl2 hF
    u_op fl2 hF
    u_c stepG_region_end fl2 hF
    u_cond true fl2 hF
    u_c stepG_ret' fl2 hF
    refine Goes.stop fun w₈ h₁ => ?_
    replace hF := fl2 hF h₁
    clear h₁
    refine .stop fun w₉ h₁ => ?_
    replace hF := hFS _ _ h₁ hF
    clear h₁
    refine ⟨rfl, _, stepG_unwind_entry (v := .tuple #[]) (evs := #[mk .enable]) rfl H.f_enable (x_enable_n L) (x_enable_b L) (x_enable_x L) (x_enable_f L) (by simp [Extern.Race.none_]) (by simp [mk]) (by simp [mk]), ?_⟩
    refine stretch (F := F) (n := 120) hFS ?_
    u_leave0 H.f_add fl2 hF
    refine Goes.stop fun w₁₀ h₁ => ?_
    replace hF := fl2 hF h₁
    clear h₁
    exact hT _ hF
end
end Go.Proofs.Ytfecdmenliohhaa
