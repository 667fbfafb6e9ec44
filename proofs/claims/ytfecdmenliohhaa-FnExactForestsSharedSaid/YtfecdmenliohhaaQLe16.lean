/- The library's release, out of the kit's walk through Add(-1). Plain. -/
import Derived.Test.YtfecdmenliohhaaQLe15
import Derived.Test.YtfecdmenliohhaaQLe12
set_option linter.unusedVariables false
set_option linter.unusedSimpArgs false
set_option linter.unusedSimpArgs false
set_option linter.unusedVariables false
namespace Go.Proofs.Ytfecdmenliohhaa
open Go Go.Conc Go.ConcN Go.RowKit Go.Conc.Lib Go.ConcR.Gen Go.ConcN.Gen
open Go.ConcR (KK wgBlock WgAt stA smA rd wr mk Payload DC0)
variable [Payload] {L : WgLink}

omit [Payload] in
/-- One step of a walk that is known to be no stop. -/
theorem Goes.follow {P : Program} {main : Bool} {R : World → World → Prop} {D : World → World → Array Event → Prop} {Stop : Goroutine → World → Prop} {n : Nat} {g g₁ : Goroutine} {w : World} {es : Array Event} (h : Goes P main R D Stop (n + 1) g w) (hr : R w w) (hs : stepG P main g w = .go g₁ w es) (hn : ¬ Stop g w) :
    D w w es ∧ Goes P main R D Stop n g₁ w := by
  rcases h with h | ⟨_, h⟩
  · exact absurd (h w hr) hn
  · have := h w hr
    rw [hs, goes_go] at this
    exact this

theorem not_atR0 {P : Program} {ty : TypeId} {Wg C n Low k : Nat} {v : Value} {g g₁ : Goroutine} {w : World} {es : Array Event} (hs : stepG P false g w = .go g₁ w es) (he : es ≠ #[mk (.releaseMerge (stA Wg))]) : ¬ AtR0 P ty Wg C n Low k v g w := by
  rintro ⟨_, _, g', h, _⟩
  rw [hs] at h
  exact he (by injection h)

structure SameW (w w₁ : World) : Prop where
  eq : w₁ = w

omit [Payload] in
/-- Along a stretch that neither turns the world nor lists anything and holds no stop. -/
theorem Goes.along {P : Program} {main : Bool} {R : World → World → Prop} {D : World → World → Array Event → Prop} {Stop : Goroutine → World → Prop} {g₁ : Goroutine} {w : World} (hr : ∀ w, R w w) (hns : ∀ g g' w, stepG P main g w = .go g' w #[] → ¬ Stop g w) :
    ∀ (m n : Nat) (g : Goroutine), Goes P main R D Stop n g w → Goes P main SameW DC0 (fun g' w' => g' = g₁ ∧ w' = w) m g w → ∃ n', Goes P main R D Stop n' g₁ w := by
  intro m
  induction m with
  | zero => intro n g h mine; obtain ⟨rfl, _⟩ := mine w ⟨rfl⟩; exact ⟨n, h⟩
  | succ m ih =>
    intro n g h mine
    rcases mine with mine | ⟨_, mine⟩
    · obtain ⟨rfl, _⟩ := mine w ⟨rfl⟩; exact ⟨n, h⟩
    · obtain ⟨g', w', es, hst, ⟨rfl, rfl⟩, hg'⟩ := goes_elim (mine w ⟨rfl⟩)
      cases n with
      | zero => exact absurd (h w' (hr w')) (hns _ _ _ hst)
      | succ n => exact ih n g' (Goes.follow h (hr w') hst (hns _ _ _ hst)).2 hg'

set_option maxRecDepth 100000 in
set_option maxHeartbeats 4000000 in
/-- AT THE RELEASE of Add(-1): the slots as they stand there. -/
theorem atR0_of {P : Program} (H : WgLib P L) {Wg C n Low k : Nat} {val : Value} {b₀ : Frame} {a₀ : Act} {ops₀ : Array Oper} {i₀ : Nat} {rest₀ : List Nat} {k₀ : List Item} {cs : List Frame} {qt : Nat} {R : World → World → Prop} {F : World → Prop} (hFR : ∀ w w₁, R w w₁ → F w → F w₁)
    (hR : ∀ w w₁, R w w₁ → (WgLive L.tWg Wg w ∧ Has C (k - 1) val w) → WgLive L.tWg Wg w₁ ∧ Has C (k - 1) val w₁)
    (hT : QuitsD P qt 0 (G (b₀.at (a₀.put ((ops₀[i₀]?).bind (·.dst)) (.tuple #[])) (.inRegion ops₀ rest₀ :: k₀)) cs)) (w : World) (hK : (WgLive L.tWg Wg w ∧ Has C (k - 1) val w) ∧ F w) :
    Goes P false R DC0 (fun g w => (∀ w₂, R w w₂ → AtR0 P L.tWg Wg C n Low k val g w₂) ∧ F w) 20 (G ((base L.add).at ⟨#[.pointer (some ⟨Wg, 0, none⟩), .int .i64 (-1), undef, undef, undef, undef, undef, undef, undef, undef, undef, undef, undef, undef, undef, undef, undef, undef, undef, undef, undef, undef, undef, undef, undef, undef, undef, undef, undef, undef, undef, undef, undef, undef, undef, undef, undef, undef, undef, undef, undef, undef, undef, undef, undef, undef, undef, undef, undef, undef, undef, undef, undef, undef, undef, undef, undef, undef, undef, undef, undef, undef, undef, undef, undef, undef, undef, undef, undef, undef, undef, undef, undef, undef, undef, undef, undef, undef, undef, undef, undef, undef, undef, undef, undef, undef, undef, undef, undef, undef, undef, undef, undef, undef, undef, undef, undef, undef, undef, undef, undef, undef, undef, undef, undef, undef, undef, undef, undef, undef, undef, undef, undef, undef, undef, undef, undef], []⟩ [.code (body_add L)]) (b₀.at a₀ (.inRegion ops₀ (i₀ :: rest₀) :: k₀) :: cs)) w := by
  have hA := fun w hK => @addNegN _ L P H nil2 nil2 Wg C n Low k val b₀ a₀ ops₀ i₀ rest₀ k₀ cs qt hT w hK
  lib_facts
  simp only [body_add, addFn, Option.getD_some] at hA ⊢
  have rl : ∀ {w w₁ : World}, ((WgLive L.tWg Wg w ∧ Has C (k - 1) val w) ∧ F w) → R w w₁ → ((WgLive L.tWg Wg w₁ ∧ Has C (k - 1) val w₁) ∧ F w₁) := fun h r => ⟨hR _ _ r h.1, hFR _ _ r h.2⟩
  u_c stepG_seq rl hK
  u_cond true rl hK
  u_c stepG_seq rl hK
  u_c stepG_seq rl hK
  u_reg rl hK
  u_op rl hK
  u_op rl hK
  u_c stepG_region_end rl hK
  u_cond true rl hK
  u_reg rl hK
  u_op rl hK
  u_conv H.underlying_tWgP H.room_tWg (WgLive.cell0 hK.1.1).choose_spec rl hK
  refine Goes.stop (fun w₀ h₁ => ⟨fun w₁ h₂ => ?_, (rl hK h₁).2⟩)
  replace hK := (rl (rl hK h₁) h₂).1
  clear h₁ h₂
  have hns : ∀ g g' w, stepG P false g w = .go g' w #[] → ¬ AtR0 P L.tWg Wg C n Low k val g w := fun g g' w h => not_atR0 h (by simp)
  obtain ⟨n', h⟩ := Goes.along (fun w => RW.refl w) hns 20 20 _ (hA w₁ hK) (by
    have hE : (WgLive L.tWg Wg w₁ ∧ Has C (k - 1) val w₁) ∧ SameW w₁ w₁ := ⟨hK, ⟨rfl⟩⟩
    have rlE : ∀ {w w' : World}, ((WgLive L.tWg Wg w ∧ Has C (k - 1) val w) ∧ SameW w₁ w) → SameW w w' → ((WgLive L.tWg Wg w' ∧ Has C (k - 1) val w') ∧ SameW w₁ w') := fun h e => by obtain ⟨rfl⟩ := e; exact h
    u_c stepG_seq rlE hE
    u_cond true rlE hE
    u_c stepG_seq rlE hE
    u_c stepG_seq rlE hE
    u_reg rlE hE
    u_op rlE hE
    u_op rlE hE
    u_c stepG_region_end rlE hE
    u_cond true rlE hE
    u_reg rlE hE
    u_op rlE hE
    u_conv H.underlying_tWgP H.room_tWg (WgLive.cell0 hE.1.1).choose_spec rlE hE
    exact Goes.stop fun w₂ e => ⟨rfl, (rlE hE e).2.eq⟩)
  cases n' with
  | zero => exact h w₁ (RW.refl w₁)
  | succ n' =>
    rcases h with h | ⟨_, h⟩
    · exact h w₁ (RW.refl w₁)
    exfalso
    have h2 := h w₁ (RW.refl w₁)
    rw [stepG_markAt .releaseMerge (by simp) rfl rfl (by k_ne) rfl H.f_relMerge (x_relMerge_n L) (x_relMerge_b L) (x_relMerge_x L) (x_relMerge_f L) (ad := stA Wg) (by simp [Act.eval, stA]), goes_go] at h2
    obtain ⟨_, h2⟩ := h2
    obtain ⟨n2, h3⟩ := Goes.along (fun w => RW.refl w) hns 10 n' _ h2 (by
      have hE : (WgLive L.tWg Wg w₁ ∧ Has C (k - 1) val w₁) ∧ SameW w₁ w₁ := ⟨hK, ⟨rfl⟩⟩
      have rlE : ∀ {w w' : World}, ((WgLive L.tWg Wg w ∧ Has C (k - 1) val w) ∧ SameW w₁ w) → SameW w w' → ((WgLive L.tWg Wg w' ∧ Has C (k - 1) val w') ∧ SameW w₁ w') := fun h e => by obtain ⟨rfl⟩ := e; exact h
      walk_nrm
      u_c stepG_region_end rlE hE
      u_c stepG_seq rlE hE
      u_reg rlE hE
      exact Goes.stop fun w₂ e => ⟨rfl, (rlE hE e).2.eq⟩)
    cases n2 with
    | zero =>
      obtain ⟨_, _, g', hg, _⟩ := h3 w₁ (RW.refl w₁)
      rw [stepG_mark0 .disable (by simp) rfl rfl (by k_ne) rfl H.f_disable (x_disable_n L) (x_disable_b L) (x_disable_x L) (x_disable_f L)] at hg
      injection hg with _ _ he
      simp [mk] at he
    | succ n2 =>
      rcases h3 with h3 | ⟨_, h3⟩
      · obtain ⟨_, _, g', hg, _⟩ := h3 w₁ (RW.refl w₁)
        rw [stepG_mark0 .disable (by simp) rfl rfl (by k_ne) rfl H.f_disable (x_disable_n L) (x_disable_b L) (x_disable_x L) (x_disable_f L)] at hg
        injection hg with _ _ he
        simp [mk] at he
      · have h4 := h3 w₁ (RW.refl w₁)
        rw [stepG_mark0 .disable (by simp) rfl rfl (by k_ne) rfl H.f_disable (x_disable_n L) (x_disable_b L) (x_disable_x L) (x_disable_f L), goes_go] at h4
        exact (h4.1.2 (mk .disable) (by simp [mk])).2.1 rfl
end Go.Proofs.Ytfecdmenliohhaa
