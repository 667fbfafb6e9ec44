/- The worker's piece of work: the whole region. (Printed by mkPoolP.py.). -/
import Derived.Test.YtfecdmenliohhaaQLe24
set_option linter.unusedVariables false
set_option linter.unusedSimpArgs false
set_option linter.unusedSimpArgs false
set_option linter.unusedVariables false
namespace Go.Proofs.Ytfecdmenliohhaa
open Go Go.Conc Go.ConcN Go.RowKit
open Go.ConcR (Payload DC0 WgAt)

theorem getD_tf {L : Array Bool} {k : Nat} (hk : k < L.size) (h : ¬ L.getD k false = true) : L.getD k true = false := by
  simp [Array.getD, hk] at h ⊢
  exact h

set_option maxRecDepth 100000 in
set_option maxHeartbeats 4000000 in
/-- Where nothing may come up any more, the store has come up. -/
theorem all_listed {L : Array Bool} (hL : L.size = 14) (h : Region.ready .any opsW L = []) : L.getD 13 false = true := by
  have key : ∀ k, k < 14 → ¬ L.getD k false = true → (∀ o, opsW[k]? = some o → ∀ e ∈ o.after, Region.binds .any e = true → L.getD e.on false = true) → False := fun k hk hn hall => by
    obtain ⟨o, ho⟩ : ∃ o, opsW[k]? = some o := ⟨opsW[k]'(by rw [opsW_size]; exact hk), Array.getElem?_eq_getElem _⟩
    have := (mem_ready (md := .any)).2 ⟨getD_tf (by omega) hn, o, ho, hall o ho⟩
    rw [h] at this
    cases this
  have l0 : L.getD 0 false = true := Decidable.byContradiction fun hn => key 0 (by omega) hn fun o ho e he hb => by
    simp [opsW, Try.f36] at ho
    subst ho
    simp at he
  have l1 : L.getD 1 false = true := Decidable.byContradiction fun hn => key 1 (by omega) hn fun o ho e he hb => by
    simp [opsW, Try.f36] at ho
    subst ho
    simp at he
  have l2 : L.getD 2 false = true := Decidable.byContradiction fun hn => key 2 (by omega) hn fun o ho e he hb => by
    simp [opsW, Try.f36] at ho
    subst ho
    simp at he
  have l3 : L.getD 3 false = true := Decidable.byContradiction fun hn => key 3 (by omega) hn fun o ho e he hb => by
    simp [opsW, Try.f36] at ho
    subst ho
    simp at he
  have l4 : L.getD 4 false = true := Decidable.byContradiction fun hn => key 4 (by omega) hn fun o ho e he hb => by
    simp [opsW, Try.f36] at ho
    subst ho
    simp at he
  have l5 : L.getD 5 false = true := Decidable.byContradiction fun hn => key 5 (by omega) hn fun o ho e he hb => by
    simp [opsW, Try.f36] at ho
    subst ho
    simp at he
    rcases he with rfl | rfl
    · exact l3
    · exact l4
  have l6 : L.getD 6 false = true := Decidable.byContradiction fun hn => key 6 (by omega) hn fun o ho e he hb => by
    simp [opsW, Try.f36] at ho
    subst ho
    simp at he
    subst he
    exact l5
  have l7 : L.getD 7 false = true := Decidable.byContradiction fun hn => key 7 (by omega) hn fun o ho e he hb => by
    simp [opsW, Try.f36] at ho
    subst ho
    simp at he
    rcases he with rfl | rfl
    · exact l2
    · exact l6
  have l8 : L.getD 8 false = true := Decidable.byContradiction fun hn => key 8 (by omega) hn fun o ho e he hb => by
    simp [opsW, Try.f36] at ho
    subst ho
    simp at he
    subst he
    exact l7
  have l9 : L.getD 9 false = true := Decidable.byContradiction fun hn => key 9 (by omega) hn fun o ho e he hb => by
    simp [opsW, Try.f36] at ho
    subst ho
    simp at he
    subst he
    exact l8
  have l10 : L.getD 10 false = true := Decidable.byContradiction fun hn => key 10 (by omega) hn fun o ho e he hb => by
    simp [opsW, Try.f36] at ho
    subst ho
    simp at he
    subst he
    exact l8
  have l12 : L.getD 12 false = true := Decidable.byContradiction fun hn => key 12 (by omega) hn fun o ho e he hb => by
    simp [opsW, Try.f36] at ho
    subst ho
    simp at he
    rcases he with rfl | rfl | rfl | rfl | rfl | rfl | rfl | rfl | rfl | rfl | rfl | rfl | rfl | rfl
    · exact l0
    · exact l1
    · exact l0
    · exact l1
    · exact l2
    · exact l3
    · exact l4
    · exact l5
    · exact l6
    · exact l7
    · exact l8
    · exact l9
    · exact l10
    · exact absurd hb (by decide)
  refine Decidable.byContradiction fun hn => key 13 (by omega) hn fun o ho e he hb => ?_
  simp [opsW, Try.f36] at ho
  subst ho
  simp at he
  rcases he with rfl | rfl | rfl | rfl | rfl | rfl | rfl | rfl | rfl | rfl | rfl | rfl | rfl | rfl | rfl
  · exact l12
  · exact l10
  · exact l7
  · exact l0
  · exact l1
  · exact l2
  · exact l3
  · exact l4
  · exact l5
  · exact l6
  · exact l7
  · exact l8
  · exact l9
  · exact l10
  · exact absurd hb (by decide)

section
variable {X : PX} {j i GB n2 lB oB : Nat} {N : Int} {la : Option Addr} {lc oc : Nat} {rows : Nat → Option Addr × Nat × List Int} {O₀ : OwnB} {w₀ : World} {Stop : OwnB → Goroutine → World → Prop} {LL : List FuncId} {bad : TypeId}

set_option maxRecDepth 100000 in
theorem regionW (hL : LL.all (fnOk Try.prog LL) = true) (hC9 : LL.contains 9 = true) (hG : GB = Try.prog.globals.size) (hbad : Try.prog.info? bad = none) (hF : WF X GB n2 lB oB N la lc oc rows w₀) (hi : i < X.n) (hm : X.mine j i) (hroC : ∀ b, X.Ro b → b ≠ X.C ∧ b ≠ X.Wg)
    (hmax : i < 9223372036854775808) (ety : X.ety = 2) (hpay : X.Pay w₀) (hCW : X.Wg ≠ X.C) (hB : Bnd X O₀ w₀) {b : Frame} {k : List Item} {cs : List Frame} (hb : b.fn = 36) (hbk : b.kind ≠ .early)
    (cont : ∀ O a w, Sn X j i O₀ w₀ w → (∀ b, O₀ b → O b) → Bnd X O w → w.cell? ⟨X.C, i, none⟩ = some (.int .i64 (forestN N (rows i).2.2)) → a.defers = [] → GG Try.prog false (RWk X j) (GWk X j) Stop O (G (b.at a k) cs) w) :
    GG Try.prog false (RWk X j) (GWk X j) Stop O₀ (G (b.at ⟨#[.int .i64 i, .pointer (some ⟨n2, 0, none⟩), .pointer (some ⟨lB, 0, none⟩), .pointer (some ⟨oB, 0, none⟩), undef, undef, undef, undef, undef, undef, undef, undef, undef, undef, undef, undef, undef, undef], []⟩ (.code (.region 0 opsW true) :: k)) cs) w₀ := by
  refine .mk rfl fun w₁ h₁ => ⟨_, _, _, O₀, stepG_region_draw, ⟨rfl, rfl, rfl, Nat.le_refl _, fun _ _ _ _ => rfl, id, fun _ _ => rfl, fun _ h => h, fun _ h => .inl h, fun e he => by simp at he⟩, ?_⟩
  have hmx : Try.prog.follows .mixedOrders = true := by kernel_rfl
  simp only [Region.schedule, hmx, Bool.true_or, if_true]
  refine GG.drawn (md := .any) (InvW X j i n2 lB oB N la lc oc rows (fun i => forestN N (rows i).2.2) O₀ w₀) GWk.idle RWk.trans RWk.refl (fun L O a w w₁ h r => h.rely hm r)
    (fun L ix rest O a w hI hr hk => opsW_step hb hbk hF hi hm hmax hpay hroC hCW ety (fun L ix rest O a w o hI hix ho hdst h2 h6 hun hk => callW hL hC9 hG hbad hF hi hm hroC hbk L ix rest O a w o hI hix ho hdst h2 h6 hun hk) L ix rest O a w hI hr hk)
    (fun L O a w hI hnil => ?_) opsW.size _ (Array.replicate opsW.size false) O₀ _ _ ?_ ?_
  · obtain ⟨⟨r, hs, _⟩, _, hL, hSn, hOO, hBd, h13⟩ := hI
    exact cont O a w hSn hOO hBd (h13 (all_listed hL hnil)) hs.dfr
  · have hno : ∀ kk, ¬ (Array.replicate opsW.size false).getD kk false = true := fun kk => by simp [Array.getD]
    refine ⟨⟨(undef, undef, undef), ⟨rfl, rfl, rfl, rfl, rfl, rfl, fun kk d _ hl => absurd hl (hno kk)⟩, fun h => absurd h (hno 7)⟩, fun kk _ h => absurd h (hno kk), by simp [opsW_size], (h₁.sn i).trans ⟨rfl, Nat.le_refl _, fun _ _ => rfl, id, id, fun _ _ _ => rfl⟩, fun _ h => h, hB.grow h₁.size, fun h => absurd h (hno 13)⟩
  · simp
end
end Go.Proofs.Ytfecdmenliohhaa
