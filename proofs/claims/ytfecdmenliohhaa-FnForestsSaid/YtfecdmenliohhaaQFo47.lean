/- FnForests: goroutine 0 at the entry; behind the call of ForestsShared. (Printed by mkFoG.py.). -/
import Derived.Test.YtfecdmenliohhaaQFo44
import Derived.Test.YtfecdmenliohhaaQFo46
set_option linter.unusedVariables false
set_option linter.unusedSimpArgs false
set_option linter.unusedSimpArgs false
set_option linter.unusedVariables false
namespace Go.Proofs.Ytfecdmenliohhaa
open Go Go.Conc Go.ConcN Go.RowKit Go.Conc.Lib Go.ConcR.Gen Go.ConcN.Gen
open Go.ConcR (Payload DC0 WgAt)

/-- At the return, with true. -/
def FinF (g : Goroutine) : Prop := ∃ T todo, T.size = 264 ∧ T[4]? = some (.bool true) ∧ g = G { (base 3).at ⟨T, []⟩ todo with mode := .returning } []
theorem fnresF : FnRes Try.prog 3 := ⟨_, Try.func3, by kernel_rfl⟩
theorem fin_of {C : Cx} {p : Ren} {a a' : Act} {todo : List Item} (h1 : a.tmps.size = 264) (h2 : a.tmps[4]? = some (.bool true)) (hs : ASame C p a.tmps a'.tmps) (hd : a'.defers = []) :
    FinF (G { (base 3).at a' todo with mode := .returning } []) := by
  obtain ⟨T, ds⟩ := a'
  simp only at hd hs
  subst hd
  refine ⟨T, todo, by rw [← hs.size]; exact h1, ?_, rfl⟩
  obtain ⟨v, e, hv⟩ := hs.get h2
  cases hv
  exact e
theorem litF (x y : Value) : #[x, y, undef, undef, undef, undef, undef, undef, undef, undef, undef, undef, undef, undef, undef, undef, undef, undef, undef, undef, undef, undef, undef, undef, undef, undef, undef, undef, undef, undef, undef, undef, undef, undef, undef, undef, undef, undef, undef, undef, undef, undef, undef, undef, undef, undef, undef, undef, undef, undef, undef, undef, undef, undef, undef, undef, undef, undef, undef, undef, undef, undef, undef, undef, undef, undef, undef, undef, undef, undef, undef, undef, undef, undef, undef, undef, undef, undef, undef, undef, undef, undef, undef, undef, undef, undef, undef, undef, undef, undef, undef, undef, undef, undef, undef, undef, undef, undef, undef, undef, undef, undef, undef, undef, undef, undef, undef, undef, undef, undef, undef, undef, undef, undef, undef, undef, undef, undef, undef, undef, undef, undef, undef, undef, undef, undef, undef, undef, undef, undef, undef, undef, undef, undef, undef, undef, undef, undef, undef, undef, undef, undef, undef, undef, undef, undef, undef, undef, undef, undef, undef, undef, undef, undef, undef, undef, undef, undef, undef, undef, undef, undef, undef, undef, undef, undef, undef, undef, undef, undef, undef, undef, undef, undef, undef, undef, undef, undef, undef, undef, undef, undef, undef, undef, undef, undef, undef, undef, undef, undef, undef, undef, undef, undef, undef, undef, undef, undef, undef, undef, undef, undef, undef, undef, undef, undef, undef, undef, undef, undef, undef, undef, undef, undef, undef, undef, undef, undef, undef, undef, undef, undef, undef, undef, undef, undef, undef, undef, undef, undef, undef, undef, undef, undef, undef, undef, undef, undef, undef, undef, undef, undef, undef, undef, undef, undef, undef, undef, undef, undef, undef, undef, undef, undef, undef, undef, undef, undef, undef, undef, undef, undef, undef, undef] = #[x, y] ++ Array.replicate 262 undef := by kernel_rfl
section
variable {C : Cx} {Rd0 : Nat → Prop} {S : OwnB} {p : Ren} {V0 V w : World} {aV bV : Option Addr} {c1 c2 N k : Nat} {xs ys zs : List Int} {a6 a7 a10 : Option Addr} {c6 c7 c10 : Nat} {TV T : Array Value}
set_option maxRecDepth 100000 in
set_option maxHeartbeats 4000000 in
/-- ████ The entry. ████ -/
theorem foHead {x1 x2 : Value} (hC : ListOk Try.prog C LG) (hV : Vq C Rd0 S p V0 w) (h1 : Rd (Value.int .u8) V0 aV c1 xs) (b1 : ∀ x ∈ xs, 0 ≤ x ∧ x < 256) (h2 : Rd (Value.int .u8) V0 bV c2 zs) (b2 : ∀ x ∈ zs, 0 ≤ x ∧ x < 256) (r1 : VRel C p (.slice aV xs.length c1) x1) (r2 : VRel C p (.slice bV zs.length c2) x2) :
    GG Try.prog true RL (GL Rd0) (fun S g w => FinF g ∨ AtF C V0 bV zs.length c2 Rd0 S g w) S (G (Frame.enter Try.prog 3 #[x1, x2] .normal) []) w := by
  have e : Frame.enter Try.prog 3 #[x1, x2] .normal = (base 3).at ⟨#[x1, x2] ++ Array.replicate 262 undef, []⟩ [.code bodyF] := by
    rw [enter_at (c := bodyF) _ Try.func3 (by kernel_rfl)]
    rfl
  rw [e]
  have hA : ASame C p #[.slice aV xs.length c1, .slice bV zs.length c2, undef, undef, undef, undef, undef, undef, undef, undef, undef, undef, undef, undef, undef, undef, undef, undef, undef, undef, undef, undef, undef, undef, undef, undef, undef, undef, undef, undef, undef, undef, undef, undef, undef, undef, undef, undef, undef, undef, undef, undef, undef, undef, undef, undef, undef, undef, undef, undef, undef, undef, undef, undef, undef, undef, undef, undef, undef, undef, undef, undef, undef, undef, undef, undef, undef, undef, undef, undef, undef, undef, undef, undef, undef, undef, undef, undef, undef, undef, undef, undef, undef, undef, undef, undef, undef, undef, undef, undef, undef, undef, undef, undef, undef, undef, undef, undef, undef, undef, undef, undef, undef, undef, undef, undef, undef, undef, undef, undef, undef, undef, undef, undef, undef, undef, undef, undef, undef, undef, undef, undef, undef, undef, undef, undef, undef, undef, undef, undef, undef, undef, undef, undef, undef, undef, undef, undef, undef, undef, undef, undef, undef, undef, undef, undef, undef, undef, undef, undef, undef, undef, undef, undef, undef, undef, undef, undef, undef, undef, undef, undef, undef, undef, undef, undef, undef, undef, undef, undef, undef, undef, undef, undef, undef, undef, undef, undef, undef, undef, undef, undef, undef, undef, undef, undef, undef, undef, undef, undef, undef, undef, undef, undef, undef, undef, undef, undef, undef, undef, undef, undef, undef, undef, undef, undef, undef, undef, undef, undef, undef, undef, undef, undef, undef, undef, undef, undef, undef, undef, undef, undef, undef, undef, undef, undef, undef, undef, undef, undef, undef, undef, undef, undef, undef, undef, undef, undef, undef, undef, undef, undef, undef, undef, undef, undef, undef, undef, undef, undef, undef, undef, undef, undef, undef, undef, undef, undef, undef, undef, undef, undef, undef, undef] (#[x1, x2] ++ Array.replicate 262 undef) := by
    rw [litF]
    exact (asame_two rfl r1 r2).append (ASame.replicate (.tuple rfl fun i v v' h => by simp at h) 262)
  refine prefixL hC fnresF (by decide) 6 bodyF_ok (fo_head h1 b1 h2 b2) hV hA rfl rfl ?_ ?_
  · rintro q a₁ a₁' V' S' w' ⟨N, k, ys, a6, a7, a10, c6, c7, c10, hN1, hN2, hk, hE, hT⟩ hs hd hle hS hv
    obtain ⟨T, ds⟩ := a₁'
    simp only at hd hs
    subst hd
    have h2' : Rd (Value.int .u8) V0 bV c2 zs := h2
    exact (foD hC hN1 hN2 hk hE hv hT hs h2 b2).mono fun S g w h => .inr h
  · rintro q a₁ a₁' V' S' w' todo ⟨g1, g2⟩ hs hd hle hS hv
    exact .stop fun _ _ => .inl (fin_of g1 g2 hs hd)
set_option maxRecDepth 100000 in
set_option maxHeartbeats 16000000 in
/-- ████ Behind the call. ████ -/
theorem foE {a13 : Option Addr} {c13 : Nat} {x : Value} (hC : ListOk Try.prog C LG) (hN1 : 2 ≤ N) (hN2 : N ≤ 8) (hk : k ≤ 9) (hE : EdgesOk N ys k) (hV : Vq C Rd0 S p V w) (hT : FoH V0 bV zs.length c2 N k ys a6 a7 a10 c6 c7 c10 TV V) (hA : ASame C p TV T) (h2 : Rd (Value.int .u8) V0 bV c2 zs) (b2 : ∀ x ∈ zs, 0 ≤ x ∧ x < 256)
    (h13 : VRel C p (.slice a13 2 c13) x) (o13 : Rd (Value.int .i64) V a13 c13 [forestN N ys, (N : Int)]) :
    GG Try.prog true RL (GL Rd0) (fun _ g _ => FinF g) S (G ((base 3).at ⟨T.setIfInBounds 65 (.tuple #[x, .bool true]), []⟩ [.inRegion opsF7 [7, 8, 9, 10, 11], .code restF8]) []) w := by
  have hsz : T.size = 264 := by rw [← hA.size]; exact hT.size
  obtain ⟨v0, v1, v2, v3, v4, v5, v6, v7, v8, v9, v10, v11, v12, v13, v14, v15, v16, v17, v18, v19, v20, v21, v22, v23, v24, v25, v26, v27, v28, v29, v30, v31, v32, v33, v34, v35, v36, v37, v38, v39, v40, v41, v42, v43, v44, v45, v46, v47, v48, v49, v50, v51, v52, v53, v54, v55, v56, v57, v58, v59, v60, v61, v62, v63, v64, v65, v66, v67, l, rfl⟩ := array68 T hsz
  clear hsz
  obtain ⟨O, hO⟩ : ∃ O, O = opsF7 := ⟨_, rfl⟩
  rw [← hO]
  simp only [opsF7, bodyF, dropC, Try.f3, Option.getD_some] at hO
  obtain ⟨KC, hK⟩ : ∃ K, K = restF8 := ⟨_, rfl⟩
  rw [← hK]
  have hK' := Lib.hid hK
  clear hK
  subst hO
  have hE' := Lib.hid hE
  clear hE
  have htp : VRel C p (.tuple #[.slice a13 2 c13, .bool true]) (.tuple #[x, .bool true]) := ASame.tup (asame_two rfl h13 (.bool true))
  have hA' := (((((hA.set htp 65).set htp 58).set h13 66).set (.bool true) 67).set h13 13).set (.bool true) 14
  have hs0 := hT.size
  have hT' : FoT bV zs.length c2 N ys a6 a7 a10 a13 c6 c7 c10 c13 ((((((TV.setIfInBounds 65 (.tuple #[.slice a13 2 c13, .bool true])).setIfInBounds 58 (.tuple #[.slice a13 2 c13, .bool true])).setIfInBounds 66 (.slice a13 2 c13)).setIfInBounds 67 (.bool true)).setIfInBounds 13 (.slice a13 2 c13)).setIfInBounds 14 (.bool true)) V := by
    have h := (((((hT.set 65 (by omega) (.tuple #[.slice a13 2 c13, .bool true])).set 58 (by omega) (.tuple #[.slice a13 2 c13, .bool true])).set 66 (by omega) (.slice a13 2 c13)).set 67 (by omega) (.bool true)).set 13 (by omega) (.slice a13 2 c13)).set 14 (by omega) (.bool true)
    exact ⟨h.size, h.t1, h.t5, h.t6, h.t7, h.t8, h.t9, h.t10, h.t11, h.t12, by rw [Array.getElem?_setIfInBounds_ne (by omega), Array.getElem?_setIfInBounds_self_of_lt (by simp only [Array.size_setIfInBounds]; omega)], by rw [Array.getElem?_setIfInBounds_self_of_lt (by simp only [Array.size_setIfInBounds]; omega)], h.o6.rd, h.o7, h.o10, o13⟩
  have h2' : Rd (Value.int .u8) V bV c2 zs := rd_old h2 hT.low.1 hT.low.2
  clear hA hT h2 htp hs0
  simp only [List.setIfInBounds_toArray, List.set_cons_succ, List.set_cons_zero] at hA' ⊢
  generalize ((((((TV.setIfInBounds 65 (.tuple #[.slice a13 2 c13, .bool true])).setIfInBounds 58 (.tuple #[.slice a13 2 c13, .bool true])).setIfInBounds 66 (.slice a13 2 c13)).setIfInBounds 67 (.bool true)).setIfInBounds 13 (.slice a13 2 c13)).setIfInBounds 14 (.bool true)) = TW at *
  refine stretchL (F := Vq C Rd0 S p V) (n := 60) (fun _ d h => h.at d) ?_
  u_op fl4 hV
  u_op fl4 hV
  u_op fl4 hV
  u_op fl4 hV
  u_op fl4 hV
  u_c stepG_region_end fl4 hV
  refine Goes.stop fun w₁ h₁ => ?_
  replace hV := fl4 hV h₁
  clear h₁
  rw [hK'.out]
  have hFT : ∀ T d, FoT bV zs.length c2 N ys a6 a7 a10 a13 c6 c7 c10 c13 TW (World.tp V T d) := fun T d => ⟨hT'.size, hT'.t1, hT'.t5, hT'.t6, hT'.t7, hT'.t8, hT'.t9, hT'.t10, hT'.t11, hT'.t12, hT'.t13, hT'.t14, (Low.tp V T d).rd hT'.o6, (Low.tp V T d).rd hT'.o7, (Low.tp V T d).rd hT'.o10, (Low.tp V T d).rd hT'.o13⟩
  refine codeL hC fnresF (by decide) restF8_ok (Q := FoEnd) (a := ⟨TW, []⟩) (fun e a w h => ⟨.inr h.1, h.2.1⟩) hV (fun T d => fo_tail hN1 hN2 hk hE'.out (hFT T d) (rd_old h2' (Low.tp V T d).1 (Low.tp V T d).2) b2) hA' rfl rfl ?_ ?_
  · rintro q a₁ a₁' V' S' w' ⟨e, _⟩
    cases e
  · rintro q a₁ a₁' V' S' w' todo ⟨_, _, g1, g2⟩ hs hd hle hS hv
    exact .stop fun _ _ => fin_of g1 g2 hs hd
end
end Go.Proofs.Ytfecdmenliohhaa
