/- FnForestsSharedOfAll behind its two calls, to the return. (Printed by mkLaB.py.). -/
import Derived.Test.YtfecdmenliohhaaQLe32
set_option linter.unusedVariables false
set_option linter.unusedSimpArgs false
set_option linter.unusedSimpArgs false
set_option linter.unusedVariables false
namespace Go.Proofs.Ytfecdmenliohhaa
open Go Go.Conc Go.ConcN Go.RowKit Go.Conc.Lib Go.ConcR.Gen Go.ConcN.Gen
open Go.ConcR (Payload DC0 WgAt)

theorem evB (x y : Bool) (w : World) : (binOp BinOp.eql 4 (Value.bool x) (Value.bool y)).events Try.prog w #[] = #[] ∧ (binOp BinOp.neq 4 (Value.bool x) (Value.bool y)).events Try.prog w #[] = #[] := by
  cases x <;> cases y <;> exact ⟨by kernel_rfl, by kernel_rfl⟩
/-- What is known; the world is that one but for the tape's place. -/
def FL (w0 : World) (S : OwnB) (w' w : World) : Prop := FSt w0 [] S w ∧ ∃ d, w = w'.at d
theorem FL.at {w0 : World} {S : OwnB} {w' w : World} (h : FL w0 S w' w) (d : Nat) : FL w0 S w' (w.at d) := by
  obtain ⟨h1, d', rfl⟩ := h
  exact ⟨h1.at d, d, rfl⟩
theorem FL.may {w0 : World} {Rd0 : Nat → Prop} {S : OwnB} {w' w : World} {a : Option Addr} {c : Nat} {xs : List Int} (h : FL w0 S w' w) (k : MayRd Rd0 S w' a c xs) : MayRd Rd0 S w a c xs := by
  obtain ⟨h1, d', rfl⟩ := h
  exact k.fs (fun _ h => h) (Nat.le_refl _) fun _ _ => rfl
theorem fsOk_eq {n workers hands : Int} {xss : List (List Int)} (h1 : inR workers 1 8 = true) (h2 : inR hands 1 8 = true) : fsOk n xss hands = fsOk n xss workers := by simp [fsOk, h1, h2]
theorem inR18 {x : Int} (h1 : ¬ x < 1) (h2 : ¬ 8 < x) : inR x 1 8 = true := by rw [inR_eq]; omega
section
variable {w0 : World} {Rd0 : Nat → Prop} {S : OwnB} {la : Option Addr} {lc : Nat} {hs : List Hd} {xss : List (List Int)} {n workers hands : Int} {w : World} {a1 a2 : Option Addr} {c1 c2 : Nat}
noncomputable def restL6 : Code := match Try.f4.body with | some (.seq _ (.seq _ (.seq _ (.seq _ (.seq _ (.seq _ c)))))) => c | _ => .skip
/-- In front of the workers' bounds. -/
structure LaC (xss : List (List Int)) (n workers hands : Int) (a1 a2 : Option Addr) (c1 c2 : Nat) (T : Array Value) : Prop where
  size : T.size = 77
  t2 : T[2]? = some (.int .i64 workers)
  t3 : T[3]? = some (.int .i64 hands)
  t9 : T[9]? = some (.slice a1 (fsR n xss workers).length c1)
  t10 : T[10]? = some (.bool (fsOk n xss workers))
  t11 : T[11]? = some (.slice a2 (fsR n xss hands).length c2)
  t12 : T[12]? = some (.bool (fsOk n xss hands))
set_option maxRecDepth 100000 in
set_option maxHeartbeats 8000000 in
theorem laD (hRl : ∀ b, Rd0 b → b < w0.heap.size) {T : Array Value} (hT : LaC xss n workers hands a1 a2 c1 c2 T) (hx : MayRd Rd0 S w a1 c1 (fsR n xss workers)) (hy : MayRd Rd0 S w a2 c2 (fsR n xss hands)) (hF : FSt w0 [] S w) :
    GG Try.prog true RL (GL Rd0) (fun _ g _ => Fin4 g) S (G ((base 4).at ⟨T, []⟩ [.code restL6]) []) w := by
  obtain ⟨hT, h2, h3, h9, h10, h11, h12⟩ := hT
  have eR : ∀ x, fsR n xss x = if fsOk n xss x then fsN n xss else [] := fun _ => rfl
  rw [eR] at h9 h11 hx hy
  have hEq : inR workers 1 8 = true → inR hands 1 8 = true → fsOk n xss hands = fsOk n xss workers := fsOk_eq
  obtain ⟨e1, ee1⟩ : ∃ x, x = fsOk n xss workers := ⟨_, rfl⟩
  obtain ⟨e2, ee2⟩ : ∃ x, x = fsOk n xss hands := ⟨_, rfl⟩
  rw [← ee1] at h9 h10 hx
  rw [← ee2] at h11 h12 hy
  rw [← ee1, ← ee2] at hEq
  clear ee1 ee2 eR
  obtain ⟨R, eR⟩ : ∃ R, R = fsN n xss := ⟨_, rfl⟩
  rw [← eR] at h9 h11 hx hy
  clear eR
  obtain ⟨v0, v1, v2, v3, v4, v5, v6, v7, v8, v9, v10, v11, v12, v13, v14, v15, v16, v17, v18, v19, v20, v21, v22, v23, v24, v25, v26, v27, v28, v29, v30, v31, v32, v33, v34, v35, v36, v37, v38, v39, v40, v41, v42, v43, v44, v45, v46, v47, v48, v49, v50, v51, v52, v53, v54, v55, v56, v57, v58, v59, v60, v61, v62, v63, v64, v65, v66, v67, v68, v69, v70, v71, v72, v73, v74, v75, v76, rfl⟩ := array77 T hT
  simp only [List.getElem?_toArray, List.getElem?_cons_zero, List.getElem?_cons_succ, Option.some.injEq] at h2 h3 h9 h10 h11 h12
  subst h2 h3 h9 h10 h11 h12
  clear hT
  simp only [restL6, Try.f4]
  have evq := fun x y w => (evB x y w).1
  obtain ⟨w', ew'⟩ : ∃ w', w' = w := ⟨_, rfl⟩
  rw [← ew'] at hx hy
  replace hF : FL w0 S w' w := ⟨hF, w.drawn, by rw [ew']; rfl⟩
  clear ew'
  refine stretchL (F := FL w0 S w') (n := 60) (fun _ d h => h.at d) ?_
  u_c stepG_seq fl4 hF
  u_c stepG_seq fl4 hF
  u_reg fl4 hF
  refine Goes.stop fun w₁ h₁ => ?_
  replace hF := fl4 hF h₁
  clear h₁
  by_cases q1 : workers < 1
  · replace q1 : decide (workers < 1) = true := decide_eq_true q1
    refine stretchL (F := FL w0 S w') (n := 60) (fun _ d h => h.at d) ?_
    u_op fl4 hF
    u_op fl4 hF
    u_op fl4 hF
    u_skip fl4 hF
    u_skip fl4 hF
    u_op fl4 hF
    u_op fl4 hF
    u_skip fl4 hF
    u_skip fl4 hF
    u_op fl4 hF
    u_op fl4 hF
    u_skip fl4 hF
    u_skip fl4 hF
    u_op fl4 hF
    u_c stepG_region_end fl4 hF
    u_cond true fl4 hF
    u_c stepG_seq fl4 hF
    u_reg fl4 hF
    u_op fl4 hF
    u_c stepG_region_end fl4 hF
    u_c stepG_ret' fl4 hF
    refine Goes.stop fun w₂ h₁ => ?_
    replace hF := fl4 hF h₁
    clear h₁
    exact .stop fun _ _ => ⟨_, _, rfl, rfl, rfl⟩
  by_cases q2 : 8 < workers
  · replace q1 : decide (workers < 1) = false := decide_eq_false q1
    replace q2 : decide (8 < workers) = true := decide_eq_true q2
    refine stretchL (F := FL w0 S w') (n := 60) (fun _ d h => h.at d) ?_
    u_op fl4 hF
    u_op fl4 hF
    u_op fl4 hF
    u_op fl4 hF
    u_op fl4 hF
    u_op fl4 hF
    u_op fl4 hF
    u_skip fl4 hF
    u_skip fl4 hF
    u_op fl4 hF
    u_op fl4 hF
    u_skip fl4 hF
    u_skip fl4 hF
    u_op fl4 hF
    u_c stepG_region_end fl4 hF
    u_cond true fl4 hF
    u_c stepG_seq fl4 hF
    u_reg fl4 hF
    u_op fl4 hF
    u_c stepG_region_end fl4 hF
    u_c stepG_ret' fl4 hF
    refine Goes.stop fun w₂ h₁ => ?_
    replace hF := fl4 hF h₁
    clear h₁
    exact .stop fun _ _ => ⟨_, _, rfl, rfl, rfl⟩
  by_cases q3 : hands < 1
  · replace q1 : decide (workers < 1) = false := decide_eq_false q1
    replace q2 : decide (8 < workers) = false := decide_eq_false q2
    replace q3 : decide (hands < 1) = true := decide_eq_true q3
    refine stretchL (F := FL w0 S w') (n := 60) (fun _ d h => h.at d) ?_
    u_op fl4 hF
    u_op fl4 hF
    u_op fl4 hF
    u_op fl4 hF
    u_op fl4 hF
    u_op fl4 hF
    u_op fl4 hF
    u_op fl4 hF
    u_op fl4 hF
    u_op fl4 hF
    u_op fl4 hF
    u_skip fl4 hF
    u_skip fl4 hF
    u_op fl4 hF
    u_c stepG_region_end fl4 hF
    u_cond true fl4 hF
    u_c stepG_seq fl4 hF
    u_reg fl4 hF
    u_op fl4 hF
    u_c stepG_region_end fl4 hF
    u_c stepG_ret' fl4 hF
    refine Goes.stop fun w₂ h₁ => ?_
    replace hF := fl4 hF h₁
    clear h₁
    exact .stop fun _ _ => ⟨_, _, rfl, rfl, rfl⟩
  by_cases q4 : 8 < hands
  · replace q1 : decide (workers < 1) = false := decide_eq_false q1
    replace q2 : decide (8 < workers) = false := decide_eq_false q2
    replace q3 : decide (hands < 1) = false := decide_eq_false q3
    replace q4 : decide (8 < hands) = true := decide_eq_true q4
    refine stretchL (F := FL w0 S w') (n := 60) (fun _ d h => h.at d) ?_
    u_op fl4 hF
    u_op fl4 hF
    u_op fl4 hF
    u_op fl4 hF
    u_op fl4 hF
    u_op fl4 hF
    u_op fl4 hF
    u_op fl4 hF
    u_op fl4 hF
    u_op fl4 hF
    u_op fl4 hF
    u_op fl4 hF
    u_op fl4 hF
    u_op fl4 hF
    u_c stepG_region_end fl4 hF
    u_cond true fl4 hF
    u_c stepG_seq fl4 hF
    u_reg fl4 hF
    u_op fl4 hF
    u_c stepG_region_end fl4 hF
    u_c stepG_ret' fl4 hF
    refine Goes.stop fun w₂ h₁ => ?_
    replace hF := fl4 hF h₁
    clear h₁
    exact .stop fun _ _ => ⟨_, _, rfl, rfl, rfl⟩
  obtain rfl : e2 = e1 := hEq (inR18 q1 q2) (inR18 q3 q4)
  clear hEq
  replace q1 : decide (workers < 1) = false := decide_eq_false q1
  replace q2 : decide (8 < workers) = false := decide_eq_false q2
  replace q3 : decide (hands < 1) = false := decide_eq_false q3
  replace q4 : decide (8 < hands) = false := decide_eq_false q4
  refine stretchL (F := FL w0 S w') (n := 60) (fun _ d h => h.at d) ?_
  u_op fl4 hF
  u_op fl4 hF
  u_op fl4 hF
  u_op fl4 hF
  u_op fl4 hF
  u_op fl4 hF
  u_op fl4 hF
  u_op fl4 hF
  u_op fl4 hF
  u_op fl4 hF
  u_op fl4 hF
  u_op fl4 hF
  u_op fl4 hF
  u_op fl4 hF
  u_c stepG_region_end fl4 hF
  u_cond false fl4 hF
  u_c stepG_skip fl4 hF
  u_c stepG_seq fl4 hF
  u_reg fl4 hF
  refine Goes.stop fun w₂ h₁ => ?_
  replace hF := fl4 hF h₁
  clear h₁
  cases e2 with
  | false =>
    simp only [Bool.false_eq_true, if_false] at hx hy ⊢
    refine stretchL (F := FL w0 S w') (n := 60) (fun _ d h => h.at d) ?_
    u_op fl4 hF
    u_op fl4 hF
    u_op fl4 hF
    u_op fl4 hF
    u_op fl4 hF
    u_op fl4 hF
    u_op fl4 hF
    u_skip fl4 hF
    u_skip fl4 hF
    u_skip fl4 hF
    u_op fl4 hF
    u_op fl4 hF
    u_op fl4 hF
    u_c stepG_region_end fl4 hF
    u_c stepG_ret' fl4 hF
    refine Goes.stop fun w₃ h₁ => ?_
    replace hF := fl4 hF h₁
    clear h₁
    exact .stop fun _ _ => ⟨_, _, rfl, rfl, rfl⟩
  | true =>
    simp only [if_true] at hx hy ⊢
    refine stretchL (F := FL w0 S w') (n := 60) (fun _ d h => h.at d) ?_
    u_op fl4 hF
    u_op fl4 hF
    u_op fl4 hF
    u_op fl4 hF
    u_op fl4 hF
    u_op fl4 hF
    u_op fl4 hF
    u_op fl4 hF
    u_op fl4 hF
    refine Goes.stop fun w₃ h₁ => ?_
    replace hF := fl4 hF h₁
    clear h₁
    refine callSame (R := R) (a1 := a1) (a2 := a2) (c1 := c1) (c2 := c2) rfl rfl (by decide) rfl (by simp [Act.eval]) hF.1 hRl (hF.may hx) (hF.may hy) ?_
    clear hF
    intro S₂ wa hm2 hF _ _
    walk_nrm
    refine stretchL (F := FSt w0 [] S₂) (n := 60) (fun _ d h => h.at d) ?_
    u_op fl4 hF
    u_op fl4 hF
    u_op fl4 hF
    u_c stepG_region_end fl4 hF
    u_c stepG_ret' fl4 hF
    refine Goes.stop fun w₄ h₁ => ?_
    replace hF := fl4 hF h₁
    clear h₁
    exact .stop fun _ _ => ⟨_, _, rfl, rfl, rfl⟩
set_option maxRecDepth 100000 in
set_option maxHeartbeats 8000000 in
theorem laC (hRl : ∀ b, Rd0 b → b < w0.heap.size) (h0 : Rd2 (Value.int .i64) w0 la lc hs xss) (hin : ∀ b, inL la hs xss [] b → Rd0 b) {T : Array Value} (hT : LaA la lc xss.length n workers hands T) (h9 : T[9]? = some (.slice a1 (fsR n xss workers).length c1)) (h10 : T[10]? = some (.bool (fsOk n xss workers)))
    (hx : MayRd Rd0 S w a1 c1 (fsR n xss workers)) (hy : MayRd Rd0 S w a2 c2 (fsR n xss hands)) (hF : FSt w0 [] S w) :
    GG Try.prog true RL (GL Rd0) (fun _ g _ => Fin4 g) S (G ((base 4).at ⟨T.setIfInBounds 29 (.tuple #[.slice a2 (fsR n xss hands).length c2, .bool (fsOk n xss hands)]), []⟩ [.inRegion opsL4 [4, 5, 6, 7, 8], .code restL4]) []) w := by
  obtain ⟨hT, t0, t1, t2, t3⟩ := hT
  obtain ⟨v0, v1, v2, v3, v4, v5, v6, v7, v8, v9, v10, v11, v12, v13, v14, v15, v16, v17, v18, v19, v20, v21, v22, v23, v24, v25, v26, v27, v28, v29, v30, v31, v32, v33, v34, v35, v36, v37, v38, v39, v40, v41, v42, v43, v44, v45, v46, v47, v48, v49, v50, v51, v52, v53, v54, v55, v56, v57, v58, v59, v60, v61, v62, v63, v64, v65, v66, v67, v68, v69, v70, v71, v72, v73, v74, v75, v76, rfl⟩ := array77 T hT
  simp only [List.getElem?_toArray, List.getElem?_cons_zero, List.getElem?_cons_succ, Option.some.injEq] at t0 t1 t2 t3 h9 h10
  subst t0 t1 t2 t3 h9 h10
  clear hT
  simp only [opsL4, restL4, Try.f4, List.setIfInBounds_toArray, List.set_cons_succ, List.set_cons_zero]
  have evq := fun x y w => (evB x y w).2
  obtain ⟨w', ew'⟩ : ∃ w', w' = w := ⟨_, rfl⟩
  rw [← ew'] at hx hy
  replace hF : FL w0 S w' w := ⟨hF, w.drawn, by rw [ew']; rfl⟩
  clear ew'
  refine stretchL (F := FL w0 S w') (n := 60) (fun _ d h => h.at d) ?_
  u_op fl4 hF
  u_op fl4 hF
  u_op fl4 hF
  u_op fl4 hF
  u_op fl4 hF
  u_c stepG_region_end fl4 hF
  u_c stepG_seq fl4 hF
  u_reg fl4 hF
  u_op fl4 hF
  u_op fl4 hF
  u_op fl4 hF
  refine Goes.stop fun w₁ h₁ => ?_
  replace hF := fl4 hF h₁
  clear h₁
  have eR : (if fsOk n xss workers = true then fsN n xss else []) = fsR n xss workers := rfl
  refine callSpecFS (n := n) (workers := workers) rfl rfl (by decide) rfl (by simp [Act.eval]) hF.1 hRl h0 hin ?_
  replace hx := hF.may hx
  replace hy := hF.may hy
  clear hF
  intro S₁ wa a3 c3 hm hF hsm hsz hz
  replace hx := hx.fs hm hsz hsm
  replace hy := hy.fs hm hsz hsm
  rw [eR] at hz ⊢
  walk_nrm
  obtain ⟨w', ew'⟩ : ∃ w', w' = wa := ⟨_, rfl⟩
  rw [← ew'] at hx hy hz
  replace hF : FL w0 S₁ w' wa := ⟨hF, wa.drawn, by rw [ew']; rfl⟩
  clear ew' hsm hsz
  cases e : fsOk n xss workers with
  | false =>
    refine stretchL (F := FL w0 S₁ w') (n := 60) (fun _ d h => h.at d) ?_
    u_op fl4 hF
    u_op fl4 hF
    u_op fl4 hF
    u_op fl4 hF
    u_op fl4 hF
    u_c stepG_region_end fl4 hF
    u_c stepG_seq fl4 hF
    u_c stepG_seq fl4 hF
    u_reg fl4 hF
    u_op fl4 hF
    u_op fl4 hF
    u_op fl4 hF
    u_op fl4 hF
    u_op fl4 hF
    u_op fl4 hF
    u_skip fl4 hF
    u_skip fl4 hF
    u_skip fl4 hF
    u_skip fl4 hF
    u_op fl4 hF
    u_op fl4 hF
    u_c stepG_region_end fl4 hF
    u_cond false fl4 hF
    u_c stepG_skip fl4 hF
    refine Goes.stop fun w₂ h₁ => ?_
    replace hF := fl4 hF h₁
    clear h₁
    exact laD hRl ⟨rfl, rfl, rfl, rfl, (by rw [e]; rfl), rfl, rfl⟩ (hF.may hx) (hF.may hy) hF.1
  | true =>
    refine stretchL (F := FL w0 S₁ w') (n := 60) (fun _ d h => h.at d) ?_
    u_op fl4 hF
    u_op fl4 hF
    u_op fl4 hF
    u_op fl4 hF
    u_op fl4 hF
    u_c stepG_region_end fl4 hF
    u_c stepG_seq fl4 hF
    u_c stepG_seq fl4 hF
    u_reg fl4 hF
    u_op fl4 hF
    u_op fl4 hF
    u_op fl4 hF
    u_op fl4 hF
    u_op fl4 hF
    u_op fl4 hF
    u_op fl4 hF
    u_op fl4 hF
    refine Goes.stop fun w₂ h₁ => ?_
    replace hF := fl4 hF h₁
    clear h₁
    refine callSame (R := fsR n xss workers) (a1 := a1) (a2 := a3) (c1 := c1) (c2 := c3) rfl rfl (by decide) rfl (by simp [Act.eval]) hF.1 hRl (hF.may hx) (hF.may hz) ?_
    replace hx := hF.may hx
    replace hy := hF.may hy
    clear hF
    intro S₂ wb hm2 hF hsm2 hsz2
    replace hx := hx.fs hm2 hsz2 hsm2
    replace hy := hy.fs hm2 hsz2 hsm2
    walk_nrm
    obtain ⟨w', ew'⟩ : ∃ w', w' = wb := ⟨_, rfl⟩
    rw [← ew'] at hx hy
    replace hF : FL w0 S₂ w' wb := ⟨hF, wb.drawn, by rw [ew']; rfl⟩
    clear ew' hsm2 hsz2
    refine stretchL (F := FL w0 S₂ w') (n := 60) (fun _ d h => h.at d) ?_
    u_op fl4 hF
    u_op fl4 hF
    u_op fl4 hF
    u_c stepG_region_end fl4 hF
    u_cond false fl4 hF
    u_c stepG_skip fl4 hF
    refine Goes.stop fun w₃ h₁ => ?_
    replace hF := fl4 hF h₁
    clear h₁
    exact laD hRl ⟨rfl, rfl, rfl, rfl, (by rw [e]; rfl), rfl, rfl⟩ (hF.may hx) (hF.may hy) hF.1
end
end Go.Proofs.Ytfecdmenliohhaa
