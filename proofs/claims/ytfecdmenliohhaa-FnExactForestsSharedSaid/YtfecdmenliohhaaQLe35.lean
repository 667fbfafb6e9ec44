/- FnExactForestsShared: goroutine 0's own stretches between its two calls of ForestsShared. (Printed by mkLeB.py.). -/
import Derived.Test.YtfecdmenliohhaaQLe33
import Derived.Test.YtfecdmenliohhaaQLe34
set_option linter.unusedVariables false
set_option linter.unusedSimpArgs false
set_option linter.unusedSimpArgs false
set_option linter.unusedVariables false
namespace Go.Proofs.Ytfecdmenliohhaa
open Go Go.Conc Go.ConcN Go.RowKit Go.Conc.Lib Go.ConcR.Gen Go.ConcN.Gen
open Go.ConcR (Payload DC0 WgAt)

/-- Before the marks on the result. -/
structure LeT (n workers : Int) (la : Option Addr) (lc m : Nat) (v8 v11 : Value) (ok : Bool) (T : Array Value) : Prop where
  size : T.size = 106
  t0 : T[0]? = some (.int .i64 n)
  t1 : T[1]? = some (.slice la m lc)
  t2 : T[2]? = some (.int .i64 workers)
  t8 : T[8]? = some v8
  t9 : T[9]? = some (.bool ok)
  t11 : T[11]? = some v11
theorem Own.base_le {V : World} {base : Nat} {a : Option Addr} {c : Nat} {xs : List Int} (h : Own (Value.int .i64) 2 V base a c xs) : ∀ x, a = some x → base ≤ x.block ∧ x.block < V.heap.size := fun x hx => h.blk x hx
def AtT (C : Cx) (V0 : World) (n workers : Int) (la aV : Option Addr) (lc : Nat) (hsV : List Hd) (xss : List (List Int)) (Rd0 : Nat → Prop) (S : OwnB) (g : Goroutine) (w : World) : Prop :=
  ∃ p V T v8 v11 b8 a8 c8 b11 a11 c11, Vq C Rd0 S p V w ∧ LeG C V0 la aV lc hsV xss p V ∧ LeT n workers la lc xss.length v8 v11 (fsOk n xss workers) T ∧ LeR C p V (fsR n xss workers) b8 a8 c8 v8 ∧ LeR C p V (fsR n xss workers) b11 a11 c11 v11 ∧
    (∀ x, a8 = some x → x.block < b11) ∧ V0.heap.size ≤ b11 ∧ g = G ((base 5).at ⟨T, []⟩ [.code restE16]) []
section
variable {C : Cx} {Rd0 : Nat → Prop} {S : OwnB} {p : Ren} {V0 V w : World} {la aV : Option Addr} {lc : Nat} {hsV : List Hd} {xss : List (List Int)} {n workers : Int}
set_option maxRecDepth 100000 in
set_option maxHeartbeats 16000000 in
theorem leB {T : Array Value} {v8 v10 v11 : Value} {b8 b10 h10 b11 c8 c10 c11 : Nat} {a8 a10 a11 : Option Addr} {hs10 : List Hd} (hF : Vq C Rd0 S p V w) (hG : LeG C V0 la aV lc hsV xss p V) (hT : LeA n workers la lc xss.length v8 v10 (fsOk n xss workers) T) (hR : LeR C p V (fsR n xss workers) b8 a8 c8 v8) (hX : LeX C p V xss b10 h10 a10 c10 hs10 v10)
    (h8 : ∀ x, a8 = some x → x.block < b10) (hz : V0.heap.size ≤ b10) (hn : size2 xss ≤ 1048576) (hQ : LeR C p V (fsR n xss workers) b11 a11 c11 v11) (hb : h10 ≤ b11) :
    GG Try.prog true RL (GL Rd0) (AtT C V0 n workers la aV lc hsV xss Rd0) S (G ((base 5).at ⟨T.setIfInBounds 37 (.tuple #[v11, .bool (fsOk n xss workers)]), []⟩ [.inRegion opsE7 [4, 5, 6, 7, 8], .code restE7]) []) w := by
  obtain ⟨hT, t0, t1, t2, t8, t9, t10⟩ := hT
  obtain ⟨u8, e8⟩ : ∃ x, x = v8 := ⟨_, rfl⟩
  obtain ⟨u10, e10⟩ : ∃ x, x = v10 := ⟨_, rfl⟩
  obtain ⟨u11, e11⟩ : ∃ x, x = v11 := ⟨_, rfl⟩
  rw [← e8] at t8 hR
  rw [← e10] at t10 hX
  rw [← e11] at hQ ⊢
  clear e8 e10 e11
  clear v8 v10 v11
  obtain ⟨v0, v1, v2, v3, v4, v5, v6, v7, v8, v9, v10, v11, v12, v13, v14, v15, v16, v17, v18, v19, v20, v21, v22, v23, v24, v25, v26, v27, v28, v29, v30, v31, v32, v33, v34, v35, v36, v37, v38, v39, v40, v41, v42, v43, v44, v45, v46, v47, v48, v49, v50, v51, v52, v53, v54, v55, v56, v57, v58, v59, v60, v61, v62, v63, v64, v65, v66, v67, v68, v69, v70, v71, v72, v73, v74, v75, v76, v77, v78, v79, v80, v81, v82, v83, v84, v85, v86, v87, v88, v89, v90, v91, v92, v93, v94, v95, v96, v97, v98, v99, v100, v101, v102, v103, v104, v105, rfl⟩ := array106 T hT
  simp only [List.getElem?_toArray, List.getElem?_cons_zero, List.getElem?_cons_succ, Option.some.injEq] at t0 t1 t2 t8 t9 t10
  subst t0 t1 t2 t8 t9 t10
  clear hT
  have evq := fun x y w => (evB x y w).2
  simp only [opsE7, restE7, Try.f5, List.setIfInBounds_toArray, List.set_cons_succ, List.set_cons_zero]
  refine stretchL (F := Vq C Rd0 S p V) (n := 60) (fun _ d h => h.at d) ?_
  u_op fl4 hF
  u_op fl4 hF
  u_op fl4 hF
  u_op fl4 hF
  u_op fl4 hF
  u_c stepG_region_end fl4 hF
  u_c stepG_seq fl4 hF
  u_c stepG_seq fl4 hF
  u_reg fl4 hF
  u_op fl4 hF
  u_op fl4 hF
  refine Goes.stop fun w₁ h₁ => ?_
  replace hF := fl4 hF h₁
  clear h₁
  refine qEq (xs := fsR n xss workers) (a1 := a11) (a2 := a8) (c1 := c11) (c2 := c8) hG.cq rfl rfl (by decide) rfl (by simp [Act.eval]) hF hQ.r hR.r hQ.o.rd hR.o.rd ?_
  clear hF
  intro p1 V1 S1 wa hle1 hS1 hl1 hF
  replace hG := hG.go hle1 hl1
  replace hR := hR.go hle1 hl1
  replace hQ := hQ.go hle1 hl1
  replace hX := hX.go hle1 hl1
  walk_nrm
  refine stretchL (F := Vq C Rd0 S1 p1 V1) (n := 60) (fun _ d h => h.at d) ?_
  u_op fl4 hF
  u_op fl4 hF
  u_op fl4 hF
  u_op fl4 hF
  u_op fl4 hF
  u_op fl4 hF
  u_c stepG_region_end fl4 hF
  u_cond false fl4 hF
  u_c stepG_skip fl4 hF
  u_c stepG_seq fl4 hF
  u_c stepG_seq fl4 hF
  u_reg fl4 hF
  u_op fl4 hF
  u_op fl4 hF
  refine Goes.stop fun w₂ h₁ => ?_
  replace hF := fl4 hF h₁
  clear h₁
  refine qTo hG.cq rfl rfl (by decide) rfl (by simp [Act.eval]) hF hG.r1 hG.rd hn ?_
  clear hF
  intro p2 V2 S2 wb a51 c51 hs51 v51 hle2 hS2 hl2 hF ho51 hv51
  replace hG := hG.go hle2 hl2
  replace hR := hR.go hle2 hl2
  replace hQ := hQ.go hle2 hl2
  replace hX := hX.go hle2 hl2
  walk_nrm
  refine qEqq (xss := xss) hG.cq rfl rfl (by decide) rfl (by simp [Act.eval]) hF hX.r hv51 hX.o.rd ho51.rd ?_
  clear hF ho51 hv51
  intro p3 V3 S3 wc hle3 hS3 hl3 hF
  replace hG := hG.go hle3 hl3
  replace hR := hR.go hle3 hl3
  replace hQ := hQ.go hle3 hl3
  replace hX := hX.go hle3 hl3
  walk_nrm
  refine stretchL (F := Vq C Rd0 S3 p3 V3) (n := 60) (fun _ d h => h.at d) ?_
  u_op fl4 hF
  u_c stepG_region_end fl4 hF
  u_cond false fl4 hF
  u_c stepG_skip fl4 hF
  u_c stepG_seq fl4 hF
  u_reg fl4 hF
  u_op fl4 hF
  u_c stepG_region_end fl4 hF
  u_c stepG_seq fl4 hF
  u_reg fl4 hF
  u_op fl4 hF
  u_op fl4 hF
  refine Goes.stop fun w₃ h₁ => ?_
  replace hF := fl4 hF h₁
  clear h₁
  refine qMkk (xss := xss) hG.cq rfl rfl (by decide) rfl (by simp [Act.eval]) hF hX.r hX.o hn hX.k ?_
  clear hF
  intro p4 V4 S4 wd r hr0 hle4 hS4 hl4 hF
  have q1 : decide (r < 0) = false := decide_eq_false (by omega)
  have hk := hX.b
  replace hG : LeG C V0 la aV lc hsV xss p4 V4 := ⟨hG.cq, hG.r1.mono hle4, hG.d1, Nat.le_trans hG.low.1 hl4.1, fun b hb => (hl4.2 b (Nat.lt_of_lt_of_le hb hG.low.1) (.inl (by omega))).trans (hG.low.2 b hb)⟩
  replace hR : LeR C p4 V4 (fsR n xss workers) b8 a8 c8 _ := ⟨hR.r.mono hle4, hR.o.heap fun x hx => hl4.2 _ (hR.o.blk x hx).2 (.inl (h8 x hx))⟩
  replace hQ : LeR C p4 V4 (fsR n xss workers) b11 a11 c11 _ := ⟨hQ.r.mono hle4, hQ.o.heap fun x hx => hl4.2 _ (hQ.o.blk x hx).2 (.inr (by have := (hQ.o.blk x hx).1; omega))⟩
  clear hX
  walk_nrm
  refine stretchL (F := Vq C Rd0 S4 p4 V4) (n := 60) (fun _ d h => h.at d) ?_
  u_op fl4 hF
  u_c stepG_region_end fl4 hF
  u_c stepG_seq fl4 hF
  u_c stepG_seq fl4 hF
  u_reg fl4 hF
  u_op fl4 hF
  u_op fl4 hF
  u_op fl4 hF
  u_op fl4 hF
  u_op fl4 hF
  refine Goes.stop fun w₄ h₁ => ?_
  replace hF := fl4 hF h₁
  clear h₁
  refine qEq (xs := fsR n xss workers) (a1 := a11) (a2 := a8) (c1 := c11) (c2 := c8) hG.cq rfl rfl (by decide) rfl (by simp [Act.eval]) hF hQ.r hR.r hQ.o.rd hR.o.rd ?_
  clear hF
  intro p5 V5 S5 we hle5 hS5 hl5 hF
  replace hG := hG.go hle5 hl5
  replace hR := hR.go hle5 hl5
  replace hQ := hQ.go hle5 hl5
  walk_nrm
  refine stretchL (F := Vq C Rd0 S5 p5 V5) (n := 60) (fun _ d h => h.at d) ?_
  u_op fl4 hF
  u_op fl4 hF
  u_op fl4 hF
  u_op fl4 hF
  u_op fl4 hF
  u_op fl4 hF
  u_op fl4 hF
  u_c stepG_region_end fl4 hF
  u_cond false fl4 hF
  u_c stepG_skip fl4 hF
  refine Goes.stop fun w₅ h₁ => ?_
  replace hF := fl4 hF h₁
  clear h₁
  exact .stop fun w₆ h₆ => ⟨p5, V5, _, _, _, b8, a8, c8, b11, a11, c11, by obtain ⟨d, rfl⟩ := h₆; exact hF.at d, hG, ⟨rfl, rfl, rfl, rfl, rfl, rfl, rfl⟩, hR, hQ, fun x hx => by have := h8 x hx; omega, by omega, rfl⟩
end
end Go.Proofs.Ytfecdmenliohhaa
