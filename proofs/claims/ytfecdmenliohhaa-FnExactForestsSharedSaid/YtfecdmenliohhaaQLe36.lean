/- FnExactForestsShared: goroutine 0's own stretches: the marks on the result; behind the second call. (Printed by mkLeC.py.). -/
import Derived.Test.YtfecdmenliohhaaQLe35
set_option linter.unusedVariables false
set_option linter.unusedSimpArgs false
set_option linter.unusedSimpArgs false
set_option linter.unusedVariables false
namespace Go.Proofs.Ytfecdmenliohhaa
open Go Go.Conc Go.ConcN Go.RowKit Go.Conc.Lib Go.ConcR.Gen Go.ConcN.Gen
open Go.ConcR (Payload DC0 WgAt)

/-- At the second call. -/
structure LeU (v8 v11 : Value) (z : Int) (ok : Bool) (T : Array Value) : Prop where
  size : T.size = 106
  t8 : T[8]? = some v8
  t9 : T[9]? = some (.bool ok)
  t11 : T[11]? = some v11
  t14 : T[14]? = some (.int .i64 z)
def AtU (C : Cx) (V0 : World) (n workers : Int) (la aV : Option Addr) (lc : Nat) (hsV : List Hd) (xss : List (List Int)) (Rd0 : Nat → Prop) (S : OwnB) (g : Goroutine) (w : World) : Prop :=
  ∃ p V T v8 v11 v84 b8 a8 c8 b11 a11 c11 a84 c84 hs84, Vq C Rd0 S p V w ∧ LeG C V0 la aV lc hsV xss p V ∧ LeU v8 v11 ((1 + (fsR n xss workers).length : Nat) : Int) (fsOk n xss workers) T ∧ LeR C p V (fsR n xss workers) b8 a8 c8 v8 ∧ LeR C p V (marks (fun k => (k : Int)) 1 (fsR n xss workers).length) b11 a11 c11 v11 ∧
    VRel C p (.slice a84 xss.length c84) v84 ∧ Rd2 (Value.int .i64) V a84 c84 hs84 xss ∧ T[82]? = some (.int .i64 n) ∧ T[84]? = some v84 ∧ T[85]? = some (.int .i64 workers) ∧ g = G ((base 5).at ⟨T, []⟩ [.inRegion opsE24 [4, 5, 6, 7, 8, 9], .code restE24]) []
theorem LeR.rm {C : Cx} {p : Ren} {V : World} {m : Nat → Int} {k k0 base : Nat} {a : Option Addr} {c : Nat} {v : Value} (h : LeR C p V (marks m k0 k) base a c v) : VRel C p (.slice a k c) v := by
  have := h.r
  rw [marks_length] at this
  exact this
theorem fsR_le {n workers : Int} {xss : List (List Int)} : (fsR n xss workers).length ≤ 8 := by
  unfold fsR
  split
  · next h =>
    simp only [fsOk, Bool.and_eq_true, decide_eq_true_eq] at h
    simp only [fsN, List.length_map]
    exact h.1.1.2
  · simp
section
variable {C : Cx} {Rd0 : Nat → Prop} {S : OwnB} {p : Ren} {V0 V w : World} {la aV : Option Addr} {lc : Nat} {hsV : List Hd} {xss : List (List Int)} {n workers : Int}
set_option maxRecDepth 100000 in
set_option maxHeartbeats 16000000 in
theorem leC {T : Array Value} {v8 v11 : Value} {b8 b11 c8 c11 : Nat} {a8 a11 : Option Addr} (hF : Vq C Rd0 S p V w) (hG : LeG C V0 la aV lc hsV xss p V) (hT : LeT n workers la lc xss.length v8 v11 (fsOk n xss workers) T) (hR : LeR C p V (fsR n xss workers) b8 a8 c8 v8)
    (h8 : ∀ x, a8 = some x → x.block < b11) (hz : V0.heap.size ≤ b11) (hn : size2 xss ≤ 1048576) (hQ : LeR C p V (fsR n xss workers) b11 a11 c11 v11) :
    GG Try.prog true RL (GL Rd0) (AtU C V0 n workers la aV lc hsV xss Rd0) S (G ((base 5).at ⟨T, []⟩ [.code restE16]) []) w := by
  obtain ⟨hT, t0, t1, t2, t8, t9, t11⟩ := hT
  obtain ⟨u8, e8⟩ : ∃ x, x = v8 := ⟨_, rfl⟩
  obtain ⟨u11, e11⟩ : ∃ x, x = v11 := ⟨_, rfl⟩
  rw [← e8] at t8 hR
  rw [← e11] at t11 hQ
  clear e8 e11
  clear v8 v11
  obtain ⟨v0, v1, v2, v3, v4, v5, v6, v7, v8, v9, v10, v11, v12, v13, v14, v15, v16, v17, v18, v19, v20, v21, v22, v23, v24, v25, v26, v27, v28, v29, v30, v31, v32, v33, v34, v35, v36, v37, v38, v39, v40, v41, v42, v43, v44, v45, v46, v47, v48, v49, v50, v51, v52, v53, v54, v55, v56, v57, v58, v59, v60, v61, v62, v63, v64, v65, v66, v67, v68, v69, v70, v71, v72, v73, v74, v75, v76, v77, v78, v79, v80, v81, v82, v83, v84, v85, v86, v87, v88, v89, v90, v91, v92, v93, v94, v95, v96, v97, v98, v99, v100, v101, v102, v103, v104, v105, rfl⟩ := array106 T hT
  simp only [List.getElem?_toArray, List.getElem?_cons_zero, List.getElem?_cons_succ, Option.some.injEq] at t0 t1 t2 t8 t9 t11
  subst t0 t1 t2 t8 t9 t11
  clear hT
  have h88 := fsR_le (n := n) (workers := workers) (xss := xss)
  obtain ⟨z, ez⟩ : ∃ z : Int, z = ((1 + (fsR n xss workers).length : Nat) : Int) := ⟨_, rfl⟩
  have q1 : decide (z < 0) = false := decide_eq_false (by omega)
  have EZ := Lib.hid ez
  clear ez
  simp only [restE16, Try.f5]
  refine stretchL (F := Vq C Rd0 S p V) (n := 60) (fun _ d h => h.at d) ?_
  u_c stepG_seq fl4 hF
  u_reg fl4 hF
  u_op fl4 hF
  u_c stepG_region_end fl4 hF
  u_c stepG_seq fl4 hF
  u_reg fl4 hF
  u_op fl4 hF
  u_op fl4 hF
  refine Goes.stop fun w₁ h₁ => ?_
  replace hF := fl4 hF h₁
  clear h₁
  refine qMk (xs := fsR n xss workers) hG.cq rfl rfl (by decide) rfl (by simp [Act.eval]) hF hQ.r hQ.o h88 ?_
  clear hF
  intro p1 V1 S1 wa hle1 hS1 hl1 hF hM
  rw [← EZ.out]
  replace hG : LeG C V0 la aV lc hsV xss p1 V1 := ⟨hG.cq, hG.r1.mono hle1, hG.d1, Nat.le_trans hG.low.1 hl1.1, fun b hb => (hl1.2 b (Nat.lt_of_lt_of_le hb hG.low.1) fun e => by
    obtain ⟨x, hx, rfl⟩ := Option.map_eq_some_iff.1 e.symm
    have := (hQ.o.blk x hx).1; omega).trans (hG.low.2 b hb)⟩
  replace hR : LeR C p1 V1 (fsR n xss workers) b8 a8 c8 _ := ⟨hR.r.mono hle1, hR.o.heap fun x hx => hl1.2 _ (hR.o.blk x hx).2 fun e => by
    obtain ⟨y, hy, e⟩ := Option.map_eq_some_iff.1 e.symm
    have := (hQ.o.blk y hy).1
    have := h8 x hx
    omega⟩
  have hQ1 : LeR C p1 V1 (marks (fun k => (k : Int)) 1 (fsR n xss workers).length) b11 a11 c11 _ := ⟨by rw [marks_length]; exact hQ.r.mono hle1, hM⟩
  clear hQ hM
  walk_nrm
  refine stretchL (F := Vq C Rd0 S1 p1 V1) (n := 60) (fun _ d h => h.at d) ?_
  u_op fl4 hF
  u_c stepG_region_end fl4 hF
  u_c stepG_seq fl4 hF
  u_reg fl4 hF
  u_op fl4 hF
  u_c stepG_region_end fl4 hF
  u_c stepG_seq fl4 hF
  u_reg fl4 hF
  u_op fl4 hF
  u_op fl4 hF
  refine Goes.stop fun w₂ h₁ => ?_
  replace hF := fl4 hF h₁
  clear h₁
  refine qHl (n := (fsR n xss workers).length) hG.cq rfl rfl (by decide) rfl (by simp [Act.eval]) hF hQ1.rm hQ1.o.rd h88 ?_
  clear hF
  intro p2 V2 S2 wb hle2 hS2 hl2 hF
  rw [← EZ.out]
  replace hG := hG.go hle2 hl2
  replace hR := hR.go hle2 hl2
  replace hQ1 := hQ1.go hle2 hl2
  walk_nrm
  refine stretchL (F := Vq C Rd0 S2 p2 V2) (n := 60) (fun _ d h => h.at d) ?_
  u_op fl4 hF
  u_c stepG_region_end fl4 hF
  u_c stepG_seq fl4 hF
  u_c stepG_seq fl4 hF
  u_reg fl4 hF
  u_op fl4 hF
  u_op fl4 hF
  u_c stepG_region_end fl4 hF
  u_cond false fl4 hF
  u_c stepG_skip fl4 hF
  u_c stepG_seq fl4 hF
  u_c stepG_seq fl4 hF
  u_reg fl4 hF
  u_op fl4 hF
  u_op fl4 hF
  u_op fl4 hF
  u_c stepG_region_end fl4 hF
  u_cond false fl4 hF
  u_c stepG_skip fl4 hF
  u_c stepG_seq fl4 hF
  u_reg fl4 hF
  u_op fl4 hF
  u_op fl4 hF
  refine Goes.stop fun w₃ h₁ => ?_
  replace hF := fl4 hF h₁
  clear h₁
  refine qTo hG.cq rfl rfl (by decide) rfl (by simp [Act.eval]) hF hG.r1 hG.rd hn ?_
  clear hF
  intro p3 V3 S3 wc a84 c84 hs84 v84 hle3 hS3 hl3 hF ho84 hv84
  replace hG := hG.go hle3 hl3
  replace hR := hR.go hle3 hl3
  replace hQ1 := hQ1.go hle3 hl3
  walk_nrm
  refine stretchL (F := Vq C Rd0 S3 p3 V3) (n := 60) (fun _ d h => h.at d) ?_
  u_op fl4 hF
  refine Goes.stop fun w₄ h₁ => ?_
  replace hF := fl4 hF h₁
  clear h₁
  exact .stop fun w₆ h₆ => ⟨p3, V3, _, _, _, v84, b8, a8, c8, b11, a11, c11, a84, c84, hs84, by obtain ⟨d, rfl⟩ := h₆; exact hF.at d, hG, ⟨rfl, rfl, rfl, rfl, by rw [← EZ.out]; rfl⟩, hR, hQ1, hv84, ho84.rd, rfl, rfl, rfl, rfl⟩
set_option maxRecDepth 100000 in
set_option maxHeartbeats 16000000 in
theorem leD {T : Array Value} {v8 v11 v16 : Value} {b8 b11 b16 c8 c11 c16 : Nat} {a8 a11 a16 : Option Addr} (hF : Vq C Rd0 S p V w) (hC : Cq C) (hT : LeU v8 v11 ((1 + (fsR n xss workers).length : Nat) : Int) (fsOk n xss workers) T) (hR : LeR C p V (fsR n xss workers) b8 a8 c8 v8)
    (hQ : LeR C p V (marks (fun k => (k : Int)) 1 (fsR n xss workers).length) b11 a11 c11 v11) (hY : LeR C p V (fsR n xss workers) b16 a16 c16 v16) :
    GG Try.prog true RL (GL Rd0) (fun _ g _ => Fin5 g) S (G ((base 5).at ⟨T.setIfInBounds 86 (.tuple #[v16, .bool (fsOk n xss workers)]), []⟩ [.inRegion opsE24 [5, 6, 7, 8, 9], .code restE24]) []) w := by
  obtain ⟨hT, t8, t9, t11, t14⟩ := hT
  obtain ⟨u8, e8⟩ : ∃ x, x = v8 := ⟨_, rfl⟩
  obtain ⟨u11, e11⟩ : ∃ x, x = v11 := ⟨_, rfl⟩
  obtain ⟨u16, e16⟩ : ∃ x, x = v16 := ⟨_, rfl⟩
  rw [← e8] at t8 hR
  rw [← e11] at t11 hQ
  rw [← e16] at hY ⊢
  clear e8 e11 e16
  clear v8 v11 v16
  obtain ⟨v0, v1, v2, v3, v4, v5, v6, v7, v8, v9, v10, v11, v12, v13, v14, v15, v16, v17, v18, v19, v20, v21, v22, v23, v24, v25, v26, v27, v28, v29, v30, v31, v32, v33, v34, v35, v36, v37, v38, v39, v40, v41, v42, v43, v44, v45, v46, v47, v48, v49, v50, v51, v52, v53, v54, v55, v56, v57, v58, v59, v60, v61, v62, v63, v64, v65, v66, v67, v68, v69, v70, v71, v72, v73, v74, v75, v76, v77, v78, v79, v80, v81, v82, v83, v84, v85, v86, v87, v88, v89, v90, v91, v92, v93, v94, v95, v96, v97, v98, v99, v100, v101, v102, v103, v104, v105, rfl⟩ := array106 T hT
  have h88 := fsR_le (n := n) (workers := workers) (xss := xss)
  obtain ⟨z, ez⟩ : ∃ z : Int, z = ((1 + (fsR n xss workers).length : Nat) : Int) := ⟨_, rfl⟩
  rw [← ez] at t14
  have q1 : decide (z < 0) = false := decide_eq_false (by omega)
  have EZ := Lib.hid ez
  clear ez
  simp only [List.getElem?_toArray, List.getElem?_cons_zero, List.getElem?_cons_succ, Option.some.injEq] at t8 t9 t11 t14
  subst t8 t9 t11 t14
  clear hT
  have evq := fun x y w => (evB x y w).2
  simp only [opsE24, restE24, Try.f5, List.setIfInBounds_toArray, List.set_cons_succ, List.set_cons_zero]
  refine stretchL (F := Vq C Rd0 S p V) (n := 60) (fun _ d h => h.at d) ?_
  u_op fl4 hF
  u_op fl4 hF
  u_op fl4 hF
  u_op fl4 hF
  u_op fl4 hF
  u_c stepG_region_end fl4 hF
  u_c stepG_seq fl4 hF
  u_c stepG_seq fl4 hF
  u_reg fl4 hF
  u_op fl4 hF
  u_op fl4 hF
  refine Goes.stop fun w₁ h₁ => ?_
  replace hF := fl4 hF h₁
  clear h₁
  refine qEq (xs := fsR n xss workers) (a1 := a16) (a2 := a8) (c1 := c16) (c2 := c8) hC rfl rfl (by decide) rfl (by simp [Act.eval]) hF hY.r hR.r hY.o.rd hR.o.rd ?_
  clear hF
  intro p1 V1 S1 wa hle1 hS1 hl1 hF
  replace hQ := hQ.go hle1 hl1
  walk_nrm
  refine stretchL (F := Vq C Rd0 S1 p1 V1) (n := 60) (fun _ d h => h.at d) ?_
  u_op fl4 hF
  u_op fl4 hF
  u_op fl4 hF
  u_op fl4 hF
  u_op fl4 hF
  u_op fl4 hF
  u_c stepG_region_end fl4 hF
  u_cond false fl4 hF
  u_c stepG_skip fl4 hF
  u_c stepG_seq fl4 hF
  u_reg fl4 hF
  u_op fl4 hF
  u_c stepG_region_end fl4 hF
  u_c stepG_seq fl4 hF
  u_reg fl4 hF
  u_op fl4 hF
  u_op fl4 hF
  refine Goes.stop fun w₂ h₁ => ?_
  replace hF := fl4 hF h₁
  clear h₁
  refine qHl (n := (fsR n xss workers).length) hC rfl rfl (by decide) rfl (by simp [Act.eval]) hF hQ.rm hQ.o.rd h88 ?_
  clear hF
  intro p2 V2 S2 wb hle2 hS2 hl2 hF
  rw [← EZ.out]
  walk_nrm
  refine stretchL (F := Vq C Rd0 S2 p2 V2) (n := 60) (fun _ d h => h.at d) ?_
  u_op fl4 hF
  u_c stepG_region_end fl4 hF
  u_c stepG_seq fl4 hF
  u_c stepG_seq fl4 hF
  u_reg fl4 hF
  u_op fl4 hF
  u_op fl4 hF
  u_c stepG_region_end fl4 hF
  u_cond false fl4 hF
  u_c stepG_skip fl4 hF
  u_c stepG_seq fl4 hF
  u_c stepG_seq fl4 hF
  u_reg fl4 hF
  u_op fl4 hF
  u_op fl4 hF
  u_op fl4 hF
  u_c stepG_region_end fl4 hF
  u_cond false fl4 hF
  u_c stepG_skip fl4 hF
  u_c stepG_seq fl4 hF
  u_reg fl4 hF
  u_op fl4 hF
  u_c stepG_region_end fl4 hF
  u_c stepG_ret' fl4 hF
  refine Goes.stop fun w₃ h₁ => ?_
  replace hF := fl4 hF h₁
  clear h₁
  exact .stop fun _ _ => ⟨_, _, rfl, rfl, rfl⟩
end
end Go.Proofs.Ytfecdmenliohhaa
