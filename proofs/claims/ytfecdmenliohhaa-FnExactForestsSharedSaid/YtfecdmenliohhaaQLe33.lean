/- FnExactForestsShared: goroutine 0's own stretch ahead of the first call of ForestsShared. (Printed by mkLeA.py.). -/
import Derived.Test.YtfecdmenliohhaaQLe32
set_option linter.unusedVariables false
set_option linter.unusedSimpArgs false
set_option linter.unusedSimpArgs false
set_option linter.unusedVariables false
namespace Go.Proofs.Ytfecdmenliohhaa
open Go Go.Conc Go.ConcN Go.RowKit Go.Conc.Lib Go.ConcR.Gen Go.ConcN.Gen
open Go.ConcR (Payload DC0 WgAt)

noncomputable def opsE7 : Array Oper := match Try.f5.body with | some (.seq _ (.seq _ (.seq _ (.seq _ (.seq _ (.seq _ (.seq (.region _ ops _) _))))))) => ops | _ => #[]
noncomputable def restE7 : Code := match Try.f5.body with | some (.seq _ (.seq _ (.seq _ (.seq _ (.seq _ (.seq _ (.seq _ c))))))) => c | _ => .skip
noncomputable def restE16 : Code := match Try.f5.body with | some (.seq _ (.seq _ (.seq _ (.seq _ (.seq _ (.seq _ (.seq _ (.seq _ (.seq _ (.seq _ (.seq _ (.seq _ c)))))))))))) => c | _ => .skip
noncomputable def opsE24 : Array Oper := match Try.f5.body with | some (.seq _ (.seq _ (.seq _ (.seq _ (.seq _ (.seq _ (.seq _ (.seq _ (.seq _ (.seq _ (.seq _ (.seq _ (.seq _ (.seq _ (.seq _ (.seq _ (.seq _ (.seq _ (.seq (.region _ ops _) _))))))))))))))))))) => ops | _ => #[]
noncomputable def restE24 : Code := match Try.f5.body with | some (.seq _ (.seq _ (.seq _ (.seq _ (.seq _ (.seq _ (.seq _ (.seq _ (.seq _ (.seq _ (.seq _ (.seq _ (.seq _ (.seq _ (.seq _ (.seq _ (.seq _ (.seq _ (.seq _ c))))))))))))))))))) => c | _ => .skip
theorem array106 (T : Array Value) (h : T.size = 106) : ∃ v0 v1 v2 v3 v4 v5 v6 v7 v8 v9 v10 v11 v12 v13 v14 v15 v16 v17 v18 v19 v20 v21 v22 v23 v24 v25 v26 v27 v28 v29 v30 v31 v32 v33 v34 v35 v36 v37 v38 v39 v40 v41 v42 v43 v44 v45 v46 v47 v48 v49 v50 v51 v52 v53 v54 v55 v56 v57 v58 v59 v60 v61 v62 v63 v64 v65 v66 v67 v68 v69 v70 v71 v72 v73 v74 v75 v76 v77 v78 v79 v80 v81 v82 v83 v84 v85 v86 v87 v88 v89 v90 v91 v92 v93 v94 v95 v96 v97 v98 v99 v100 v101 v102 v103 v104 v105, T = #[v0, v1, v2, v3, v4, v5, v6, v7, v8, v9, v10, v11, v12, v13, v14, v15, v16, v17, v18, v19, v20, v21, v22, v23, v24, v25, v26, v27, v28, v29, v30, v31, v32, v33, v34, v35, v36, v37, v38, v39, v40, v41, v42, v43, v44, v45, v46, v47, v48, v49, v50, v51, v52, v53, v54, v55, v56, v57, v58, v59, v60, v61, v62, v63, v64, v65, v66, v67, v68, v69, v70, v71, v72, v73, v74, v75, v76, v77, v78, v79, v80, v81, v82, v83, v84, v85, v86, v87, v88, v89, v90, v91, v92, v93, v94, v95, v96, v97, v98, v99, v100, v101, v102, v103, v104, v105] := by
  obtain ⟨l⟩ := T
  simp only [List.size_toArray] at h
  obtain ⟨v0, l0, e0, h⟩ := cons_of h
  obtain ⟨v1, l1, e1, h⟩ := cons_of h
  obtain ⟨v2, l2, e2, h⟩ := cons_of h
  obtain ⟨v3, l3, e3, h⟩ := cons_of h
  obtain ⟨v4, l4, e4, h⟩ := cons_of h
  obtain ⟨v5, l5, e5, h⟩ := cons_of h
  obtain ⟨v6, l6, e6, h⟩ := cons_of h
  obtain ⟨v7, l7, e7, h⟩ := cons_of h
  obtain ⟨v8, l8, e8, h⟩ := cons_of h
  obtain ⟨v9, l9, e9, h⟩ := cons_of h
  obtain ⟨v10, l10, e10, h⟩ := cons_of h
  obtain ⟨v11, l11, e11, h⟩ := cons_of h
  obtain ⟨v12, l12, e12, h⟩ := cons_of h
  obtain ⟨v13, l13, e13, h⟩ := cons_of h
  obtain ⟨v14, l14, e14, h⟩ := cons_of h
  obtain ⟨v15, l15, e15, h⟩ := cons_of h
  obtain ⟨v16, l16, e16, h⟩ := cons_of h
  obtain ⟨v17, l17, e17, h⟩ := cons_of h
  obtain ⟨v18, l18, e18, h⟩ := cons_of h
  obtain ⟨v19, l19, e19, h⟩ := cons_of h
  obtain ⟨v20, l20, e20, h⟩ := cons_of h
  obtain ⟨v21, l21, e21, h⟩ := cons_of h
  obtain ⟨v22, l22, e22, h⟩ := cons_of h
  obtain ⟨v23, l23, e23, h⟩ := cons_of h
  obtain ⟨v24, l24, e24, h⟩ := cons_of h
  obtain ⟨v25, l25, e25, h⟩ := cons_of h
  obtain ⟨v26, l26, e26, h⟩ := cons_of h
  obtain ⟨v27, l27, e27, h⟩ := cons_of h
  obtain ⟨v28, l28, e28, h⟩ := cons_of h
  obtain ⟨v29, l29, e29, h⟩ := cons_of h
  obtain ⟨v30, l30, e30, h⟩ := cons_of h
  obtain ⟨v31, l31, e31, h⟩ := cons_of h
  obtain ⟨v32, l32, e32, h⟩ := cons_of h
  obtain ⟨v33, l33, e33, h⟩ := cons_of h
  obtain ⟨v34, l34, e34, h⟩ := cons_of h
  obtain ⟨v35, l35, e35, h⟩ := cons_of h
  obtain ⟨v36, l36, e36, h⟩ := cons_of h
  obtain ⟨v37, l37, e37, h⟩ := cons_of h
  obtain ⟨v38, l38, e38, h⟩ := cons_of h
  obtain ⟨v39, l39, e39, h⟩ := cons_of h
  obtain ⟨v40, l40, e40, h⟩ := cons_of h
  obtain ⟨v41, l41, e41, h⟩ := cons_of h
  obtain ⟨v42, l42, e42, h⟩ := cons_of h
  obtain ⟨v43, l43, e43, h⟩ := cons_of h
  obtain ⟨v44, l44, e44, h⟩ := cons_of h
  obtain ⟨v45, l45, e45, h⟩ := cons_of h
  obtain ⟨v46, l46, e46, h⟩ := cons_of h
  obtain ⟨v47, l47, e47, h⟩ := cons_of h
  obtain ⟨v48, l48, e48, h⟩ := cons_of h
  obtain ⟨v49, l49, e49, h⟩ := cons_of h
  obtain ⟨v50, l50, e50, h⟩ := cons_of h
  obtain ⟨v51, l51, e51, h⟩ := cons_of h
  obtain ⟨v52, l52, e52, h⟩ := cons_of h
  obtain ⟨v53, l53, e53, h⟩ := cons_of h
  obtain ⟨v54, l54, e54, h⟩ := cons_of h
  obtain ⟨v55, l55, e55, h⟩ := cons_of h
  obtain ⟨v56, l56, e56, h⟩ := cons_of h
  obtain ⟨v57, l57, e57, h⟩ := cons_of h
  obtain ⟨v58, l58, e58, h⟩ := cons_of h
  obtain ⟨v59, l59, e59, h⟩ := cons_of h
  obtain ⟨v60, l60, e60, h⟩ := cons_of h
  obtain ⟨v61, l61, e61, h⟩ := cons_of h
  obtain ⟨v62, l62, e62, h⟩ := cons_of h
  obtain ⟨v63, l63, e63, h⟩ := cons_of h
  obtain ⟨v64, l64, e64, h⟩ := cons_of h
  obtain ⟨v65, l65, e65, h⟩ := cons_of h
  obtain ⟨v66, l66, e66, h⟩ := cons_of h
  obtain ⟨v67, l67, e67, h⟩ := cons_of h
  obtain ⟨v68, l68, e68, h⟩ := cons_of h
  obtain ⟨v69, l69, e69, h⟩ := cons_of h
  obtain ⟨v70, l70, e70, h⟩ := cons_of h
  obtain ⟨v71, l71, e71, h⟩ := cons_of h
  obtain ⟨v72, l72, e72, h⟩ := cons_of h
  obtain ⟨v73, l73, e73, h⟩ := cons_of h
  obtain ⟨v74, l74, e74, h⟩ := cons_of h
  obtain ⟨v75, l75, e75, h⟩ := cons_of h
  obtain ⟨v76, l76, e76, h⟩ := cons_of h
  obtain ⟨v77, l77, e77, h⟩ := cons_of h
  obtain ⟨v78, l78, e78, h⟩ := cons_of h
  obtain ⟨v79, l79, e79, h⟩ := cons_of h
  obtain ⟨v80, l80, e80, h⟩ := cons_of h
  obtain ⟨v81, l81, e81, h⟩ := cons_of h
  obtain ⟨v82, l82, e82, h⟩ := cons_of h
  obtain ⟨v83, l83, e83, h⟩ := cons_of h
  obtain ⟨v84, l84, e84, h⟩ := cons_of h
  obtain ⟨v85, l85, e85, h⟩ := cons_of h
  obtain ⟨v86, l86, e86, h⟩ := cons_of h
  obtain ⟨v87, l87, e87, h⟩ := cons_of h
  obtain ⟨v88, l88, e88, h⟩ := cons_of h
  obtain ⟨v89, l89, e89, h⟩ := cons_of h
  obtain ⟨v90, l90, e90, h⟩ := cons_of h
  obtain ⟨v91, l91, e91, h⟩ := cons_of h
  obtain ⟨v92, l92, e92, h⟩ := cons_of h
  obtain ⟨v93, l93, e93, h⟩ := cons_of h
  obtain ⟨v94, l94, e94, h⟩ := cons_of h
  obtain ⟨v95, l95, e95, h⟩ := cons_of h
  obtain ⟨v96, l96, e96, h⟩ := cons_of h
  obtain ⟨v97, l97, e97, h⟩ := cons_of h
  obtain ⟨v98, l98, e98, h⟩ := cons_of h
  obtain ⟨v99, l99, e99, h⟩ := cons_of h
  obtain ⟨v100, l100, e100, h⟩ := cons_of h
  obtain ⟨v101, l101, e101, h⟩ := cons_of h
  obtain ⟨v102, l102, e102, h⟩ := cons_of h
  obtain ⟨v103, l103, e103, h⟩ := cons_of h
  obtain ⟨v104, l104, e104, h⟩ := cons_of h
  obtain ⟨v105, l105, e105, h⟩ := cons_of h
  obtain rfl := List.length_eq_zero_iff.1 h
  exact ⟨v0, v1, v2, v3, v4, v5, v6, v7, v8, v9, v10, v11, v12, v13, v14, v15, v16, v17, v18, v19, v20, v21, v22, v23, v24, v25, v26, v27, v28, v29, v30, v31, v32, v33, v34, v35, v36, v37, v38, v39, v40, v41, v42, v43, v44, v45, v46, v47, v48, v49, v50, v51, v52, v53, v54, v55, v56, v57, v58, v59, v60, v61, v62, v63, v64, v65, v66, v67, v68, v69, v70, v71, v72, v73, v74, v75, v76, v77, v78, v79, v80, v81, v82, v83, v84, v85, v86, v87, v88, v89, v90, v91, v92, v93, v94, v95, v96, v97, v98, v99, v100, v101, v102, v103, v104, v105, by rw [e0, e1, e2, e3, e4, e5, e6, e7, e8, e9, e10, e11, e12, e13, e14, e15, e16, e17, e18, e19, e20, e21, e22, e23, e24, e25, e26, e27, e28, e29, e30, e31, e32, e33, e34, e35, e36, e37, e38, e39, e40, e41, e42, e43, e44, e45, e46, e47, e48, e49, e50, e51, e52, e53, e54, e55, e56, e57, e58, e59, e60, e61, e62, e63, e64, e65, e66, e67, e68, e69, e70, e71, e72, e73, e74, e75, e76, e77, e78, e79, e80, e81, e82, e83, e84, e85, e86, e87, e88, e89, e90, e91, e92, e93, e94, e95, e96, e97, e98, e99, e100, e101, e102, e103, e104, e105]⟩
/-- At the return, with true. -/
def Fin5 (g : Goroutine) : Prop := ∃ T todo, T.size = 106 ∧ T[6]? = some (.bool true) ∧ g = G { (base 5).at ⟨T, []⟩ todo with mode := .returning } []
/-- What all stretches know. -/
structure LeG (C : Cx) (V0 : World) (la aV : Option Addr) (lc : Nat) (hsV : List Hd) (xss : List (List Int)) (p : Ren) (V : World) : Prop where
  cq : Cq C
  r1 : VRel C p (.slice aV xss.length lc) (.slice la xss.length lc)
  d1 : Rd2 (Value.int .i64) V0 aV lc hsV xss
  low : Low V0 V
theorem LeG.go {C : Cx} {V0 : World} {la aV : Option Addr} {lc : Nat} {hsV : List Hd} {xss : List (List Int)} {p q : Ren} {V V' : World} (h : LeG C V0 la aV lc hsV xss p V) (hle : RLe p q) (hl : Low V V') : LeG C V0 la aV lc hsV xss q V' := ⟨h.cq, h.r1.mono hle, h.d1, h.low.trans hl⟩
theorem LeG.rd {C : Cx} {V0 : World} {la aV : Option Addr} {lc : Nat} {hsV : List Hd} {xss : List (List Int)} {p : Ren} {V : World} (h : LeG C V0 la aV lc hsV xss p V) : Rd2 (Value.int .i64) V aV lc hsV xss := h.low.rd2 h.d1
/-- The reference's answer, in the view and in truth. -/
structure LeR (C : Cx) (p : Ren) (V : World) (R : List Int) (base : Nat) (a : Option Addr) (c : Nat) (v : Value) : Prop where
  r : VRel C p (.slice a R.length c) v
  o : Own (Value.int .i64) 2 V base a c R
theorem LeR.go {C : Cx} {p q : Ren} {V V' : World} {R : List Int} {base : Nat} {a : Option Addr} {c : Nat} {v : Value} (h : LeR C p V R base a c v) (hle : RLe p q) (hl : Low V V') : LeR C q V' R base a c v := ⟨h.r.mono hle, hl.own h.o⟩
/-- The copy that the call is given. -/
structure LeX (C : Cx) (p : Ren) (V : World) (xss : List (List Int)) (base hi : Nat) (a : Option Addr) (c : Nat) (hs : List Hd) (v : Value) : Prop where
  r : VRel C p (.slice a xss.length c) v
  o : Own2 (Value.int .i64) 2 25 V base a c hs xss
  k : ∀ (i : Nat) (hd : Hd) (p : Addr), hs[i]? = some hd → hd.1 = some p → p.block < hi
  b : base ≤ hi ∧ hi ≤ V.heap.size
theorem LeX.go {C : Cx} {p q : Ren} {V V' : World} {xss : List (List Int)} {base hi : Nat} {a : Option Addr} {c : Nat} {hs : List Hd} {v : Value} (h : LeX C p V xss base hi a c hs v) (hle : RLe p q) (hl : Low V V') : LeX C q V' xss base hi a c hs v := ⟨h.r.mono hle, hl.own2 h.o, h.k, h.b.1, Nat.le_trans h.b.2 hl.1⟩
/-- At the first call of ForestsShared. -/
structure LeA (n workers : Int) (la : Option Addr) (lc m : Nat) (v8 v10 : Value) (ok : Bool) (T : Array Value) : Prop where
  size : T.size = 106
  t0 : T[0]? = some (.int .i64 n)
  t1 : T[1]? = some (.slice la m lc)
  t2 : T[2]? = some (.int .i64 workers)
  t8 : T[8]? = some v8
  t9 : T[9]? = some (.bool ok)
  t10 : T[10]? = some v10
def AtA (C : Cx) (V0 : World) (n workers : Int) (la aV : Option Addr) (lc : Nat) (hsV : List Hd) (xss : List (List Int)) (Rd0 : Nat → Prop) (S : OwnB) (g : Goroutine) (w : World) : Prop :=
  ∃ p V T v8 v10 b8 a8 c8 b10 h10 a10 c10 hs10, Vq C Rd0 S p V w ∧ LeG C V0 la aV lc hsV xss p V ∧ LeA n workers la lc xss.length v8 v10 (fsOk n xss workers) T ∧ LeR C p V (fsR n xss workers) b8 a8 c8 v8 ∧ LeX C p V xss b10 h10 a10 c10 hs10 v10 ∧
    (∀ x, a8 = some x → x.block < b10) ∧ V0.heap.size ≤ b10 ∧ size2 xss ≤ 1048576 ∧ T[34]? = some (.int .i64 n) ∧ T[35]? = some v10 ∧ T[36]? = some (.int .i64 workers) ∧ g = G ((base 5).at ⟨T, []⟩ [.inRegion opsE7 [3, 4, 5, 6, 7, 8], .code restE7]) []
section
variable {C : Cx} {Rd0 : Nat → Prop} {S : OwnB} {p : Ren} {V0 V w : World} {la aV : Option Addr} {lc : Nat} {hsV : List Hd} {xss : List (List Int)} {n workers : Int}
set_option maxRecDepth 100000 in
set_option maxHeartbeats 8000000 in
theorem leA (hF : Vq C Rd0 S p V w) (hG : LeG C V0 la aV lc hsV xss p V) :
    GG Try.prog true RL (GL Rd0) (fun S g w => Fin5 g ∨ AtA C V0 n workers la aV lc hsV xss Rd0 S g w) S (G (Frame.enter Try.prog 5 #[.int .i64 n, .slice la xss.length lc, .int .i64 workers] .normal) []) w := by
  have e : Frame.enter Try.prog 5 #[.int .i64 n, .slice la xss.length lc, .int .i64 workers] .normal = (base 5).at ⟨#[.int .i64 n, .slice la xss.length lc, .int .i64 workers, undef, undef, undef, undef, undef, undef, undef, undef, undef, undef, undef, undef, undef, undef, undef, undef, undef, undef, undef, undef, undef, undef, undef, undef, undef, undef, undef, undef, undef, undef, undef, undef, undef, undef, undef, undef, undef, undef, undef, undef, undef, undef, undef, undef, undef, undef, undef, undef, undef, undef, undef, undef, undef, undef, undef, undef, undef, undef, undef, undef, undef, undef, undef, undef, undef, undef, undef, undef, undef, undef, undef, undef, undef, undef, undef, undef, undef, undef, undef, undef, undef, undef, undef, undef, undef, undef, undef, undef, undef, undef, undef, undef, undef, undef, undef, undef, undef, undef, undef, undef, undef, undef, undef], []⟩ [.code (Try.f5.body.getD .skip)] := by
    simp [Frame.enter, Frame.at, Try.func5, base, Try.f5]
  rw [e]
  simp only [Try.f5, Option.getD_some]
  refine stretchL (F := Vq C Rd0 S p V) (n := 60) (fun _ d h => h.at d) ?_
  u_c stepG_seq fl4 hF
  u_reg fl4 hF
  u_op fl4 hF
  u_c stepG_region_end fl4 hF
  u_c stepG_seq fl4 hF
  u_reg fl4 hF
  u_op fl4 hF
  u_c stepG_region_end fl4 hF
  u_c stepG_seq fl4 hF
  u_reg fl4 hF
  u_op fl4 hF
  u_op fl4 hF
  refine Goes.stop fun w₁ h₁ => ?_
  replace hF := fl4 hF h₁
  clear h₁
  refine qSz hG.cq rfl rfl (by decide) rfl (by simp [Act.eval]) hF hG.r1 hG.rd ?_
  clear hF
  intro p1 V1 S1 wa r hr hle1 hS1 hl1 hF
  replace hG := hG.go hle1 hl1
  walk_nrm
  rcases hr with rfl | ⟨hsz, hr0⟩
  · refine stretchL (F := Vq C Rd0 S1 p1 V1) (n := 60) (fun _ d h => h.at d) ?_
    u_op fl4 hF
    u_c stepG_region_end fl4 hF
    u_c stepG_seq fl4 hF
    u_c stepG_seq fl4 hF
    u_reg fl4 hF
    u_op fl4 hF
    u_op fl4 hF
    u_c stepG_region_end fl4 hF
    u_cond true fl4 hF
    u_c stepG_seq fl4 hF
    u_reg fl4 hF
    u_op fl4 hF
    u_c stepG_region_end fl4 hF
    u_c stepG_ret' fl4 hF
    refine Goes.stop fun w₂ h₁ => ?_
    replace hF := fl4 hF h₁
    clear h₁
    exact .stop fun _ _ => .inl ⟨_, _, rfl, rfl, rfl⟩
  have q1 : decide (r < 0) = false := decide_eq_false (by omega)
  refine stretchL (F := Vq C Rd0 S1 p1 V1) (n := 60) (fun _ d h => h.at d) ?_
  u_op fl4 hF
  u_c stepG_region_end fl4 hF
  u_c stepG_seq fl4 hF
  u_c stepG_seq fl4 hF
  u_reg fl4 hF
  u_op fl4 hF
  u_op fl4 hF
  u_c stepG_region_end fl4 hF
  u_cond false fl4 hF
  u_c stepG_skip fl4 hF
  u_c stepG_seq fl4 hF
  u_reg fl4 hF
  u_op fl4 hF
  u_op fl4 hF
  refine Goes.stop fun w₂ h₁ => ?_
  replace hF := fl4 hF h₁
  clear h₁
  refine qTo hG.cq rfl rfl (by decide) rfl (by simp [Act.eval]) hF hG.r1 hG.rd hsz ?_
  clear hF
  intro p2 V2 S2 wb a26 c26 hs26 v26 hle2 hS2 hl2 hF ho26 hv26
  replace hG := hG.go hle2 hl2
  walk_nrm
  refine stretchL (F := Vq C Rd0 S2 p2 V2) (n := 60) (fun _ d h => h.at d) ?_
  u_op fl4 hF
  refine Goes.stop fun w₃ h₁ => ?_
  replace hF := fl4 hF h₁
  clear h₁
  have eR : (if fsOk n xss workers = true then fsN n xss else []) = fsR n xss workers := rfl
  refine qSpec (n := n) (workers := workers) hG.cq rfl rfl (by decide) rfl (by simp [Act.eval]) hF hv26 ho26.rd ?_
  clear hF
  intro p3 V3 S3 wc a8 c8 v8 hle3 hS3 hl3 hF ho8 hv8
  rw [eR] at ho8 hv8
  have hR : LeR C p3 V3 (fsR n xss workers) _ a8 c8 v8 := ⟨hv8, ho8⟩
  replace hG := hG.go hle3 hl3
  clear ho8 hv8 ho26 hv26
  walk_nrm
  refine stretchL (F := Vq C Rd0 S3 p3 V3) (n := 60) (fun _ d h => h.at d) ?_
  u_op fl4 hF
  u_op fl4 hF
  u_op fl4 hF
  u_op fl4 hF
  u_op fl4 hF
  u_c stepG_region_end fl4 hF
  u_c stepG_seq fl4 hF
  u_reg fl4 hF
  u_op fl4 hF
  refine Goes.stop fun w₄ h₁ => ?_
  replace hF := fl4 hF h₁
  clear h₁
  refine qTo hG.cq rfl rfl (by decide) rfl (by simp [Act.eval]) hF hG.r1 hG.rd hsz ?_
  clear hF
  intro p4 V4 S4 wd a10 c10 hs10 v10 hle4 hS4 hl4 hF ho10 hv10
  have hz := hG.low.1
  have h8 : ∀ x, a8 = some x → x.block < V3.heap.size := fun x hx => (hR.o.blk x hx).2
  replace hG := hG.go hle4 hl4
  replace hR := hR.go hle4 hl4
  have hX : LeX C p4 V4 xss V3.heap.size V4.heap.size a10 c10 hs10 v10 := ⟨hv10, ho10, fun i hd x h1 h2 => by
    have hk : i < xss.length := by rw [← ho10.len]; exact (List.getElem?_eq_some_iff.1 h1).1
    obtain ⟨hd', ys, g1, _, _, g4, _⟩ := ho10.row i hk
    rw [h1] at g1
    cases g1
    exact (g4.blk x h2).2, hl4.1, Nat.le_refl _⟩
  walk_nrm
  refine stretchL (F := Vq C Rd0 S4 p4 V4) (n := 60) (fun _ d h => h.at d) ?_
  u_op fl4 hF
  u_c stepG_region_end fl4 hF
  u_c stepG_seq fl4 hF
  u_reg fl4 hF
  u_op fl4 hF
  u_op fl4 hF
  u_op fl4 hF
  refine Goes.stop fun w₅ h₁ => ?_
  replace hF := fl4 hF h₁
  clear h₁
  exact .stop fun w₆ h₆ => .inr ⟨p4, V4, _, v8, v10, _, a8, c8, _, _, a10, c10, hs10, by obtain ⟨d, rfl⟩ := h₆; exact hF.at d, hG, ⟨rfl, rfl, rfl, rfl, rfl, rfl, rfl⟩, hR, hX, h8, hz, hsz, rfl, rfl, rfl, rfl⟩
end
end Go.Proofs.Ytfecdmenliohhaa
