/- FnForestsSharedOfAll: goroutine 0's own stretches between the calls of ForestsShared. (Printed by mkLaA.py.). -/
import Derived.Test.YtfecdmenliohhaaQLa32
set_option linter.unusedVariables false
set_option linter.unusedSimpArgs false
set_option linter.unusedSimpArgs false
set_option linter.unusedVariables false
namespace Go.Proofs.Ytfecdmenliohhaa
open Go Go.Conc Go.ConcN Go.RowKit Go.Conc.Lib Go.ConcR.Gen Go.ConcN.Gen
open Go.ConcR (Payload DC0 WgAt)

noncomputable def opsL3 : Array Oper := match Try.f4.body with | some (.seq _ (.seq _ (.seq (.region _ ops _) _))) => ops | _ => #[]
noncomputable def restL3 : Code := match Try.f4.body with | some (.seq _ (.seq _ (.seq _ c))) => c | _ => .skip
noncomputable def opsL4 : Array Oper := match Try.f4.body with | some (.seq _ (.seq _ (.seq _ (.seq (.region _ ops _) _)))) => ops | _ => #[]
noncomputable def restL4 : Code := match Try.f4.body with | some (.seq _ (.seq _ (.seq _ (.seq _ c)))) => c | _ => .skip
theorem array77 (T : Array Value) (h : T.size = 77) : ∃ v0 v1 v2 v3 v4 v5 v6 v7 v8 v9 v10 v11 v12 v13 v14 v15 v16 v17 v18 v19 v20 v21 v22 v23 v24 v25 v26 v27 v28 v29 v30 v31 v32 v33 v34 v35 v36 v37 v38 v39 v40 v41 v42 v43 v44 v45 v46 v47 v48 v49 v50 v51 v52 v53 v54 v55 v56 v57 v58 v59 v60 v61 v62 v63 v64 v65 v66 v67 v68 v69 v70 v71 v72 v73 v74 v75 v76, T = #[v0, v1, v2, v3, v4, v5, v6, v7, v8, v9, v10, v11, v12, v13, v14, v15, v16, v17, v18, v19, v20, v21, v22, v23, v24, v25, v26, v27, v28, v29, v30, v31, v32, v33, v34, v35, v36, v37, v38, v39, v40, v41, v42, v43, v44, v45, v46, v47, v48, v49, v50, v51, v52, v53, v54, v55, v56, v57, v58, v59, v60, v61, v62, v63, v64, v65, v66, v67, v68, v69, v70, v71, v72, v73, v74, v75, v76] := by
  obtain ⟨l⟩ := T
  simp only [List.size_toArray] at h
  obtain ⟨v0, l0, e0, h⟩ := cons_of h
  obtain ⟨v1, l1, e1, h⟩ := cons_of h
  obtain ⟨v2, l2, e2, h⟩ := cons_of h
  obtain ⟨v3, l3, e3, h⟩ := cons_of h
  obtain ⟨v4, l4, e4, h⟩ := cons_of h
  obtain ⟨v5, l5, e5, h⟩ := cons_of h
  obtain ⟨v6, l6, e6, h⟩ := cons_of h
  obtain ⟨v7, l7, e7, h⟩ := cons_of h
  obtain ⟨v8, l8, e8, h⟩ := cons_of h
  obtain ⟨v9, l9, e9, h⟩ := cons_of h
  obtain ⟨v10, l10, e10, h⟩ := cons_of h
  obtain ⟨v11, l11, e11, h⟩ := cons_of h
  obtain ⟨v12, l12, e12, h⟩ := cons_of h
  obtain ⟨v13, l13, e13, h⟩ := cons_of h
  obtain ⟨v14, l14, e14, h⟩ := cons_of h
  obtain ⟨v15, l15, e15, h⟩ := cons_of h
  obtain ⟨v16, l16, e16, h⟩ := cons_of h
  obtain ⟨v17, l17, e17, h⟩ := cons_of h
  obtain ⟨v18, l18, e18, h⟩ := cons_of h
  obtain ⟨v19, l19, e19, h⟩ := cons_of h
  obtain ⟨v20, l20, e20, h⟩ := cons_of h
  obtain ⟨v21, l21, e21, h⟩ := cons_of h
  obtain ⟨v22, l22, e22, h⟩ := cons_of h
  obtain ⟨v23, l23, e23, h⟩ := cons_of h
  obtain ⟨v24, l24, e24, h⟩ := cons_of h
  obtain ⟨v25, l25, e25, h⟩ := cons_of h
  obtain ⟨v26, l26, e26, h⟩ := cons_of h
  obtain ⟨v27, l27, e27, h⟩ := cons_of h
  obtain ⟨v28, l28, e28, h⟩ := cons_of h
  obtain ⟨v29, l29, e29, h⟩ := cons_of h
  obtain ⟨v30, l30, e30, h⟩ := cons_of h
  obtain ⟨v31, l31, e31, h⟩ := cons_of h
  obtain ⟨v32, l32, e32, h⟩ := cons_of h
  obtain ⟨v33, l33, e33, h⟩ := cons_of h
  obtain ⟨v34, l34, e34, h⟩ := cons_of h
  obtain ⟨v35, l35, e35, h⟩ := cons_of h
  obtain ⟨v36, l36, e36, h⟩ := cons_of h
  obtain ⟨v37, l37, e37, h⟩ := cons_of h
  obtain ⟨v38, l38, e38, h⟩ := cons_of h
  obtain ⟨v39, l39, e39, h⟩ := cons_of h
  obtain ⟨v40, l40, e40, h⟩ := cons_of h
  obtain ⟨v41, l41, e41, h⟩ := cons_of h
  obtain ⟨v42, l42, e42, h⟩ := cons_of h
  obtain ⟨v43, l43, e43, h⟩ := cons_of h
  obtain ⟨v44, l44, e44, h⟩ := cons_of h
  obtain ⟨v45, l45, e45, h⟩ := cons_of h
  obtain ⟨v46, l46, e46, h⟩ := cons_of h
  obtain ⟨v47, l47, e47, h⟩ := cons_of h
  obtain ⟨v48, l48, e48, h⟩ := cons_of h
  obtain ⟨v49, l49, e49, h⟩ := cons_of h
  obtain ⟨v50, l50, e50, h⟩ := cons_of h
  obtain ⟨v51, l51, e51, h⟩ := cons_of h
  obtain ⟨v52, l52, e52, h⟩ := cons_of h
  obtain ⟨v53, l53, e53, h⟩ := cons_of h
  obtain ⟨v54, l54, e54, h⟩ := cons_of h
  obtain ⟨v55, l55, e55, h⟩ := cons_of h
  obtain ⟨v56, l56, e56, h⟩ := cons_of h
  obtain ⟨v57, l57, e57, h⟩ := cons_of h
  obtain ⟨v58, l58, e58, h⟩ := cons_of h
  obtain ⟨v59, l59, e59, h⟩ := cons_of h
  obtain ⟨v60, l60, e60, h⟩ := cons_of h
  obtain ⟨v61, l61, e61, h⟩ := cons_of h
  obtain ⟨v62, l62, e62, h⟩ := cons_of h
  obtain ⟨v63, l63, e63, h⟩ := cons_of h
  obtain ⟨v64, l64, e64, h⟩ := cons_of h
  obtain ⟨v65, l65, e65, h⟩ := cons_of h
  obtain ⟨v66, l66, e66, h⟩ := cons_of h
  obtain ⟨v67, l67, e67, h⟩ := cons_of h
  obtain ⟨v68, l68, e68, h⟩ := cons_of h
  obtain ⟨v69, l69, e69, h⟩ := cons_of h
  obtain ⟨v70, l70, e70, h⟩ := cons_of h
  obtain ⟨v71, l71, e71, h⟩ := cons_of h
  obtain ⟨v72, l72, e72, h⟩ := cons_of h
  obtain ⟨v73, l73, e73, h⟩ := cons_of h
  obtain ⟨v74, l74, e74, h⟩ := cons_of h
  obtain ⟨v75, l75, e75, h⟩ := cons_of h
  obtain ⟨v76, l76, e76, h⟩ := cons_of h
  obtain rfl := List.length_eq_zero_iff.1 h
  exact ⟨v0, v1, v2, v3, v4, v5, v6, v7, v8, v9, v10, v11, v12, v13, v14, v15, v16, v17, v18, v19, v20, v21, v22, v23, v24, v25, v26, v27, v28, v29, v30, v31, v32, v33, v34, v35, v36, v37, v38, v39, v40, v41, v42, v43, v44, v45, v46, v47, v48, v49, v50, v51, v52, v53, v54, v55, v56, v57, v58, v59, v60, v61, v62, v63, v64, v65, v66, v67, v68, v69, v70, v71, v72, v73, v74, v75, v76, by rw [e0, e1, e2, e3, e4, e5, e6, e7, e8, e9, e10, e11, e12, e13, e14, e15, e16, e17, e18, e19, e20, e21, e22, e23, e24, e25, e26, e27, e28, e29, e30, e31, e32, e33, e34, e35, e36, e37, e38, e39, e40, e41, e42, e43, e44, e45, e46, e47, e48, e49, e50, e51, e52, e53, e54, e55, e56, e57, e58, e59, e60, e61, e62, e63, e64, e65, e66, e67, e68, e69, e70, e71, e72, e73, e74, e75, e76]⟩
/-- Nothing is known. -/
def Tru (_ : World) : Prop := True
/-- What a call of ForestsShared answers. -/
def fsR (n : Int) (xss : List (List Int)) (workers : Int) : List Int := if fsOk n xss workers then fsN n xss else []
/-- At the return, with true. -/
def Fin4 (g : Goroutine) : Prop := ∃ T todo, T.size = 77 ∧ T[8]? = some (.bool true) ∧ g = G { (base 4).at ⟨T, []⟩ todo with mode := .returning } []

section
variable {w0 : World} {Rd0 : Nat → Prop} {S : OwnB} {la : Option Addr} {lc : Nat} {hs : List Hd} {xss : List (List Int)} {n workers hands : Int} {w : World} {m : Nat}
/-- At the first call. -/
structure LaA (la : Option Addr) (lc m : Nat) (n workers hands : Int) (T : Array Value) : Prop where
  size : T.size = 77
  t0 : T[0]? = some (.int .i64 n)
  t1 : T[1]? = some (.slice la m lc)
  t2 : T[2]? = some (.int .i64 workers)
  t3 : T[3]? = some (.int .i64 hands)
set_option maxRecDepth 100000 in
set_option maxHeartbeats 4000000 in
theorem laA_out (hm : 10000 < m) : GG Try.prog true RL (GL Rd0) (fun _ g _ => Fin4 g) S (G (Frame.enter Try.prog 4 #[.int .i64 n, .slice la m lc, .int .i64 workers, .int .i64 hands] .normal) []) w := by
  have q1 : decide ((10000 : Int) < (m : Int)) = true := decide_eq_true (by omega)
  have e : Frame.enter Try.prog 4 #[.int .i64 n, .slice la m lc, .int .i64 workers, .int .i64 hands] .normal = (base 4).at ⟨#[.int .i64 n, .slice la m lc, .int .i64 workers, .int .i64 hands, undef, undef, undef, undef, undef, undef, undef, undef, undef, undef, undef, undef, undef, undef, undef, undef, undef, undef, undef, undef, undef, undef, undef, undef, undef, undef, undef, undef, undef, undef, undef, undef, undef, undef, undef, undef, undef, undef, undef, undef, undef, undef, undef, undef, undef, undef, undef, undef, undef, undef, undef, undef, undef, undef, undef, undef, undef, undef, undef, undef, undef, undef, undef, undef, undef, undef, undef, undef, undef, undef, undef, undef, undef], []⟩ [.code (Try.f4.body.getD .skip)] := by
    simp [Frame.enter, Frame.at, Try.func4, base, Try.f4]
  rw [e]
  simp only [Try.f4, Option.getD_some]
  have hF : Tru w := trivial
  refine stretchL (F := Tru) (n := 60) (fun _ _ h => h) ?_
  u_c stepG_seq fl4 hF
  u_reg fl4 hF
  u_op fl4 hF
  u_c stepG_region_end fl4 hF
  u_c stepG_seq fl4 hF
  u_c stepG_seq fl4 hF
  u_reg fl4 hF
  u_op fl4 hF
  u_op fl4 hF
  u_op fl4 hF
  u_c stepG_region_end fl4 hF
  u_cond true fl4 hF
  u_c stepG_seq fl4 hF
  u_reg fl4 hF
  u_op fl4 hF
  u_c stepG_region_end fl4 hF
  u_c stepG_ret' fl4 hF
  refine Goes.stop fun w₁ h₁ => ?_
  replace hF := fl4 hF h₁
  clear h₁
  exact .stop fun _ _ => ⟨_, _, rfl, rfl, rfl⟩
set_option maxRecDepth 100000 in
set_option maxHeartbeats 4000000 in
theorem laA (hm : ¬ 10000 < m) : GG Try.prog true RL (GL Rd0) (fun _ g _ => ∃ T, LaA la lc m n workers hands T ∧ T[19]? = some (.int .i64 n) ∧ T[20]? = some (.slice la m lc) ∧ T[21]? = some (.int .i64 workers) ∧ g = G ((base 4).at ⟨T, []⟩ [.inRegion opsL3 [3, 4, 5, 6, 7, 8], .code restL3]) []) S (G (Frame.enter Try.prog 4 #[.int .i64 n, .slice la m lc, .int .i64 workers, .int .i64 hands] .normal) []) w := by
  have q1 : decide ((10000 : Int) < (m : Int)) = false := decide_eq_false (by omega)
  have e : Frame.enter Try.prog 4 #[.int .i64 n, .slice la m lc, .int .i64 workers, .int .i64 hands] .normal = (base 4).at ⟨#[.int .i64 n, .slice la m lc, .int .i64 workers, .int .i64 hands, undef, undef, undef, undef, undef, undef, undef, undef, undef, undef, undef, undef, undef, undef, undef, undef, undef, undef, undef, undef, undef, undef, undef, undef, undef, undef, undef, undef, undef, undef, undef, undef, undef, undef, undef, undef, undef, undef, undef, undef, undef, undef, undef, undef, undef, undef, undef, undef, undef, undef, undef, undef, undef, undef, undef, undef, undef, undef, undef, undef, undef, undef, undef, undef, undef, undef, undef, undef, undef, undef, undef, undef, undef], []⟩ [.code (Try.f4.body.getD .skip)] := by
    simp [Frame.enter, Frame.at, Try.func4, base, Try.f4]
  rw [e]
  simp only [Try.f4, Option.getD_some]
  have hF : Tru w := trivial
  refine stretchL (F := Tru) (n := 60) (fun _ _ h => h) ?_
  u_c stepG_seq fl4 hF
  u_reg fl4 hF
  u_op fl4 hF
  u_c stepG_region_end fl4 hF
  u_c stepG_seq fl4 hF
  u_c stepG_seq fl4 hF
  u_reg fl4 hF
  u_op fl4 hF
  u_op fl4 hF
  u_op fl4 hF
  u_c stepG_region_end fl4 hF
  u_cond false fl4 hF
  u_c stepG_skip fl4 hF
  u_c stepG_seq fl4 hF
  u_reg fl4 hF
  u_op fl4 hF
  u_op fl4 hF
  u_op fl4 hF
  refine Goes.stop fun w₁ h₁ => ?_
  replace hF := fl4 hF h₁
  clear h₁
  exact .stop fun _ _ => ⟨_, ⟨rfl, rfl, rfl, rfl, rfl⟩, rfl, rfl, rfl, rfl⟩
set_option maxRecDepth 100000 in
set_option maxHeartbeats 4000000 in
/-- Between the two calls. -/
theorem laB {T : Array Value} {a1 : Option Addr} {c1 m1 : Nat} {b1 : Bool} (hT : LaA la lc m n workers hands T) : GG Try.prog true RL (GL Rd0) (fun _ g _ => ∃ T, LaA la lc m n workers hands T ∧ T[9]? = some (.slice a1 m1 c1) ∧ T[10]? = some (.bool b1) ∧ T[26]? = some (.int .i64 n) ∧ T[27]? = some (.slice la m lc) ∧ T[28]? = some (.int .i64 hands) ∧ g = G ((base 4).at ⟨T, []⟩ [.inRegion opsL4 [3, 4, 5, 6, 7, 8], .code restL4]) []) S (G ((base 4).at ⟨T.setIfInBounds 22 (.tuple #[.slice a1 m1 c1, .bool b1]), []⟩ [.inRegion opsL3 [4, 5, 6, 7, 8], .code restL3]) []) w := by
  obtain ⟨hT, h0, h1, h2, h3⟩ := hT
  obtain ⟨v0, v1, v2, v3, v4, v5, v6, v7, v8, v9, v10, v11, v12, v13, v14, v15, v16, v17, v18, v19, v20, v21, v22, v23, v24, v25, v26, v27, v28, v29, v30, v31, v32, v33, v34, v35, v36, v37, v38, v39, v40, v41, v42, v43, v44, v45, v46, v47, v48, v49, v50, v51, v52, v53, v54, v55, v56, v57, v58, v59, v60, v61, v62, v63, v64, v65, v66, v67, v68, v69, v70, v71, v72, v73, v74, v75, v76, rfl⟩ := array77 T hT
  simp only [List.getElem?_toArray, List.getElem?_cons_zero, List.getElem?_cons_succ, Option.some.injEq] at h0 h1 h2 h3
  subst h0 h1 h2 h3
  simp only [opsL3, restL3, Try.f4, List.setIfInBounds_toArray, List.set_cons_succ, List.set_cons_zero]
  have hF : Tru w := trivial
  refine stretchL (F := Tru) (n := 60) (fun _ _ h => h) ?_
  u_op fl4 hF
  u_op fl4 hF
  u_op fl4 hF
  u_op fl4 hF
  u_op fl4 hF
  u_c stepG_region_end fl4 hF
  u_c stepG_seq fl4 hF
  u_reg fl4 hF
  u_op fl4 hF
  u_op fl4 hF
  u_op fl4 hF
  refine Goes.stop fun w₁ h₁ => ?_
  replace hF := fl4 hF h₁
  clear h₁
  exact .stop fun _ _ => ⟨_, ⟨rfl, rfl, rfl, rfl, rfl⟩, rfl, rfl, rfl, rfl, rfl, rfl⟩
end
end Go.Proofs.Ytfecdmenliohhaa
