/- FnForests: goroutine 0's own stretch round the call of ForestsShared. (Printed by mkFoD.py.). -/
import Derived.Test.YtfecdmenliohhaaQFo43
import Derived.Test.YtfecdmenliohhaaQFo42
set_option linter.unusedVariables false
set_option linter.unusedSimpArgs false
set_option linter.unusedSimpArgs false
set_option linter.unusedVariables false
namespace Go.Proofs.Ytfecdmenliohhaa
open Go Go.Conc Go.ConcN Go.RowKit Go.Conc.Lib Go.ConcR.Gen Go.ConcN.Gen
open Go.ConcR (Payload DC0 WgAt)

theorem cons_ofF {l : List Value} {n : Nat} (h : l.length = n + 1) : ∃ v l', l = v :: l' ∧ l'.length = n := by
  cases l with
  | nil => simp at h
  | cons v l' => exact ⟨v, l', rfl, by simpa using h⟩
set_option maxRecDepth 100000 in
set_option maxHeartbeats 4000000 in
theorem array68 (T : Array Value) (h : T.size = 264) : ∃ v0 v1 v2 v3 v4 v5 v6 v7 v8 v9 v10 v11 v12 v13 v14 v15 v16 v17 v18 v19 v20 v21 v22 v23 v24 v25 v26 v27 v28 v29 v30 v31 v32 v33 v34 v35 v36 v37 v38 v39 v40 v41 v42 v43 v44 v45 v46 v47 v48 v49 v50 v51 v52 v53 v54 v55 v56 v57 v58 v59 v60 v61 v62 v63 v64 v65 v66 v67 l, T = (v0 :: v1 :: v2 :: v3 :: v4 :: v5 :: v6 :: v7 :: v8 :: v9 :: v10 :: v11 :: v12 :: v13 :: v14 :: v15 :: v16 :: v17 :: v18 :: v19 :: v20 :: v21 :: v22 :: v23 :: v24 :: v25 :: v26 :: v27 :: v28 :: v29 :: v30 :: v31 :: v32 :: v33 :: v34 :: v35 :: v36 :: v37 :: v38 :: v39 :: v40 :: v41 :: v42 :: v43 :: v44 :: v45 :: v46 :: v47 :: v48 :: v49 :: v50 :: v51 :: v52 :: v53 :: v54 :: v55 :: v56 :: v57 :: v58 :: v59 :: v60 :: v61 :: v62 :: v63 :: v64 :: v65 :: v66 :: v67 :: l).toArray := by
  obtain ⟨l⟩ := T
  simp only [List.size_toArray] at h
  obtain ⟨v0, l0, rfl, h0⟩ := cons_ofF h
  obtain ⟨v1, l1, rfl, h1⟩ := cons_ofF h0
  obtain ⟨v2, l2, rfl, h2⟩ := cons_ofF h1
  obtain ⟨v3, l3, rfl, h3⟩ := cons_ofF h2
  obtain ⟨v4, l4, rfl, h4⟩ := cons_ofF h3
  obtain ⟨v5, l5, rfl, h5⟩ := cons_ofF h4
  obtain ⟨v6, l6, rfl, h6⟩ := cons_ofF h5
  obtain ⟨v7, l7, rfl, h7⟩ := cons_ofF h6
  obtain ⟨v8, l8, rfl, h8⟩ := cons_ofF h7
  obtain ⟨v9, l9, rfl, h9⟩ := cons_ofF h8
  obtain ⟨v10, l10, rfl, h10⟩ := cons_ofF h9
  obtain ⟨v11, l11, rfl, h11⟩ := cons_ofF h10
  obtain ⟨v12, l12, rfl, h12⟩ := cons_ofF h11
  obtain ⟨v13, l13, rfl, h13⟩ := cons_ofF h12
  obtain ⟨v14, l14, rfl, h14⟩ := cons_ofF h13
  obtain ⟨v15, l15, rfl, h15⟩ := cons_ofF h14
  obtain ⟨v16, l16, rfl, h16⟩ := cons_ofF h15
  obtain ⟨v17, l17, rfl, h17⟩ := cons_ofF h16
  obtain ⟨v18, l18, rfl, h18⟩ := cons_ofF h17
  obtain ⟨v19, l19, rfl, h19⟩ := cons_ofF h18
  obtain ⟨v20, l20, rfl, h20⟩ := cons_ofF h19
  obtain ⟨v21, l21, rfl, h21⟩ := cons_ofF h20
  obtain ⟨v22, l22, rfl, h22⟩ := cons_ofF h21
  obtain ⟨v23, l23, rfl, h23⟩ := cons_ofF h22
  obtain ⟨v24, l24, rfl, h24⟩ := cons_ofF h23
  obtain ⟨v25, l25, rfl, h25⟩ := cons_ofF h24
  obtain ⟨v26, l26, rfl, h26⟩ := cons_ofF h25
  obtain ⟨v27, l27, rfl, h27⟩ := cons_ofF h26
  obtain ⟨v28, l28, rfl, h28⟩ := cons_ofF h27
  obtain ⟨v29, l29, rfl, h29⟩ := cons_ofF h28
  obtain ⟨v30, l30, rfl, h30⟩ := cons_ofF h29
  obtain ⟨v31, l31, rfl, h31⟩ := cons_ofF h30
  obtain ⟨v32, l32, rfl, h32⟩ := cons_ofF h31
  obtain ⟨v33, l33, rfl, h33⟩ := cons_ofF h32
  obtain ⟨v34, l34, rfl, h34⟩ := cons_ofF h33
  obtain ⟨v35, l35, rfl, h35⟩ := cons_ofF h34
  obtain ⟨v36, l36, rfl, h36⟩ := cons_ofF h35
  obtain ⟨v37, l37, rfl, h37⟩ := cons_ofF h36
  obtain ⟨v38, l38, rfl, h38⟩ := cons_ofF h37
  obtain ⟨v39, l39, rfl, h39⟩ := cons_ofF h38
  obtain ⟨v40, l40, rfl, h40⟩ := cons_ofF h39
  obtain ⟨v41, l41, rfl, h41⟩ := cons_ofF h40
  obtain ⟨v42, l42, rfl, h42⟩ := cons_ofF h41
  obtain ⟨v43, l43, rfl, h43⟩ := cons_ofF h42
  obtain ⟨v44, l44, rfl, h44⟩ := cons_ofF h43
  obtain ⟨v45, l45, rfl, h45⟩ := cons_ofF h44
  obtain ⟨v46, l46, rfl, h46⟩ := cons_ofF h45
  obtain ⟨v47, l47, rfl, h47⟩ := cons_ofF h46
  obtain ⟨v48, l48, rfl, h48⟩ := cons_ofF h47
  obtain ⟨v49, l49, rfl, h49⟩ := cons_ofF h48
  obtain ⟨v50, l50, rfl, h50⟩ := cons_ofF h49
  obtain ⟨v51, l51, rfl, h51⟩ := cons_ofF h50
  obtain ⟨v52, l52, rfl, h52⟩ := cons_ofF h51
  obtain ⟨v53, l53, rfl, h53⟩ := cons_ofF h52
  obtain ⟨v54, l54, rfl, h54⟩ := cons_ofF h53
  obtain ⟨v55, l55, rfl, h55⟩ := cons_ofF h54
  obtain ⟨v56, l56, rfl, h56⟩ := cons_ofF h55
  obtain ⟨v57, l57, rfl, h57⟩ := cons_ofF h56
  obtain ⟨v58, l58, rfl, h58⟩ := cons_ofF h57
  obtain ⟨v59, l59, rfl, h59⟩ := cons_ofF h58
  obtain ⟨v60, l60, rfl, h60⟩ := cons_ofF h59
  obtain ⟨v61, l61, rfl, h61⟩ := cons_ofF h60
  obtain ⟨v62, l62, rfl, h62⟩ := cons_ofF h61
  obtain ⟨v63, l63, rfl, h63⟩ := cons_ofF h62
  obtain ⟨v64, l64, rfl, h64⟩ := cons_ofF h63
  obtain ⟨v65, l65, rfl, h65⟩ := cons_ofF h64
  obtain ⟨v66, l66, rfl, h66⟩ := cons_ofF h65
  obtain ⟨v67, l67, rfl, h67⟩ := cons_ofF h66
  exact ⟨v0, v1, v2, v3, v4, v5, v6, v7, v8, v9, v10, v11, v12, v13, v14, v15, v16, v17, v18, v19, v20, v21, v22, v23, v24, v25, v26, v27, v28, v29, v30, v31, v32, v33, v34, v35, v36, v37, v38, v39, v40, v41, v42, v43, v44, v45, v46, v47, v48, v49, v50, v51, v52, v53, v54, v55, v56, v57, v58, v59, v60, v61, v62, v63, v64, v65, v66, v67, l67, rfl⟩
noncomputable def opsF7 : Array Oper := match dropC 6 bodyF with | .seq (.region _ ops _) _ => ops | _ => #[]
theorem dropF7 : dropC 6 bodyF = .seq (.region 7 opsF7 false) restF8 := by kernel_rfl
theorem nmAt : (Try.f7.name == "runtime.NumGoroutine") = false := by kernel_rfl

section
variable {V0 V V' : World} {bV : Option Addr} {m c2 N k : Nat} {ys : List Int} {a6 a7 a10 : Option Addr} {c6 c7 c10 : Nat} {T : Array Value}
theorem FoH.go (h : FoH V0 bV m c2 N k ys a6 a7 a10 c6 c7 c10 T V) (l : Low V V') : FoH V0 bV m c2 N k ys a6 a7 a10 c6 c7 c10 T V' :=
  ⟨h.size, h.t1, h.t5, h.t6, h.t7, h.t8, h.t9, h.t10, h.t11, h.t12, l.own h.o6, l.rd h.o7, l.rd h.o10, h.low.trans l⟩
theorem FoH.set (h : FoH V0 bV m c2 N k ys a6 a7 a10 c6 c7 c10 T V) (i : Nat) (hi : 12 < i) (v : Value) : FoH V0 bV m c2 N k ys a6 a7 a10 c6 c7 c10 (T.setIfInBounds i v) V :=
  ⟨by rw [Array.size_setIfInBounds]; exact h.size, by rw [Array.getElem?_setIfInBounds_ne (by omega)]; exact h.t1, by rw [Array.getElem?_setIfInBounds_ne (by omega)]; exact h.t5, by rw [Array.getElem?_setIfInBounds_ne (by omega)]; exact h.t6, by rw [Array.getElem?_setIfInBounds_ne (by omega)]; exact h.t7, by rw [Array.getElem?_setIfInBounds_ne (by omega)]; exact h.t8, by rw [Array.getElem?_setIfInBounds_ne (by omega)]; exact h.t9, by rw [Array.getElem?_setIfInBounds_ne (by omega)]; exact h.t10, by rw [Array.getElem?_setIfInBounds_ne (by omega)]; exact h.t11, by rw [Array.getElem?_setIfInBounds_ne (by omega)]; exact h.t12, h.o6, h.o7, h.o10, h.low⟩
end
theorem rd2_pair {V : World} {a : Option Addr} {c : Nat} {ys : List Int} (e : TypeId) (h : Rd (Value.int .i64) V a c ys) :
    Rd2 (Value.int .i64) (V.alloc (.cells #[.slice a ys.length c, .slice none 0 0] e (0, 0))) (some ⟨V.heap.size, 0, none⟩) 2 [(a, ys.length, c), (none, 0, 0)] [ys, []] := by
  have hs : (V.alloc (.cells #[.slice a ys.length c, .slice none 0 0] e (0, 0))).heap = V.heap.push (.cells #[.slice a ys.length c, .slice none 0 0] e (0, 0)) := rfl
  have hsz : (V.alloc (.cells #[.slice a ys.length c, .slice none 0 0] e (0, 0))).heap.size = V.heap.size + 1 := Array.size_push _
  have low : Low V (V.alloc (.cells #[.slice a ys.length c, .slice none 0 0] e (0, 0))) := ⟨by omega, fun b hb => by rw [hs, Array.getElem?_push_lt hb, Array.getElem?_eq_getElem hb]⟩
  refine ⟨⟨by simp, by simp, (fun e => by cases e), fun _ => ⟨_, _, rfl, by omega⟩, fun k hk => ?_⟩, rfl, fun i hi => ?_⟩
  · rw [elt_some, Nat.zero_add]
    unfold World.cell?
    simp only [hs, Array.getElem?_push_size]
    match k, hk with
    | 0, _ => rfl
    | 1, _ => rfl
  · match i, hi with
    | 0, _ => exact ⟨_, _, rfl, rfl, rfl, low.rd h⟩
    | 1, _ => exact ⟨_, _, rfl, rfl, rfl, ⟨Nat.le_refl _, by simp, fun _ => rfl, (fun h => by simp at h), (fun k hk => by simp at hk)⟩⟩
theorem ASame.some' {C : Cx} {p : Ren} {x x' : Array Value} (h : ASame C p x x') {i : Nat} {v v' : Value} (h1 : x[i]? = some v) (h2 : x'[i]? = some v') : VRel C p v v' := h.at_ i v v' h1 h2
theorem vrel_int {C : Cx} {p : Ren} {k : IntKind} {n : Int} {v : Value} (h : VRel C p (.int k n) v) : v = .int k n := by cases h; rfl
/-- At the call. -/
def AtF (C : Cx) (V0 : World) (bV : Option Addr) (m c2 : Nat) (Rd0 : Nat → Prop) (S : OwnB) (g : Goroutine) (w : World) : Prop :=
  ∃ q V TV T N k ys a6 a7 a10 c6 c7 c10 a61 hs61 v61, ∃ wk : Int, 2 ≤ N ∧ N ≤ 8 ∧ k ≤ 9 ∧ EdgesOk N ys k ∧ Vq C Rd0 S q V w ∧ FoH V0 bV m c2 N k ys a6 a7 a10 c6 c7 c10 TV V ∧ ASame C q TV T ∧ Rd2 (Value.int .i64) V a61 2 hs61 [ys, []] ∧ VRel C q (.slice a61 2 2) v61 ∧ 1 ≤ wk ∧ wk ≤ 8 ∧
    T[59]? = some (.int .i64 (N : Int)) ∧ T[61]? = some v61 ∧ T[64]? = some (.int .i64 wk) ∧ g = G ((base 3).at ⟨T, []⟩ [.inRegion opsF7 [6, 7, 8, 9, 10, 11], .code restF8]) []

section
variable {C : Cx} {Rd0 : Nat → Prop} {S : OwnB} {p : Ren} {V0 V w : World} {bV : Option Addr} {c2 N k : Nat} {ys zs : List Int} {a6 a7 a10 : Option Addr} {c6 c7 c10 : Nat} {TV T : Array Value}
set_option maxRecDepth 100000 in
set_option maxHeartbeats 16000000 in
theorem foD (hC : ListOk Try.prog C LG) (hN1 : 2 ≤ N) (hN2 : N ≤ 8) (hk : k ≤ 9) (hE : EdgesOk N ys k) (hV : Vq C Rd0 S p V w) (hT : FoH V0 bV zs.length c2 N k ys a6 a7 a10 c6 c7 c10 TV V) (hA : ASame C p TV T) (h2 : Rd (Value.int .u8) V0 bV c2 zs) (b2 : ∀ x ∈ zs, 0 ≤ x ∧ x < 256) :
    GG Try.prog true RL (GL Rd0) (AtF C V0 bV zs.length c2 Rd0) S (G ((base 3).at ⟨T, []⟩ [.code (dropC 6 bodyF)]) []) w := by
  rw [dropF7]
  have hsz : T.size = 264 := by rw [← hA.size]; exact hT.size
  have h6 := hA.get hT.t6
  obtain ⟨x6, hx6, h6⟩ := h6
  obtain ⟨a6', rfl, _, _⟩ := rd_true hT.o6.rd h6 hV.rel
  obtain ⟨v0, v1, v2, v3, v4, v5, v6, v7, v8, v9, v10, v11, v12, v13, v14, v15, v16, v17, v18, v19, v20, v21, v22, v23, v24, v25, v26, v27, v28, v29, v30, v31, v32, v33, v34, v35, v36, v37, v38, v39, v40, v41, v42, v43, v44, v45, v46, v47, v48, v49, v50, v51, v52, v53, v54, v55, v56, v57, v58, v59, v60, v61, v62, v63, v64, v65, v66, v67, l, rfl⟩ := array68 T hsz
  clear hsz
  simp only [List.getElem?_toArray, List.getElem?_cons_zero, List.getElem?_cons_succ, Option.some.injEq] at hx6
  subst hx6
  have h1 := hA.some' hT.t1 (v' := v1) rfl
  have h5 := vrel_int (hA.some' hT.t5 (v' := v5) rfl)
  subst h5
  obtain ⟨O, hO⟩ : ∃ O, O = opsF7 := ⟨_, rfl⟩
  rw [← hO]
  simp only [opsF7, bodyF, dropC, Try.f3, Option.getD_some] at hO
  obtain ⟨KC, hK⟩ : ∃ K, K = restF8 := ⟨_, rfl⟩
  rw [← hK]
  have hK' := Lib.hid hK
  clear hK
  subst hO
  have hE' := Lib.hid hE
  clear hE
  refine stretchL (F := Vq C Rd0 S p V) (n := 60) (fun _ d h => h.at d) ?_
  u_c stepG_seq fl4 hV
  u_reg fl4 hV
  u_op fl4 hV
  u_op fl4 hV
  refine Goes.stop fun w₁ h₁ => ?_
  replace hV := fl4 hV h₁
  clear h₁
  refine GG.goes rfl fun w₂ h₁ => ?_
  replace hV : Vq C Rd0 S p V w₂ := by obtain ⟨d, rfl⟩ := h₁; exact hV.at d
  clear h₁
  refine goes_oper_k rfl rfl (by decide) (fun K hK => ?_)
  go_simp
  refine hK _ _ ⟨_, GL.new' _ ?_, ?_⟩
  · exact Array.eq_empty_iff_forall_not_mem.2 fun e he => by
      have hm' := mem_listed he
      simp [go_sem] at hm'
  clear hK
  have hgV := hV.rel.gV
  have hsV := hV.rel.shV _ (Nat.le_refl _)
  obtain ⟨q, hq0, hle, hV1⟩ := hV.row 25 (asame_two rfl h6 .slice0)
  have low1 : Low V (V.alloc (.cells #[.slice a6 ys.length c6, .slice none 0 0] 25 (0, 0))) := ⟨by rw [show (V.alloc (.cells #[.slice a6 ys.length c6, .slice none 0 0] 25 (0, 0))).heap = V.heap.push _ from rfl, Array.size_push]; omega, fun b hb => by rw [show (V.alloc (.cells #[.slice a6 ys.length c6, .slice none 0 0] 25 (0, 0))).heap = V.heap.push _ from rfl, Array.getElem?_push_lt hb, Array.getElem?_eq_getElem hb]⟩
  have hd61 := rd2_pair 25 hT.o6.rd
  have h61 : VRel C q (.slice (some ⟨V.heap.size, 0, none⟩) 2 2) (.slice (some ⟨w₂.heap.size, 0, none⟩) 2 2) := .slice _ _ ⟨hq0, by show 0 = 0 + (C.sh V.heap.size).getD 0; rw [hsV]; rfl, rfl, hgV⟩
  replace hT := hT.go low1
  have h2' : Rd (Value.int .u8) (V.alloc (.cells #[.slice a6 ys.length c6, .slice none 0 0] 25 (0, 0))) bV c2 zs := rd_old h2 hT.low.1 hT.low.2
  generalize V.alloc (.cells #[.slice a6 ys.length c6, .slice none 0 0] 25 (0, 0)) = V1 at *
  generalize w₂.alloc (.cells #[.slice a6' ys.length c6, .slice none 0 0] 25 (0, 0)) = w₃ at *
  obtain ⟨a61, ea⟩ : ∃ a : Option Addr, a = some ⟨V.heap.size, 0, none⟩ := ⟨_, rfl⟩
  obtain ⟨v61', ev⟩ : ∃ v : Value, v = .slice (some ⟨w₂.heap.size, 0, none⟩) 2 2 := ⟨_, rfl⟩
  obtain ⟨S1, eS⟩ : ∃ s : OwnB, s = (fun b => S b ∨ b = w₂.heap.size) := ⟨_, rfl⟩
  rw [← ea] at h61 hd61
  rw [← ev] at h61 ⊢
  rw [← eS] at hV1 ⊢
  clear ea ev eS hgV hsV hV h2 hq0
  replace h1 := h1.mono hle
  replace h6 := h6.mono hle
  replace hA := hA.mono hle
  clear hle low1
  replace hA := ((hA.set (.int .i64 (N : Int)) 59).set h6 60).set h61 61
  replace hT := ((hT.set 59 (by omega) (.int .i64 N)).set 60 (by omega) (.slice a6 ys.length c6)).set 61 (by omega) (.slice a61 2 2)
  generalize ((TV.setIfInBounds 59 (.int .i64 N)).setIfInBounds 60 (.slice a6 ys.length c6)).setIfInBounds 61 (.slice a61 2 2) = TV1 at *
  simp only [List.setIfInBounds_toArray, List.set_cons_succ, List.set_cons_zero] at hA
  have h61' := Lib.hid h61
  refine stretchL (F := Vq C Rd0 S1 q V1) (n := 60) (fun _ d h => h.at d) ?_
  u_op fl4 hV1
  refine Goes.stop fun w₄ h₁ => ?_
  replace hV1 := fl4 hV1 h₁
  clear h₁
  refine callH (xv := #[.slice bV zs.length c2, .int .i64 1, .int .i64 8]) (Rv := fun v V' => (∃ x : Nat, v = .int .i64 (x : Int) ∧ x < 8) ∧ Low V1 V') hC (hC.F _ |>.2 (by decide)) rfl rfl (by decide) rfl Try.func7 nmAt rfl hV1.lt hV1.rel hV1.own (fun T d => ?_) (asame_three (by simp [Act.eval]) h1 (.int _ _) (.int _ _)) ?_
  · refine (b10At_any (i := 1) (n := 8) (rd_old h2' (Low.tp V1 T d).1 (Low.tp V1 T d).2) b2 (by omega) (by omega) (by omega)).mono ?_
    rintro e w' ⟨⟨x, rfl, hx⟩, rfl⟩
    exact ⟨⟨x, rfl, hx⟩, .tp V1 T d⟩
  rintro q2 v v' V2 S2 w₅ ⟨⟨x, rfl, hx⟩, hl⟩ hv hV2 hle hK hS2 hq2
  have hv := vrel_int hv
  subst hv
  have hV2 : Vq C Rd0 S2 q2 V2 w₅ := ⟨hV2, fun b hb => hb.elim (fun h => Nat.lt_of_lt_of_le (hV1.lt b (.inl h)) hK.size) (hS2 b), hq2⟩
  replace hT := hT.go hl
  replace hd61 := hl.rd2 hd61
  replace h1 := h1.mono hle
  replace h61 := h61.mono hle
  replace hA := (hA.mono hle).set h1 62
  replace hA := hA.set (.int .i64 (x : Int)) 63
  obtain ⟨wk, hwk⟩ : ∃ wk : Int, wk = 1 + (x : Int) := ⟨_, rfl⟩
  have ewk : IntKind.i64.wrap (1 + (x : Int)) = wk := by rw [IntWalk.i64_in _ (by omega)]; omega
  have hw1 : 1 ≤ wk := by omega
  have hw2 : wk ≤ 8 := by omega
  have hwk' := Lib.hid hwk
  clear hwk hl hle hS2 hq2 hK hV1 h2'
  replace hA := hA.set (.int .i64 wk) 64
  replace hT := ((hT.set 62 (by omega) (.slice bV zs.length c2)).set 63 (by omega) (.int .i64 (x : Int))).set 64 (by omega) (.int .i64 wk)
  generalize ((TV1.setIfInBounds 62 (.slice bV zs.length c2)).setIfInBounds 63 (.int .i64 (x : Int))).setIfInBounds 64 (.int .i64 wk) = TV2 at *
  simp only [List.setIfInBounds_toArray, List.set_cons_succ, List.set_cons_zero] at hA
  walk_nrm
  refine stretchL (F := Vq C Rd0 S2 q2 V2) (n := 60) (fun _ d h => h.at d) ?_
  u_op fl4 hV2
  refine Goes.stop fun w₆ h₁ => ?_
  replace hV2 := fl4 hV2 h₁
  clear h₁
  rw [hK'.out]
  exact .stop fun w₇ h₁ => ⟨q2, V2, TV2, _, N, k, ys, a6, a7, a10, c6, c7, c10, a61, _, v61', wk, hN1, hN2, hk, hE'.out, by obtain ⟨d, rfl⟩ := h₁; exact hV2.at d, hT, hA, hd61, h61, hw1, hw2, rfl, rfl, rfl, rfl⟩
end
end Go.Proofs.Ytfecdmenliohhaa
