/- A call of ForestsShared beside leavers: the machine comes back to the caller with its answer. -/
import Derived.Test.YtfecdmenliohhaaQLe30
set_option linter.unusedVariables false
set_option linter.unusedSimpArgs false
set_option linter.unusedSimpArgs false
set_option linter.unusedVariables false
namespace Go.Proofs.Ytfecdmenliohhaa
open Go Go.Conc Go.ConcN Go.RowKit Go.Conc.Lib Go.ConcR.Gen Go.ConcN.Gen
open Go.ConcR (Payload DC0 WgAt stA)

/-- The pool of one call. -/
def fsX (n : Int) (xss : List (List Int)) (W Wg Cb : Nat) (Ro : Nat → Prop) : PX :=
  { ty := wgLink.tWg, Wg := Wg, C := Cb, n := xss.length, ety := 2, Ro := Ro, mine := fun i k => k % W = i, val := fun k => .int .i64 (forestN n (xss[k]?.getD [])), W := W }
def fsRows (hs : List Hd) (xss : List (List Int)) (k : Nat) : Option Addr × Nat × List Int := ((hs[k]?.getD (none, 0, 0)).1, (hs[k]?.getD (none, 0, 0)).2.2, xss[k]?.getD [])
/-- Goroutine 0 is back in ForestsShared. -/
noncomputable def gBack (TF : Array Value) (csF : List Frame) : Goroutine := G ((base 11).at ⟨TF.setIfInBounds 34 (.tuple #[]), []⟩ [.inRegion opsF [], .code restF]) csF
def fsEnd (TF : Array Value) (csF : List Frame) : OwnB → Goroutine → World → Prop := fun _ g _ => g = gBack TF csF

section
variable {X : PX} {TF : Array Value} {csF : List Frame}
theorem fsBack (hty : X.ty = wgLink.tWg) (S : OwnB) (a₀ : Act) (w : World) (ha : AokS a₀) (hF : True ∧ WgLive X.ty X.Wg w) :
    GG Try.prog true (RSt X) (GSt X) (fsEnd TF csF) S (G ((base 35).at (a₀.put ((opsS[0]?).bind (·.dst)) (.tuple #[])) (.inRegion opsS [] :: [])) ((base 11).at ⟨TF, []⟩ [.inRegion opsF [4], .code restF] :: csF)) w := by
  obtain ⟨T, ds⟩ := a₀
  obtain ⟨hT, hd⟩ := ha
  simp only at hT hd
  subst hd
  have e : (opsS[0]?).bind (·.dst) = some 16 := rfl
  have eF : (opsF[4]?).bind (·.dst) = some 34 := rfl
  rw [e]
  have hFS : ∀ w w₁, RSt X S w w₁ → True ∧ WgLive X.ty X.Wg w → True ∧ WgLive X.ty X.Wg w₁ := fun _ _ r h => ⟨trivial, r.live h.2⟩
  refine stretch (F := fun _ => True) (n := 60) hFS ?_
  u_c stepG_region_end fl2 hF
  u_c stepG_end fl2 hF
  u_in fl2 hF
  refine goes_leave0 rfl rfl Try.func35 rfl ⟨by u_nil, ?_⟩
  refine Goes.stop fun w₁ h₁ => .stop fun w₂ h₂ => ?_
  rw [eF]
  rfl
end

theorem cons_of {α : Type} {l : List α} {n : Nat} (h : l.length = n + 1) : ∃ v l', l = v :: l' ∧ l'.length = n := by
  cases l with
  | nil => simp at h
  | cons v l' => exact ⟨v, l', rfl, by simpa using h⟩
theorem array36 (T : Array Value) (h : T.size = 36) : ∃ v0 v1 v2 v3 v4 v5 v6 v7 v8 v9 v10 v11 v12 v13 v14 v15 v16 v17 v18 v19 v20 v21 v22 v23 v24 v25 v26 v27 v28 v29 v30 v31 v32 v33 v34 v35, T = #[v0, v1, v2, v3, v4, v5, v6, v7, v8, v9, v10, v11, v12, v13, v14, v15, v16, v17, v18, v19, v20, v21, v22, v23, v24, v25, v26, v27, v28, v29, v30, v31, v32, v33, v34, v35] := by
  obtain ⟨l⟩ := T
  simp only [List.size_toArray] at h
  obtain ⟨v0, l0, e0, h⟩ := cons_of h
  obtain ⟨v1, l1, e1, h⟩ := cons_of h
  obtain ⟨v2, l2, e2, h⟩ := cons_of h
  obtain ⟨v3, l3, e3, h⟩ := cons_of h
  obtain ⟨v4, l4, e4, h⟩ := cons_of h
  obtain ⟨v5, l5, e5, h⟩ := cons_of h
  obtain ⟨v6, l6, e6, h⟩ := cons_of h
  obtain ⟨v7, l7, e7, h⟩ := cons_of h
  obtain ⟨v8, l8, e8, h⟩ := cons_of h
  obtain ⟨v9, l9, e9, h⟩ := cons_of h
  obtain ⟨v10, l10, e10, h⟩ := cons_of h
  obtain ⟨v11, l11, e11, h⟩ := cons_of h
  obtain ⟨v12, l12, e12, h⟩ := cons_of h
  obtain ⟨v13, l13, e13, h⟩ := cons_of h
  obtain ⟨v14, l14, e14, h⟩ := cons_of h
  obtain ⟨v15, l15, e15, h⟩ := cons_of h
  obtain ⟨v16, l16, e16, h⟩ := cons_of h
  obtain ⟨v17, l17, e17, h⟩ := cons_of h
  obtain ⟨v18, l18, e18, h⟩ := cons_of h
  obtain ⟨v19, l19, e19, h⟩ := cons_of h
  obtain ⟨v20, l20, e20, h⟩ := cons_of h
  obtain ⟨v21, l21, e21, h⟩ := cons_of h
  obtain ⟨v22, l22, e22, h⟩ := cons_of h
  obtain ⟨v23, l23, e23, h⟩ := cons_of h
  obtain ⟨v24, l24, e24, h⟩ := cons_of h
  obtain ⟨v25, l25, e25, h⟩ := cons_of h
  obtain ⟨v26, l26, e26, h⟩ := cons_of h
  obtain ⟨v27, l27, e27, h⟩ := cons_of h
  obtain ⟨v28, l28, e28, h⟩ := cons_of h
  obtain ⟨v29, l29, e29, h⟩ := cons_of h
  obtain ⟨v30, l30, e30, h⟩ := cons_of h
  obtain ⟨v31, l31, e31, h⟩ := cons_of h
  obtain ⟨v32, l32, e32, h⟩ := cons_of h
  obtain ⟨v33, l33, e33, h⟩ := cons_of h
  obtain ⟨v34, l34, e34, h⟩ := cons_of h
  obtain ⟨v35, l35, e35, h⟩ := cons_of h
  obtain rfl := List.length_eq_zero_iff.1 h
  exact ⟨v0, v1, v2, v3, v4, v5, v6, v7, v8, v9, v10, v11, v12, v13, v14, v15, v16, v17, v18, v19, v20, v21, v22, v23, v24, v25, v26, v27, v28, v29, v30, v31, v32, v33, v34, v35, by rw [e0, e1, e2, e3, e4, e5, e6, e7, e8, e9, e10, e11, e12, e13, e14, e15, e16, e17, e18, e19, e20, e21, e22, e23, e24, e25, e26, e27, e28, e29, e30, e31, e32, e33, e34, e35]⟩
/-- The box holds this. -/
def BoxIs (ob : Nat) (v : Value) (w : World) : Prop := w.cell? ⟨ob, 0, none⟩ = some v
set_option maxRecDepth 100000 in
set_option maxHeartbeats 2000000 in
/-- Out of ForestsShared. -/
theorem fsOut {Rd0 : Nat → Prop} {S : OwnB} {Stop : OwnB → Goroutine → World → Prop} {TF : Array Value} {b : Frame} {cs : List Frame} {k : List Item} {ops : Array Oper} {ix : Nat} {rest : List Nat} {o : Oper} {a : Act} {w : World} {ob : Nat} {v : Value} (ho : ops[ix]? = some o) (hT : TF.size = 36) (h8 : TF[8]? = some (.pointer (some ⟨ob, 0, none⟩))) (hF : BoxIs ob v w) (hob : Rd0 ob)
    (kont : ∀ w', w'.cell? ⟨ob, 0, none⟩ = some v → GG Try.prog true RL (GL Rd0) Stop S (G (b.at (a.put o.dst (.tuple #[v, .bool true])) (.inRegion ops rest :: k)) cs) w') :
    GG Try.prog true RL (GL Rd0) Stop S (gBack TF (b.at a (.inRegion ops (ix :: rest) :: k) :: cs)) w := by
  obtain ⟨v0, v1, v2, v3, v4, v5, v6, v7, v8, v9, v10, v11, v12, v13, v14, v15, v16, v17, v18, v19, v20, v21, v22, v23, v24, v25, v26, v27, v28, v29, v30, v31, v32, v33, v34, v35, rfl⟩ := array36 TF hT
  simp only [List.getElem?_toArray, List.getElem?_cons_zero, List.getElem?_cons_succ, Option.some.injEq] at h8
  subst h8
  simp only [gBack, opsF, restF, Try.f11, List.setIfInBounds_toArray, List.set_cons_succ, List.set_cons_zero]
  refine stretchL (F := BoxIs ob v) (n := 60) (fun _ d h => h) ?_
  u_c stepG_region_end fl4 hF
  u_c stepG_seq fl4 hF
  u_reg fl4 hF
  refine Goes.stop fun w₁ h₁ => ?_
  replace hF := fl4 hF h₁
  clear h₁
  refine GG.goes rfl fun w₂ h₁ => ?_
  replace hF : BoxIs ob v w₂ := by obtain ⟨d, rfl⟩ := h₁; exact hF
  clear h₁
  refine goes_oper_k rfl rfl (by decide) (fun K hK => ?_)
  have hc : w₂.cell? ⟨ob, 0, none⟩ = some v := hF
  go_simp
  refine hK _ _ ⟨_, GL.readAt (a := ⟨ob, 0, none⟩) (.inl hob) fun e he => ?_, ?_⟩
  · have hm' := mem_listed he
    simp [go_sem, hc] at hm'
    exact hm'
  clear hK K hc
  refine stretchL (F := BoxIs ob v) (n := 60) (fun _ d h => h) ?_
  u_op fl4 hF
  u_op fl4 hF
  u_c stepG_region_end fl4 hF
  u_c stepG_ret' fl4 hF
  refine Goes.stop fun w₃ h₁ => ?_
  replace hF := fl4 hF h₁
  clear h₁
  refine GG.leave2 GL.idle RL.trans rfl rfl Try.func11 rfl ?_
  simp only [ho, Option.bind_some]
  exact kont _ hF

/-- What the call leaves. -/
structure FsDone (n workers : Int) (xss : List (List Int)) (Shun Shun' : Loc → Prop) (w w' : World) (r : Value) : Prop where
  tape : w'.tape = w.tape
  os : w'.os = w.os
  output : w'.output = w.output
  size : w.heap.size ≤ w'.heap.size
  old : ∀ b, b < w.heap.size → NoShun Shun b → w'.heap[b]? = w.heap[b]? ∧ NoShun Shun' b
  res : (fsOk n xss workers = false ∧ r = .tuple #[.slice none 0 0, .bool false]) ∨
    (fsOk n xss workers = true ∧ ∃ C, w.heap.size ≤ C ∧ NoShun Shun' C ∧ r = .tuple #[.slice (some ⟨C, 0, none⟩) xss.length xss.length, .bool true] ∧ Rd (Value.int .i64) w' (some ⟨C, 0, none⟩) xss.length (fsN n xss) ∧ w'.heap[C]? = some (.cells ((fsN n xss).map (Value.int .i64)).toArray 2 (0, 0)))

section
variable {Shun : Loc → Prop} {la : Option Addr} {lc : Nat} {hs : List Hd} {xss : List (List Int)} {n workers : Int} {b : Frame} {cs : List Frame} {k : List Item} {ops : Array Oper} {ix : Nat} {rest : List Nat} {o : Oper} {a : Act} {w : World} {m : Machine} {t : Trace}

set_option maxRecDepth 100000 in
set_option maxHeartbeats 4000000 in
/-- ████ A call of ForestsShared. ████ -/
theorem fsCall (hM : BesM Try.prog Shun (G (b.at a (.inRegion ops (ix :: rest) :: k)) cs) w m t) (h0 : Rd2 (Value.int .i64) w la lc hs xss) (hsh : ∀ b, inL la hs xss [] b → NoShun Shun b) {args : Array Operand} {ats : Array TypeId}
    (ho : ops[ix]? = some o) (hw : Region.wanted o (yielded ops a.tmps) = true) (hk : b.kind ≠ .early) (hop : o.op = .call { callee := .value (.func 11), args, argTypes := ats }) (hargs : args.map a.eval = #[.int .i64 n, .slice la xss.length lc, .int .i64 workers]) :
    ∃ N m' t' w' Shun' r, runNT Try.prog N m t = (.next m', t') ∧ BesM Try.prog Shun' (G (b.at (a.put o.dst r) (.inRegion ops rest :: k)) cs) w' m' t' ∧ FsDone n workers xss Shun Shun' w w' r := by
  have hfresh : ∀ c, w.heap.size ≤ c → NoShun Shun c := by obtain ⟨_, _, _, _, _, _, _, h⟩ := hM; exact h
  have hlok : LOk w la lc hs xss [] := ⟨h0, fun y hy => by simp at hy⟩
  let StopF : OwnB → Goroutine → World → Prop := fun S' g w' =>
    (fsOk n xss workers = false ∧ FSt w [] S' w' ∧ g = G (b.at (a.put o.dst (.tuple #[.slice none 0 0, .bool false])) (.inRegion ops rest :: k)) cs) ∨
    (fsOk n xss workers = true ∧ ∃ T TF nb lb ob Cb nB wB dB Wg, FsAt w la lc xss.length n workers S' w' T TF nb lb ob Cb nB wB dB Wg ∧ g = G ((base 35).at ⟨T, []⟩ [.code loopS, .inLoop loopS, .inBlock 0, .code lastS]) ((base 11).at ⟨TF, []⟩ [.inRegion opsF [4], .code restF] :: b.at a (.inRegion ops (ix :: rest) :: k) :: cs))
  have hG1 : GG Try.prog true RL (GL fun c => c < w.heap.size ∧ NoShun Shun c) StopF (fun _ => False) (G (b.at a (.inRegion ops (ix :: rest) :: k)) cs) w :=
    fsHead h0 (fun c hc => ⟨inL_lt hlok hc, hsh c hc⟩) (fun c hc => hc.1) ho hw hk hop hargs (FSt.begin w)
      (fun S' w' T TF nb lb ob Cb nB wB dB Wg hok _ hat => .stop fun w₁ hr => .inr ⟨hok, T, TF, nb, lb, ob, Cb, nB, wB, dB, Wg, ⟨hat.t17, hat.t3, hat.t4, hat.t5, hat.t6, hat.t9, hat.t10, hat.tf, hat.tf8, hat.fs.rl hr, hat.ord⟩, rfl⟩)
      (fun S' w' hno _ hF => .stop fun w₁ hr => .inl ⟨hno, hF.rl hr, rfl⟩)
  obtain ⟨N1, m1, t1, a1, w1, S1, r1, hM1, hst, hK1, hgood1, hrel1⟩ := hM.walk hG1 (fun c hc => hc.elim id fun h => h.elim)
  rcases hst with ⟨hno, hF, rfl⟩ | ⟨hok, T, TF, nb, lb, ob, Cb, nB, wB, dB, Wg, hat, rfl⟩
  · exact ⟨N1, m1, t1, w1, Shun, _, r1, hM1, ⟨hK1.tape, hK1.os, hK1.output, hK1.size, fun c hc hn => ⟨hF.old c hc, hn⟩, .inl ⟨hno, rfl⟩⟩⟩
  · have hokk := hok
    simp only [fsOk, Bool.and_eq_true, decide_eq_true_eq, Bool.not_eq_true', inR_eq] at hokk
    obtain ⟨⟨⟨⟨hn2, hn32⟩, hl8⟩, hw1, hw8⟩, hbad⟩ := hokk
    obtain ⟨W, rfl⟩ : ∃ W : Nat, workers = (W : Int) := ⟨workers.toNat, by omega⟩
    obtain ⟨q1, q2, q3, q4, q5, q6, q7, q8⟩ := hat.ord
    have hfs := hat.fs
    have hsz := hfs.size
    have bWg := hfs.blk (Wg, .cells #[.int .u64 0, .int .u32 0] 73 (0, 0)) (by simp)
    have bC := hfs.blk (Cb, .cells (madeCells #[.int .i64 0] xss.length) 2 (0, 0)) (by simp)
    have lWg := (hfs.bnd _ bWg.2.2).2
    simp only at lWg
    have c_nb := hfs.cell (n := nb) (v := .int .i64 n) (e := 2) (by simp)
    have c_lb := hfs.cell (n := lb) (v := .slice la xss.length lc) (e := 31) (by simp)
    have c_ob := hfs.cell (n := ob) (v := .slice (some ⟨Cb, 0, none⟩) xss.length xss.length) (e := 25) (by simp)
    have c_nB := hfs.cell (n := nB) (v := .int .i64 (xss.length : Int)) (e := 3) (by simp)
    have c_wB := hfs.cell (n := wB) (v := .int .i64 (W : Int)) (e := 2) (by simp)
    have c_dB := hfs.cell (n := dB) (v := .func (.func 36) #[] #[.pointer (some ⟨nb, 0, none⟩), .pointer (some ⟨lb, 0, none⟩), .pointer (some ⟨ob, 0, none⟩)]) (e := 54) (by simp)
    obtain ⟨X, hX⟩ : ∃ X, X = fsX n xss W Wg Cb (fun c => c < w1.heap.size ∧ c ≠ Cb ∧ c ≠ Wg ∧ NoShun Shun c) := ⟨_, rfl⟩
    have eTy : X.ty = wgLink.tWg := by rw [hX]; rfl
    have eWg : X.Wg = Wg := by rw [hX]; rfl
    have eC : X.C = Cb := by rw [hX]; rfl
    have eN : X.n = xss.length := by rw [hX]; rfl
    have eE : X.ety = 2 := by rw [hX]; rfl
    have eW : X.W = W := by rw [hX]; rfl
    have eM : ∀ i k, X.mine i k ↔ k % X.W = i := fun i k => by rw [hX]; exact Iff.rfl
    have eV : ∀ k, X.val k = .int .i64 (forestN n (xss[k]?.getD [])) := fun k => by rw [hX]; rfl
    have eRo : ∀ c, X.Ro c ↔ (c < w1.heap.size ∧ c ≠ Cb ∧ c ≠ Wg ∧ NoShun Shun c) := fun c => by rw [hX]; exact Iff.rfl
    clear hX
    have roNew : ∀ c, w.heap.size ≤ c → c < w1.heap.size → c ≠ Cb → c ≠ Wg → X.Ro c := fun c h1 h2 h3 h4 => (eRo c).2 ⟨h2, h3, h4, hfresh c h1⟩
    have roOld : ∀ c, c < w.heap.size → NoShun Shun c → X.Ro c := fun c h1 h2 => (eRo c).2 ⟨by omega, by omega, by omega, h2⟩
    have hr1 := rd2_old h0 hsz hfs.old
    have hlen := h0.len
    have inl := fun c hc => inL_lt hlok (b := c) hc
    have hWF : WF X GB0 nb lb ob n la lc xss.length (fsRows hs xss) w1 := by
      refine ⟨roNew _ (by omega) (by omega) (by omega) (by omega), roNew _ (by omega) (by omega) (by omega) (by omega), roNew _ (by omega) (by omega) (by omega) (by omega), fun hp => ?_, fun k hk a ha hl => ?_, c_nb.1, by rw [eN]; exact c_lb.1, by rw [eN, eC]; exact c_ob.1, fun k hk => ?_, fun k hk => ?_⟩
      · rw [eN] at hp
        obtain ⟨b', o', e, hlt⟩ := h0.top.here (by omega)
        have hin : inL la hs xss [] b' := .inl ⟨_, e, rfl, fun h => by rw [h] at hlen; simp at hlen; omega⟩
        exact ⟨b', o', e, roOld _ hlt (hsh _ hin)⟩
      · rw [eN] at hk
        obtain ⟨hd, xs, e1, e2, e3, e4⟩ := h0.row k hk
        simp only [fsRows, e1, e2, Option.getD_some] at ha hl
        have hin : inL la hs xss [] a.block := .inr (.inl ⟨k, hd, xs, a, e1, e2, ha, rfl, fun h => by rw [h] at hl; simp at hl⟩)
        exact roOld _ (inl _ hin) (hsh _ hin)
      · rw [eN] at hk
        obtain ⟨hd, xs, e1, e2, e3, e4⟩ := hr1.row k hk
        have hc := hr1.top.cell k (by omega)
        rw [hc, e1, Option.getD_some]
        simp only [fsRows, e1, e2, Option.getD_some, hdV, e3]
      · rw [eN] at hk
        obtain ⟨hd, xs, e1, e2, e3, e4⟩ := hr1.row k hk
        simp only [fsRows, e1, e2, Option.getD_some]
        exact e4
    have hSG : SG X nb lb ob nB wB dB w1 := ⟨roNew _ (by omega) (by omega) (by omega) (by omega), roNew _ (by omega) (by omega) (by omega) (by omega), roNew _ (by omega) (by omega) (by omega) (by omega), by rw [eN]; exact c_nB.1, by rw [eW]; exact c_wB.1, c_dB.1⟩
    have hwg : WgAt X.ty X.Wg w1 0 0 := by rw [eTy, eWg]; exact bWg.1
    have hpay : X.Pay w1 := ⟨_, by rw [eC, eE]; exact bC.1, by rw [eN]; simp [madeCells]⟩
    have hroC : ∀ c, X.Ro c → c ≠ X.C ∧ c ≠ X.Wg := fun c hc => by rw [eC, eWg]; exact ⟨((eRo c).1 hc).2.1, ((eRo c).1 hc).2.2.1⟩
    have hsp := spawnsS (X := X) (fr := (base 11).at ⟨TF, []⟩ [.inRegion opsF [4], .code restF]) (cs := b.at a (.inRegion ops (ix :: rest) :: k) :: cs) (rows := fsRows hs xss) (N := n) (LL := LF) (bad := badT) (GB := GB0) lf_ok (by decide) rfl bad_none hroC eE eTy (by rw [eWg, eC]; omega) eM (by rw [eN]; omega) (by rw [eW]; omega) (fun k _ => eV k)
      X.W (fun _ => False) T w1 (Nat.le_refl _) hat.t17 hat.t3 hat.t4 hat.t5 (by rw [eWg]; exact hat.t6) (by rw [eW]; exact hat.t9) (by rw [Nat.sub_self]; exact hat.t10) hWF hSG hpay ⟨_, _, hwg⟩
      ⟨fun _ h => h.elim, fun h => h, fun h => h, fun c hc => hc.elim (fun h => ((eRo c).1 h).1) fun h => h.elim, by rw [eC]; omega, by rw [eWg]; omega⟩
    have K : PXOk X := ⟨by rw [eC, eWg]; omega, fun c hc => ⟨(hroC c hc).2, (hroC c hc).1⟩, fun i i' k h h' => ((eM i k).1 h).symm.trans ((eM i' k).1 h'), fun k _ => ⟨k % X.W, Nat.mod_lt _ (by rw [eW]; omega), (eM _ _).2 rfl⟩, by rw [eW]; omega⟩
    obtain ⟨N2, m2, t2, a2, w2, S2, r2, hM2, hE, hH, hval, hpay2, _⟩ := hM1.pool (End := fsEnd TF (b.at a (.inRegion ops (ix :: rest) :: k) :: cs)) K (fun S g w h => by obtain ⟨_, _, _, rfl, _⟩ := h; rfl) (fun S g w h => by rw [show g = _ from h]; rfl)
      (fun S g w h => gWaitRound wgLib eTy (fun S a₀ w ha hF => fsBack eTy S a₀ w ha hF) S g w h) (hrel1 _ (hM.fresh (by show w.heap.size ≤ X.Wg; rw [eWg]; omega))) hwg hpay
      (fun c hc => by
        rcases hc with h | h | h | h
        · exact ⟨((eRo c).1 h).1, ((eRo c).1 h).2.2.2⟩
        · exact h.elim
        · rw [h, eWg]; exact ⟨by omega, hfresh _ (by omega)⟩
        · rw [h, eC]; exact ⟨by omega, hfresh _ (by omega)⟩) (fun _ h => h.elim) hsp
    obtain rfl : a2 = gBack TF (b.at a (.inRegion ops (ix :: rest) :: k) :: cs) := hE
    have shun2 : ∀ c, NoShun Shun c → c ≠ Wg → NoShun (fun l => Shun l ∨ ShN X.Wg l) c := fun c h hne => by
      refine ⟨fun ad hb hs => hs.elim (h.1 ad hb) fun hs => ?_, fun hs => hs.elim h.2 fun hs => ?_⟩
      · obtain ⟨a, e, ha⟩ := hs
        cases e
        rw [eWg] at ha
        exact hne (hb.symm.trans ha)
      · obtain ⟨a, e, ha⟩ := hs
        cases e
    have hz2 := hH.size
    have hob2 : w2.cell? ⟨ob, 0, none⟩ = some (.slice (some ⟨Cb, 0, none⟩) xss.length xss.length) := by
      rw [← c_ob.1]
      unfold World.cell?
      rw [hH.ro ob (roNew _ (by omega) (by omega) (by omega) (by omega))]
    let Stop2 : OwnB → Goroutine → World → Prop := fun _ g _ => g = G (b.at (a.put o.dst (.tuple #[.slice (some ⟨Cb, 0, none⟩) xss.length xss.length, .bool true])) (.inRegion ops rest :: k)) cs
    have hG2 : GG Try.prog true RL (GL fun c => c < w2.heap.size ∧ NoShun (fun l => Shun l ∨ ShN X.Wg l) c) Stop2 (fun _ => False) (gBack TF (b.at a (.inRegion ops (ix :: rest) :: k) :: cs)) w2 :=
      fsOut ho hat.tf hat.tf8 hob2 ⟨by omega, shun2 _ (hfresh _ (by omega)) (by omega)⟩ fun w' _ => .stop fun _ _ => rfl
    obtain ⟨N3, m3, t3, a3, w3, S3, r3, hM3, hst3, hK3, _, _⟩ := hM2.walk hG2 (fun c hc => hc.elim id fun h => h.elim)
    obtain rfl : a3 = _ := hst3
    have same3 : ∀ c, c < w2.heap.size → w3.heap[c]? = w2.heap[c]? := fun c hc => hK3.other c hc (fun h => h)
    have hz3 := hK3.size
    refine ⟨N1 + N2 + N3, m3, t3, w3, _, _, Go.ConcX.runNT_trans (Go.ConcX.runNT_trans r1 r2) r3, hM3, ⟨hK3.tape.trans (hH.tape.trans hK1.tape), hK3.os.trans (hH.os.trans hK1.os), hK3.output.trans (hH.output.trans hK1.output), by omega, fun c hc hn => ⟨?_, shun2 c hn (by omega)⟩, .inr ⟨hok, Cb, by omega, shun2 _ (hfresh _ (by omega)) (by omega), rfl, ?_, ?_⟩⟩⟩
    · rw [same3 c (by omega), hH.ro c (roOld c hc hn), hfs.old c hc]
    · refine ⟨by simp [fsN], by omega, (fun e => by cases e), fun _ => ⟨Cb, 0, rfl, by omega⟩, fun k hk => ?_⟩
      have hk' : k < xss.length := by simpa [fsN] using hk
      rw [elt_some, Nat.zero_add]
      have h1 := hval k (by rw [eN]; exact hk')
      rw [eC, eV] at h1
      have h2 : w3.cell? ⟨Cb, k, none⟩ = w2.cell? ⟨Cb, k, none⟩ := by unfold World.cell?; rw [same3 Cb (by omega)]
      rw [h2, h1]
      simp [fsN, hk']
    · obtain ⟨cs2, e2, e3⟩ := hpay2
      rw [eC, eE] at e2
      rw [same3 Cb (by omega), e2]
      have e4 : cs2 = ((fsN n xss).map (Value.int .i64)).toArray := by
        apply Array.ext
        · rw [e3, eN]; simp [fsN]
        · intro k h1 h2
          have hk' : k < xss.length := by rw [← eN, ← e3]; exact h1
          have h3 := hval k (by rw [eN]; exact hk')
          rw [eC, eV] at h3
          simp only [World.cell?, e2] at h3
          have h4 : cs2[k]? = some (.int .i64 (forestN n (xss[k]?.getD []))) := by simpa using h3
          rw [Array.getElem?_eq_getElem h1] at h4
          rw [Option.some.inj h4]
          simp [fsN, hk']
      rw [e4]
end
end Go.Proofs.Ytfecdmenliohhaa
