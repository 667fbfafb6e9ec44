/- FnForests: the run, on whatever tape. -/
import Derived.Test.YtfecdmenliohhaaQFo47
import Derived.Conc.Holds
set_option linter.unusedVariables false
set_option linter.unusedSimpArgs false
set_option linter.unusedSimpArgs false
set_option linter.unusedVariables false
namespace Go.Proofs.Ytfecdmenliohhaa
open Go Go.Conc Go.ConcN Go.RowKit Go.Conc.Lib Go.ConcR.Gen Go.ConcN.Gen
open Go.ConcR (Payload DC0 WgAt)

/-- What the run leaves. -/
def PostF (W : World) (v : Value) (w' : World) : Prop := v = .bool true ∧ Below W.heap.size W w'
section
variable {W : World} {a1 a2 : Option Addr} {c1 c2 : Nat} {xs zs : List Int}
set_option maxRecDepth 100000 in
theorem finF_ends {P : Value → World → Prop} {Shun : Loc → Prop} {B : Nat} {g : Goroutine} {w : World} (h : FinF g) (hP : P (.bool true) w) : AtEnd Try.prog Shun B P g w := by
  obtain ⟨T, todo, hT, h8, rfl⟩ := h
  refine ⟨rfl, .bool true, #[], ?_, by simp, hP⟩
  have e8 : T[4]?.getD undef = .bool true := by rw [h8]; rfl
  simp [G, stepG, unwind, doReturn, results, Frame.at, base, Try.func3, Try.f3, seen, GStep.after, e8]

set_option maxRecDepth 100000 in
set_option maxHeartbeats 4000000 in
/-- ████ THE RUN. ████ -/
theorem fo_run (h1 : Rd (Value.int .u8) W a1 c1 xs) (b1 : ∀ x ∈ xs, 0 ≤ x ∧ x < 256) (h2 : Rd (Value.int .u8) W a2 c2 zs) (b2 : ∀ x ∈ zs, 0 ≤ x ∧ x < 256) : ∃ M last o w' t',
    runNT Try.prog (M + 1) (solo (G (Frame.enter Try.prog 3 #[.slice a1 xs.length c1, .slice a2 zs.length c2] .normal) []) W) #[] = (.ended o w', t') ∧
    runN Try.prog M (solo (G (Frame.enter Try.prog 3 #[.slice a1 xs.length c1, .slice a2 zs.length c2] .normal) []) W) = .next last ∧ step Try.prog last = .ended o w' ∧ Go.Conc.Good Try.prog (PostF W) last o w' t' := by
  rw [solo_eq_crowd]
  have hM0 := BesM.begin (P := Try.prog) (G (Frame.enter Try.prog 3 #[.slice a1 xs.length c1, .slice a2 zs.length c2] .normal) []) W
  have ends : ∀ {Shun : Loc → Prop} {g : Goroutine} {w : World} {m : Machine} {t : Trace}, Sofar W Shun w → BesM Try.prog Shun g w m t → FinF g → ∃ N last o w' t', runNT Try.prog (N + 1) m t = (.ended o w', t') ∧ runN Try.prog N m = .next last ∧ step Try.prog last = .ended o w' ∧ Go.Conc.Good Try.prog (PostF W) last o w' t' := fun {Shun g w m t} hS hM hF =>
    hM.ends fun d => finF_ends hF ⟨rfl, (hS.below : Below W.heap.size W w).trans ⟨rfl, rfl, rfl, Nat.le_refl _, fun _ _ => rfl⟩⟩
  have glue : ∀ {N : Nat} {m m' : Machine} {t t' : Trace}, runNT Try.prog N m t = (.next m', t') → (∃ K last o w' t'', runNT Try.prog (K + 1) m' t' = (.ended o w', t'') ∧ runN Try.prog K m' = .next last ∧ step Try.prog last = .ended o w' ∧ Go.Conc.Good Try.prog (PostF W) last o w' t'') → ∃ K last o w' t'', runNT Try.prog (K + 1) m t = (.ended o w', t'') ∧ runN Try.prog K m = .next last ∧ step Try.prog last = .ended o w' ∧ Go.Conc.Good Try.prog (PostF W) last o w' t'' := by
    rintro N m m' t t' hr ⟨K, last, o, w', t'', e1, e2, e3, e4⟩
    refine ⟨N + K, last, o, w', t'', ?_, ?_, e3, e4⟩
    · rw [Nat.add_assoc, runNT_add, hr]; exact e1
    · rw [runN_add, ← runNT_fst Try.prog N m t, hr]; exact e2
  -- the view
  obtain ⟨C, eC⟩ : ∃ C, C = viwC LG GB0 (fun b => b < W.heap.size) badT (bvs a1 xs a2 zs) := ⟨_, rfl⟩
  have hrel : WRel C (viwP GB0 (bvs a1 xs a2 zs)) (viwW GB0 badT (bvs a1 xs a2 zs) W) W := by rw [eC]; exact bvs_rel h1 h2
  have hC : ListOk Try.prog C LG := by rw [eC]; exact viw_list lg_ok rfl bad_none
  have hlk : ∀ c, C.lock c ↔ c < W.heap.size := fun c => by rw [eC]; exact Iff.rfl
  have r1 : VRel C (viwP GB0 (bvs a1 xs a2 zs)) (.slice (seenA GB0 0 a1) xs.length c1) (.slice a1 xs.length c1) := by rw [eC]; exact bvs_arg1 h1
  have r2 : VRel C (viwP GB0 (bvs a1 xs a2 zs)) (.slice (seenA GB0 1 a2) zs.length c2) (.slice a2 zs.length c2) := by rw [eC]; exact bvs_arg2 h2
  have himg : ∀ b c, viwP GB0 (bvs a1 xs a2 zs) b = some c → c < W.heap.size := fun b c hb => bvs_img h1 h2 hb
  have g1 : Rd (Value.int .u8) (viwW GB0 badT (bvs a1 xs a2 zs) W) (seenA GB0 0 a1) c1 xs := bvs_rd1 h1
  have g2 : Rd (Value.int .u8) (viwW GB0 badT (bvs a1 xs a2 zs) W) (seenA GB0 1 a2) c2 zs := bvs_rd2 h2
  generalize viwW GB0 badT (bvs a1 xs a2 zs) W = V0 at hrel g1 g2
  generalize viwP GB0 (bvs a1 xs a2 zs) = p0 at hrel r1 r2 himg
  generalize seenA GB0 0 a1 = aV at r1 g1
  generalize seenA GB0 1 a2 = bV at r2 g2
  clear eC h1 h2
  have hns : ∀ c, NoShun (fun _ => False) c := fun c => ⟨fun _ _ h => h, fun h => h⟩
  -- up to the call
  obtain ⟨N1, m1, t1, g, w1, S1, e1, hM1, hst, hK1, hown1, _⟩ := hM0.walk (Rd := RdN (fun _ => False) W) (S := fun _ => False) (foHead (C := C) (w := W) (p := p0) (V0 := V0) hC ⟨hrel, fun b hb => hb.elim (fun h => h.1) fun h => h.elim, fun b c hb => .inl ⟨⟨himg b c hb, hns c⟩, (hlk c).2 (himg b c hb)⟩⟩ g1 b1 g2 b2 r1 r2) (fun c hc => hc.elim id fun h => h.elim)
  refine glue e1 ?_
  obtain ⟨hS1, hB1⟩ := (Sofar.begin W).kls hK1 (fun b h => h.elim)
  rcases hst with hfin | ⟨q, V, TV, T, N, k, ys, a6, a7, a10, c6, c7, c10, a61, hs61, v61, wk, hN1, hN2, hk, hE, hV, hT, hA, hd61, h61, hw1, hw2, t59, t61, t64, rfl⟩
  · exact ends hS1 hM1 hfin
  replace hV := hV.anew hown1
  obtain ⟨l61, k61, rfl, hd, hin⟩ := rd2_true (xss := [ys, []]) hd61 h61 hV.rel
  have himg1 : ∀ b c, q b = some c → c < w1.heap.size ∧ NoShun (fun _ => False) c := fun b c hb => (hV.own b c hb).elim (fun x => x.1) fun hs => hown1 c (.inr hs)
  -- the call
  obtain ⟨N2, m2, t2, w2, Sh2, x2, e2, hM2, hD2⟩ := fsCall (n := (N : Int)) (workers := wk) hM1 hd (fun b hb => by obtain ⟨b0, h⟩ := hin b hb; exact (himg1 b0 b h).2) rfl rfl (by decide) rfl (by simp [Act.eval, t59, t61, t64])
  refine glue e2 ?_
  have hS2 := hS1.fs hD2
  have hok : fsOk (N : Int) [ys, []] wk = true := by
    have e1 := hE.edgesB hN1 hN2 hk
    have e2 : edgesB (N : Int) [] = true := by
      unfold edgesB
      rw [show inR (N : Int) 2 32 = true by rw [inR_eq]; omega]
      rfl
    unfold fsOk badE
    rw [show inR (N : Int) 2 32 = true by rw [inR_eq]; omega, show inR wk 1 8 = true by rw [inR_eq]; omega]
    simp [e1, e2]
  obtain ⟨q2, V2, S2, a13, x, rfl, hle2, hlow2, hsub2, hnew2, hV2, hown2, h13, o13⟩ := hV.afterT (fun c hc => hown1 c (.inr hc)) (fun c hc => ⟨Nat.lt_of_lt_of_le ((hlk c).1 hc) hS1.size, hns c⟩) hD2 hok
  have hB2 : ∀ b, S2 b → W.heap.size ≤ b := fun b hb => (hnew2 b hb).elim (hB1 b) fun h => Nat.le_trans hS1.size h
  have e13 : fsN (N : Int) [ys, []] = [forestN N ys, (N : Int)] := by
    simp only [fsN, List.map_cons, List.map_nil, fs_two (W := 0) hE hN1 hN2 hk]
  rw [e13] at h13 o13
  -- behind it
  obtain ⟨N3, m3, t3, g3, w3, S3, e3, hM3, hst3, hK3, _, _⟩ := hM2.walk (foE (x := x) hC hN1 hN2 hk hE hV2 (hT.go hlow2) (hA.mono hle2) g2 b2 h13 o13.rd) (fun c hc => hc.elim id fun h => hown2 c h)
  exact glue e3 (ends (hS2.kls hK3 hB2).1 hM3 hst3)
end
end Go.Proofs.Ytfecdmenliohhaa
