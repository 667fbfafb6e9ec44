/- FnExactForestsShared: the run, on whatever tape. -/
import Derived.Test.YtfecdmenliohhaaQLe36
import Derived.Test.YtfecdmenliohhaaQLe37
set_option linter.unusedVariables false
set_option linter.unusedSimpArgs false
set_option linter.unusedSimpArgs false
set_option linter.unusedVariables false
namespace Go.Proofs.Ytfecdmenliohhaa
open Go Go.Conc Go.ConcN Go.RowKit Go.Conc.Lib Go.ConcR.Gen Go.ConcN.Gen
open Go.ConcR (Payload DC0 WgAt)

/-- Since the entry, with blocks of its own. -/
theorem Sofar.kls {W w w' : World} {Shun : Loc → Prop} {S S' : OwnB} (h : Sofar W Shun w) (k : KL S S' w w') (hS : ∀ b, S b → W.heap.size ≤ b) : Sofar W Shun w' ∧ ∀ b, S' b → W.heap.size ≤ b := by
  refine ⟨⟨k.tape.trans h.tape, k.os.trans h.os, k.output.trans h.output, Nat.le_trans h.size k.size, fun b hb => ⟨(k.other b (Nat.lt_of_lt_of_le hb h.size) fun hs => ?_).trans (h.old b hb).1, (h.old b hb).2⟩⟩, fun b hb => ?_⟩
  · have := hS b hs; omega
  · rcases k.fresh b hb with h1 | h1
    · exact hS b h1
    · exact Nat.le_trans h.size h1.1
/-- What a goroutine that leavers stand beside may read. -/
abbrev RdN (Shun : Loc → Prop) (w : World) : Nat → Prop := fun c => c < w.heap.size ∧ NoShun Shun c

section
variable {C : Cx} {W : World} {S : OwnB} {p : Ren} {V w w' : World} {Shun Shun' : Loc → Prop} {n workers : Int} {xss : List (List Int)} {r : Value}
/-- Behind a walk, all that it knows is read anew. -/
theorem Vq.anew {Rd0 : Nat → Prop} (h : Vq C Rd0 S p V w) (hn : ∀ c, Rd0 c ∨ S c → c < w.heap.size ∧ NoShun Shun c) : Vq C (RdN Shun w) S p V w :=
  ⟨h.rel, fun b hb => hb.elim (fun h => h.1) fun hs => h.lt b (.inr hs), fun b c hb => (h.own b c hb).imp (fun x => ⟨hn c (.inl x.1), x.2⟩) id⟩
/-- Behind a call of ForestsShared: the view stands, and the answer is taken into it. -/
theorem Vq.after (h : Vq C (RdN Shun w) S p V w) (hn : ∀ c, S c → c < w.heap.size ∧ NoShun Shun c) (hL : ∀ c, C.lock c → c < w.heap.size ∧ NoShun Shun c) (d : FsDone n workers xss Shun Shun' w w' r) :
    ∃ q V' S' a c v, r = .tuple #[v, .bool (fsOk n xss workers)] ∧ RLe p q ∧ Low V V' ∧ (∀ b, S b → S' b) ∧ (∀ b, S' b → S b ∨ w.heap.size ≤ b) ∧ Vq C (RdN Shun' w') S' q V' w' ∧ (∀ c, S' c → c < w'.heap.size ∧ NoShun Shun' c) ∧ LeR C q V' (fsR n xss workers) V.heap.size a c v := by
  have hz := d.size
  have img : ∀ b c, p b = some c → c < w.heap.size ∧ NoShun Shun c := fun b c hb => (h.own b c hb).elim (fun x => x.1) fun hs => hn c hs
  have hrel : WRel C p V w' := h.rel.keep (fun b c hb => (d.old c (img b c hb).1 (img b c hb).2).1) hz
  have hS : ∀ c, S c → c < w'.heap.size ∧ NoShun Shun' c := fun c hc => ⟨Nat.lt_of_lt_of_le (hn c hc).1 hz, (d.old c (hn c hc).1 (hn c hc).2).2⟩
  have hown : ∀ b c, p b = some c → (RdN Shun' w' c ∧ C.lock c) ∨ S c := fun b c hb => (h.own b c hb).imp (fun x => ⟨⟨Nat.lt_of_lt_of_le x.1.1 hz, (d.old c x.1.1 x.1.2).2⟩, x.2⟩) id
  rcases d.res with ⟨h1, h2⟩ | ⟨h1, Cb, h2, h3, h4, h5, h6⟩
  · have e : fsR n xss workers = [] := by simp [fsR, h1]
    refine ⟨p, V, S, none, 0, .slice none 0 0, by rw [h2, h1], .refl p, .refl V, fun _ h => h, fun _ h => .inl h, ⟨hrel, fun b hb => hb.elim (fun x => x.1) fun x => (hS b x).1, hown⟩, hS, ?_⟩
    rw [e]
    exact ⟨.slice0, own_nil _ _ _ _⟩
  · have e : fsR n xss workers = fsN n xss := by simp [fsR, h1]
    have hCb : Cb < w'.heap.size := by
      by_cases hlt : Cb < w'.heap.size
      · exact hlt
      · rw [Array.getElem?_eq_none (by omega)] at h6
        cases h6
    have hnc : ∀ b, p b ≠ some Cb := fun b hb => by have := (img b Cb hb).1; omega
    have hlen : (fsN n xss).length = xss.length := by simp [fsN]
    have hA := hrel.adopt (o := .cells ((fsN n xss).map (Value.int .i64)).toArray 2 (0, 0)) h6 hnc (fun hl => by have := (hL Cb hl).1; omega) (fun q => orel_ints (q := q) (fsN n xss) 2)
    have hs : (V.alloc (.cells ((fsN n xss).map (Value.int .i64)).toArray 2 (0, 0))).heap = V.heap.push (.cells ((fsN n xss).map (Value.int .i64)).toArray 2 (0, 0)) := rfl
    have hle := extQ_le hrel Cb
    have hlow : Low V (V.alloc (.cells ((fsN n xss).map (Value.int .i64)).toArray 2 (0, 0))) := ⟨by rw [hs, Array.size_push]; omega, fun b hb => by rw [hs, Array.getElem?_push_lt hb, Array.getElem?_eq_getElem hb]⟩
    refine ⟨extQ p V.heap.size Cb, V.alloc (.cells ((fsN n xss).map (Value.int .i64)).toArray 2 (0, 0)), fun b => S b ∨ b = Cb, some ⟨V.heap.size, 0, none⟩, xss.length, .slice (some ⟨Cb, 0, none⟩) xss.length xss.length, by rw [h4, h1], hle, hlow, fun _ h => .inl h, fun b hb => hb.imp id fun e => by omega,
      ⟨hA, fun b hb => ?_, fun b c hb => ?_⟩, fun c hc => ?_, ?_⟩
    · rcases hb with hb | hb | rfl
      · exact hb.1
      · exact (hS b hb).1
      · exact hCb
    · unfold extQ at hb
      split at hb
      · cases hb; exact .inr (.inr rfl)
      · exact (hown b c hb).imp id .inl
    · rcases hc with hc | rfl
      · exact hS c hc
      · exact ⟨hCb, h3⟩
    · rw [e]
      refine ⟨?_, ?_⟩
      · rw [hlen]
        refine .slice _ _ ⟨by simp [extQ], ?_, rfl, hrel.gV⟩
        show 0 = 0 + (C.sh V.heap.size).getD 0
        rw [hrel.shV _ (Nat.le_refl _)]; rfl
      · have h8 : xss.length ≤ 8 := by
          simp only [fsOk, Bool.and_eq_true, decide_eq_true_eq] at h1
          exact h1.1.1.2
        refine ⟨by simp, .inr ⟨V.heap.size, xss.length, ((fsN n xss).map (Value.int .i64)).toArray, rfl, Nat.le_refl _, by rw [hs]; simp, by omega, by simp only [maxLen]; omega, by simp [hlen], ?_⟩⟩
        rw [List.take_of_length_le (by simp)]
end

section
variable {W : World} {la : Option Addr} {lc : Nat} {hs : List Hd} {xss : List (List Int)} {n workers : Int}
set_option maxRecDepth 100000 in
theorem fin5_ends {P : Value → World → Prop} {Shun : Loc → Prop} {B : Nat} {g : Goroutine} {w : World} (h : Fin5 g) (hP : P (.bool true) w) : AtEnd Try.prog Shun B P g w := by
  obtain ⟨T, todo, hT, h8, rfl⟩ := h
  refine ⟨rfl, .bool true, #[], ?_, by simp, hP⟩
  have e8 : T[6]?.getD undef = .bool true := by rw [h8]; rfl
  simp [G, stepG, unwind, doReturn, results, Frame.at, base, Try.func5, Try.f5, seen, GStep.after, e8]

set_option maxRecDepth 100000 in
set_option maxHeartbeats 4000000 in
/-- ████ THE RUN. ████ -/
theorem le_run (h0 : Rd2 (Value.int .i64) W la lc hs xss) : ∃ M last o w' t',
    runNT Try.prog (M + 1) (solo (G (Frame.enter Try.prog 5 #[.int .i64 n, .slice la xss.length lc, .int .i64 workers] .normal) []) W) #[] = (.ended o w', t') ∧
    runN Try.prog M (solo (G (Frame.enter Try.prog 5 #[.int .i64 n, .slice la xss.length lc, .int .i64 workers] .normal) []) W) = .next last ∧ step Try.prog last = .ended o w' ∧ Go.Conc.Good Try.prog (PostA W) last o w' t' := by
  rw [solo_eq_crowd]
  have hlok : LOk W la lc hs xss [] := ⟨h0, fun y hy => by simp at hy⟩
  have hM0 := BesM.begin (P := Try.prog) (G (Frame.enter Try.prog 5 #[.int .i64 n, .slice la xss.length lc, .int .i64 workers] .normal) []) W
  have ends : ∀ {Shun : Loc → Prop} {g : Goroutine} {w : World} {m : Machine} {t : Trace}, Sofar W Shun w → BesM Try.prog Shun g w m t → Fin5 g → ∃ N last o w' t', runNT Try.prog (N + 1) m t = (.ended o w', t') ∧ runN Try.prog N m = .next last ∧ step Try.prog last = .ended o w' ∧ Go.Conc.Good Try.prog (PostA W) last o w' t' := fun {Shun g w m t} hS hM hF =>
    hM.ends fun d => fin5_ends hF ⟨rfl, (hS.below : Below W.heap.size W w).trans ⟨rfl, rfl, rfl, Nat.le_refl _, fun _ _ => rfl⟩⟩
  have glue : ∀ {N : Nat} {m m' : Machine} {t t' : Trace}, runNT Try.prog N m t = (.next m', t') → (∃ K last o w' t'', runNT Try.prog (K + 1) m' t' = (.ended o w', t'') ∧ runN Try.prog K m' = .next last ∧ step Try.prog last = .ended o w' ∧ Go.Conc.Good Try.prog (PostA W) last o w' t'') → ∃ K last o w' t'', runNT Try.prog (K + 1) m t = (.ended o w', t'') ∧ runN Try.prog K m = .next last ∧ step Try.prog last = .ended o w' ∧ Go.Conc.Good Try.prog (PostA W) last o w' t'' := by
    rintro N m m' t t' hr ⟨K, last, o, w', t'', e1, e2, e3, e4⟩
    refine ⟨N + K, last, o, w', t'', ?_, ?_, e3, e4⟩
    · rw [Nat.add_assoc, runNT_add, hr]; exact e1
    · rw [runN_add, ← runNT_fst Try.prog N m t, hr]; exact e2
  -- the view
  let Ro : Nat → Prop := fun b => b < W.heap.size
  obtain ⟨C, eC⟩ : ∃ C, C = viwC LF GB0 Ro badT (lvs GB0 la hs xss []) := ⟨_, rfl⟩
  have hrel : WRel C (viwP GB0 (lvs GB0 la hs xss [])) (viwW GB0 badT (lvs GB0 la hs xss []) W) W := by rw [eC]; exact lvs_rel hlok (fun b hb => inL_lt hlok hb) fun b hb => hb
  have hcq : Cq C := by rw [eC]; exact ⟨viw_list lf_ok rfl bad_none, fun f hf => hf⟩
  have hlk : ∀ c, C.lock c ↔ c < W.heap.size := fun c => by rw [eC]; exact Iff.rfl
  have harg : VRel C (viwP GB0 (lvs GB0 la hs xss [])) (.slice (seenA GB0 0 la) xss.length lc) (.slice la xss.length lc) := by rw [eC]; exact lvs_arg hlok
  have himg : ∀ b c, viwP GB0 (lvs GB0 la hs xss []) b = some c → c < W.heap.size := fun b c hb => inL_lt hlok (lvs_img hlok hb)
  obtain ⟨V0, eV⟩ : ∃ V, V = viwW GB0 badT (lvs GB0 la hs xss []) W := ⟨_, rfl⟩
  have hd0 : Rd2 (Value.int .i64) V0 (seenA GB0 0 la) lc (seenH GB0 hs) xss := by rw [eV]; exact lvs_rd2 hlok (T := (viwW GB0 badT (lvs GB0 la hs xss []) W).tape) (d := (viwW GB0 badT (lvs GB0 la hs xss []) W).drawn)
  rw [← eV] at hrel
  generalize viwP GB0 (lvs GB0 la hs xss []) = p0 at hrel harg himg
  generalize seenA GB0 0 la = aV at harg hd0
  generalize seenH GB0 hs = hsV at hd0
  clear eC eV
  have hns : ∀ c, NoShun (fun _ => False) c := fun c => ⟨fun _ _ h => h, fun h => h⟩
  -- the first stretch
  obtain ⟨N1, m1, t1, g1, w1, S1, r1, hM1, hst, hK1, hown1, _⟩ := hM0.walk (Rd := RdN (fun _ => False) W) (S := fun _ => False) (leA (C := C) (n := n) (workers := workers) (la := la) (w := W) (p := p0) (V := V0) ⟨hrel, fun b hb => hb.elim (fun h => h.1) fun h => h.elim, fun b c hb => .inl ⟨⟨himg b c hb, hns c⟩, (hlk c).2 (himg b c hb)⟩⟩ ⟨hcq, harg, hd0, .refl _⟩) (fun c hc => hc.elim id fun h => h.elim)
  refine glue r1 ?_
  obtain ⟨hS1, hB1⟩ := (Sofar.begin W).kls hK1 (fun b h => h.elim)
  rcases hst with hfin | ⟨p1, V1, T1, v8, v10, b8, a8, c8, b10, h10, a10, c10, hs10, hV1, hG1, hT1, hR1, hX1, h8, hz, hn, t34, t35, t36, rfl⟩
  · exact ends hS1 hM1 hfin
  replace hV1 := hV1.anew hown1
  obtain ⟨l10, k10, rfl, hd10, hin10⟩ := rd2_true hX1.o.rd hX1.r hV1.rel
  have himg1 : ∀ b c, p1 b = some c → c < w1.heap.size ∧ NoShun (fun _ => False) c := fun b c hb => (hV1.own b c hb).elim (fun x => x.1) fun hs => hown1 c (.inr hs)
  obtain ⟨N2, m2, t2, w2, Sh2, x2, r2, hM2, hD2⟩ := fsCall (n := n) (workers := workers) hM1 hd10 (fun b hb => by obtain ⟨b0, h⟩ := hin10 b hb; exact (himg1 b0 b h).2) rfl rfl (by decide) rfl (by simp [Act.eval, t34, t35, t36])
  refine glue r2 ?_
  have hS2 := hS1.fs hD2
  obtain ⟨p2, V2, S2, a11, c11, v11, rfl, hle2, hlow2, hsub2, hnew2, hV2, hown2, hQ2⟩ := hV1.after (fun c hc => hown1 c (.inr hc)) (fun c hc => ⟨Nat.lt_of_lt_of_le ((hlk c).1 hc) hS1.size, hns c⟩) hD2
  have hB2 : ∀ b, S2 b → W.heap.size ≤ b := fun b hb => (hnew2 b hb).elim (hB1 b) fun h => Nat.le_trans hS1.size h
  -- the second
  obtain ⟨N3, m3, t3, g3, w3, S3, r3, hM3, hst3, hK3, hown3, _⟩ := hM2.walk (leB hV2 (hG1.go hle2 hlow2) hT1 (hR1.go hle2 hlow2) (hX1.go hle2 hlow2) h8 hz hn hQ2 hX1.b.2) (fun c hc => hc.elim id fun h => hown2 c h)
  refine glue r3 ?_
  obtain ⟨hS3, hB3⟩ := hS2.kls hK3 hB2
  obtain ⟨p3, V3, T3, v8', v11', b8', a8', c8', b11', a11', c11', hV3, hG3, hT3, hR3, hQ3, h83, hz3, rfl⟩ := hst3
  replace hV3 := hV3.anew hown3
  obtain ⟨N4, m4, t4, g4, w4, S4, r4, hM4, hst4, hK4, hown4, _⟩ := hM3.walk (leC hV3 hG3 hT3 hR3 h83 hz3 hn hQ3) (fun c hc => hc.elim id fun h => hown3 c (.inr h))
  refine glue r4 ?_
  obtain ⟨hS4, hB4⟩ := hS3.kls hK4 hB3
  obtain ⟨p4, V4, T4, v8'', v11'', v84, b8'', a8'', c8'', b11'', a11'', c11'', a84, c84, hs84, hV4, hG4, hT4, hR4, hQ4, hv84, hd84, t82, t84, t85, rfl⟩ := hst4
  replace hV4 := hV4.anew hown4
  obtain ⟨l84, k84, rfl, hd84', hin84⟩ := rd2_true hd84 hv84 hV4.rel
  have himg4 : ∀ b c, p4 b = some c → c < w4.heap.size ∧ NoShun Sh2 c := fun b c hb => (hV4.own b c hb).elim (fun x => x.1) fun hs => hown4 c (.inr hs)
  obtain ⟨N5, m5, t5, w5, Sh5, x5, r5, hM5, hD5⟩ := fsCall (n := n) (workers := workers) hM4 hd84' (fun b hb => by obtain ⟨b0, h⟩ := hin84 b hb; exact (himg4 b0 b h).2) rfl rfl (by decide) rfl (by simp [Act.eval, t82, t84, t85])
  refine glue r5 ?_
  have hS5 := hS4.fs hD5
  obtain ⟨p5, V5, S5, a16, c16, v16, rfl, hle5, hlow5, hsub5, hnew5, hV5, hown5, hY5⟩ := hV4.after (fun c hc => hown4 c (.inr hc)) (fun c hc => ⟨Nat.lt_of_lt_of_le ((hlk c).1 hc) hS4.size, (hS4.old c ((hlk c).1 hc)).2⟩) hD5
  have hB5 : ∀ b, S5 b → W.heap.size ≤ b := fun b hb => (hnew5 b hb).elim (hB4 b) fun h => Nat.le_trans hS4.size h
  -- the third
  obtain ⟨N6, m6, t6, g6, w6, S6, r6, hM6, hst6, hK6, _, _⟩ := hM5.walk (leD hV5 hcq hT4 (hR4.go hle5 hlow5) (hQ4.go hle5 hlow5) hY5) (fun c hc => hc.elim id fun h => hown5 c h)
  exact glue r6 (ends (hS5.kls hK6 hB5).1 hM6 hst6)
end
end Go.Proofs.Ytfecdmenliohhaa
