/- FnForestsSharedOfAll: the run, on whatever tape. -/
import Derived.Test.YtfecdmenliohhaaQLe34
import Derived.Conc.Holds
set_option linter.unusedVariables false
set_option linter.unusedSimpArgs false
set_option linter.unusedSimpArgs false
set_option linter.unusedVariables false
namespace Go.Proofs.Ytfecdmenliohhaa
open Go Go.Conc Go.ConcN Go.RowKit Go.Conc.Lib Go.ConcR.Gen Go.ConcN.Gen
open Go.ConcR (Payload DC0 WgAt)

/-- Since the entry: the old blocks stand, and nobody shuns them. -/
structure Sofar (W : World) (Shun : Loc → Prop) (w : World) : Prop where
  tape : w.tape = W.tape
  os : w.os = W.os
  output : w.output = W.output
  size : W.heap.size ≤ w.heap.size
  old : ∀ b, b < W.heap.size → w.heap[b]? = W.heap[b]? ∧ NoShun Shun b
/-- A slice that is to be read and that nobody shuns. -/
def Rdy (Shun : Loc → Prop) (w : World) (a : Option Addr) (c : Nat) (xs : List Int) : Prop := Rd (Value.int .i64) w a c xs ∧ (xs ≠ [] → ∃ ad, a = some ad ∧ ad.block < w.heap.size ∧ NoShun Shun ad.block)
section
variable {W w w' : World} {Shun Shun' : Loc → Prop} {S S' : OwnB} {n workers : Int} {xss : List (List Int)} {r : Value} {a : Option Addr} {c : Nat} {xs : List Int}
theorem Sofar.begin (W : World) : Sofar W (fun _ => False) W := ⟨rfl, rfl, rfl, Nat.le_refl _, fun b hb => ⟨rfl, fun _ _ h => h, fun h => h⟩⟩
theorem Sofar.fs (h : Sofar W Shun w) (d : FsDone n workers xss Shun Shun' w w' r) : Sofar W Shun' w' := by
  refine ⟨d.tape.trans h.tape, d.os.trans h.os, d.output.trans h.output, Nat.le_trans h.size d.size, fun b hb => ?_⟩
  have h1 := h.old b hb
  have h2 := d.old b (Nat.lt_of_lt_of_le hb h.size) h1.2
  exact ⟨h2.1.trans h1.1, h2.2⟩
theorem Sofar.kl (h : Sofar W Shun w) (k : KL (fun _ => False) S' w w') : Sofar W Shun w' := by
  refine ⟨k.tape.trans h.tape, k.os.trans h.os, k.output.trans h.output, Nat.le_trans h.size k.size, fun b hb => ⟨(k.other b (Nat.lt_of_lt_of_le hb h.size) id).trans (h.old b hb).1, (h.old b hb).2⟩⟩
theorem Sofar.rd2 {la : Option Addr} {lc : Nat} {hs : List Hd} (h : Sofar W Shun w) (h0 : Rd2 (Value.int .i64) W la lc hs xss) : Rd2 (Value.int .i64) w la lc hs xss := rd2_old h0 h.size fun b hb => (h.old b hb).1
theorem Sofar.below (h : Sofar W Shun w) : Below W.heap.size W w := ⟨h.os, h.tape, h.output, h.size, fun b hb => (h.old b hb).1⟩
theorem Rdy.go (h : Rdy Shun w a c xs) (hs : w.heap.size ≤ w'.heap.size) (ho : ∀ b, b < w.heap.size → NoShun Shun b → w'.heap[b]? = w.heap[b]? ∧ NoShun Shun' b) : Rdy Shun' w' a c xs := by
  obtain ⟨h1, h2⟩ := h
  refine ⟨⟨h1.cap, h1.max, h1.nil, fun h0 => let ⟨b, o, e, hlt⟩ := h1.here h0; ⟨b, o, e, Nat.lt_of_lt_of_le hlt hs⟩, fun k hk => ?_⟩, fun hne => let ⟨ad, e, h3, h4⟩ := h2 hne; ⟨ad, e, Nat.lt_of_lt_of_le h3 hs, (ho _ h3 h4).2⟩⟩
  obtain ⟨b, o, e, _⟩ := h1.here (by omega)
  obtain ⟨ad, e', h3, h4⟩ := h2 (fun e => by rw [e] at hk; simp at hk)
  rw [e] at e'
  cases e'
  have hc := h1.cell k hk
  rw [e, elt_some] at hc ⊢
  rw [← hc]
  unfold World.cell?
  simp only [(ho b h3 h4).1]
theorem Rdy.kl (h : Rdy Shun w a c xs) (k : KL (fun _ => False) S' w w') : Rdy Shun w' a c xs := h.go k.size fun b hb hn => ⟨k.other b hb id, hn⟩
theorem Rdy.fs (h : Rdy Shun w a c xs) (d : FsDone n workers (xss : List (List Int)) Shun Shun' w w' r) : Rdy Shun' w' a c xs := h.go d.size d.old
theorem Rdy.may (h : Rdy Shun w a c xs) : MayRd (fun c => c < w.heap.size ∧ NoShun Shun c) S w a c xs := ⟨h.1, fun hne => let ⟨ad, e, h3, h4⟩ := h.2 hne; ⟨ad, e, .inl ⟨h3, h4⟩⟩⟩
/-- What a call of ForestsShared answers. -/
theorem FsDone.out (d : FsDone n workers xss Shun Shun' w w' r) : ∃ a c, r = .tuple #[.slice a (fsR n xss workers).length c, .bool (fsOk n xss workers)] ∧ Rdy Shun' w' a c (fsR n xss workers) := by
  rcases d.res with ⟨h1, h2⟩ | ⟨h1, C, h2, h3, h4, h5, h6⟩
  · refine ⟨none, 0, by rw [h2, h1]; simp [fsR, h1], ?_⟩
    have e : fsR n xss workers = [] := by simp [fsR, h1]
    rw [e]
    exact ⟨⟨Nat.le_refl _, by simp, fun _ => rfl, fun h => by simp at h, fun k hk => by simp at hk⟩, fun h => absurd rfl h⟩
  · have e : fsR n xss workers = fsN n xss := by simp [fsR, h1]
    refine ⟨some ⟨C, 0, none⟩, xss.length, by rw [h4, h1, e]; simp [fsN], ?_⟩
    rw [e]
    refine ⟨h5, fun _ => ⟨_, rfl, ?_, h3⟩⟩
    show C < w'.heap.size
    by_cases hlt : C < w'.heap.size
    · exact hlt
    · rw [Array.getElem?_eq_none (by omega)] at h6
      cases h6
end

section
variable {W : World} {la : Option Addr} {lc : Nat} {hs : List Hd} {xss : List (List Int)} {n workers hands : Int}
set_option maxRecDepth 100000 in
theorem fin4_ends {P : Value → World → Prop} {Shun : Loc → Prop} {B : Nat} {g : Goroutine} {w : World} (h : Fin4 g) (hP : P (.bool true) w) : AtEnd Try.prog Shun B P g w := by
  obtain ⟨T, todo, hT, h8, rfl⟩ := h
  refine ⟨rfl, .bool true, #[], ?_, by simp, hP⟩
  have e8 : T[8]?.getD undef = .bool true := by rw [h8]; rfl
  simp [G, stepG, unwind, doReturn, results, Frame.at, base, Try.func4, Try.f4, seen, GStep.after, e8]

/-- What the run leaves. -/
def PostA (W : World) (v : Value) (w' : World) : Prop := v = .bool true ∧ Below W.heap.size W w'
set_option maxRecDepth 100000 in
set_option maxHeartbeats 4000000 in
/-- ████ THE RUN. ████ -/
theorem la_run (h0 : Rd2 (Value.int .i64) W la lc hs xss) : ∃ M last o w' t',
    runNT Try.prog (M + 1) (solo (G (Frame.enter Try.prog 4 #[.int .i64 n, .slice la xss.length lc, .int .i64 workers, .int .i64 hands] .normal) []) W) #[] = (.ended o w', t') ∧
    runN Try.prog M (solo (G (Frame.enter Try.prog 4 #[.int .i64 n, .slice la xss.length lc, .int .i64 workers, .int .i64 hands] .normal) []) W) = .next last ∧ step Try.prog last = .ended o w' ∧ Go.Conc.Good Try.prog (PostA W) last o w' t' := by
  rw [solo_eq_crowd]
  have hlok : LOk W la lc hs xss [] := ⟨h0, fun y hy => by simp at hy⟩
  have hM0 := BesM.begin (P := Try.prog) (G (Frame.enter Try.prog 4 #[.int .i64 n, .slice la xss.length lc, .int .i64 workers, .int .i64 hands] .normal) []) W
  -- out of the last walk: the end
  have ends : ∀ {Shun : Loc → Prop} {g : Goroutine} {w : World} {m : Machine} {t : Trace}, Sofar W Shun w → BesM Try.prog Shun g w m t → Fin4 g → ∃ N last o w' t', runNT Try.prog (N + 1) m t = (.ended o w', t') ∧ runN Try.prog N m = .next last ∧ step Try.prog last = .ended o w' ∧ Go.Conc.Good Try.prog (PostA W) last o w' t' := fun {Shun g w m t} hS hM hF =>
    hM.ends fun d => fin4_ends hF ⟨rfl, (hS.below : Below W.heap.size W w).trans ⟨rfl, rfl, rfl, Nat.le_refl _, fun _ _ => rfl⟩⟩
  have glue : ∀ {N : Nat} {m m' : Machine} {t t' : Trace}, runNT Try.prog N m t = (.next m', t') → (∃ K last o w' t'', runNT Try.prog (K + 1) m' t' = (.ended o w', t'') ∧ runN Try.prog K m' = .next last ∧ step Try.prog last = .ended o w' ∧ Go.Conc.Good Try.prog (PostA W) last o w' t'') → ∃ K last o w' t'', runNT Try.prog (K + 1) m t = (.ended o w', t'') ∧ runN Try.prog K m = .next last ∧ step Try.prog last = .ended o w' ∧ Go.Conc.Good Try.prog (PostA W) last o w' t'' := by
    rintro N m m' t t' hr ⟨K, last, o, w', t'', e1, e2, e3, e4⟩
    refine ⟨N + K, last, o, w', t'', ?_, ?_, e3, e4⟩
    · rw [Nat.add_assoc, runNT_add, hr]; exact e1
    · rw [runN_add, ← runNT_fst Try.prog N m t, hr]; exact e2
  by_cases hm : 10000 < xss.length
  · obtain ⟨N1, m1, t1, a1, w1, S1, r1, hM1, hst, hK1, _⟩ := hM0.walk (Rd := fun c => c < W.heap.size ∧ NoShun (fun _ => False) c) (S := fun _ => False) (laA_out hm) (fun c hc => hc.elim id fun h => h.elim)
    exact glue r1 (ends ((Sofar.begin W).kl hK1) hM1 hst)
  · obtain ⟨N1, m1, t1, g1, w1, S1, r1, hM1, hst, hK1, _⟩ := hM0.walk (Rd := fun c => c < W.heap.size ∧ NoShun (fun _ => False) c) (S := fun _ => False) (laA hm) (fun c hc => hc.elim id fun h => h.elim)
    obtain ⟨T, hT, h19, h20, h21, rfl⟩ := hst
    refine glue r1 ?_
    have hS1 := (Sofar.begin W).kl hK1
    obtain ⟨N2, m2, t2, w2, Sh2, v2, r2, hM2, hD2⟩ := fsCall (n := n) (workers := workers) hM1 (hS1.rd2 h0) (fun b hb => (hS1.old b (inL_lt hlok hb)).2) rfl rfl (by decide) rfl (by simp [Act.eval, h19, h20, h21])
    refine glue r2 ?_
    have hS2 := hS1.fs hD2
    obtain ⟨a1, c1, rfl, hy1⟩ := hD2.out
    obtain ⟨N3, m3, t3, g3, w3, S3, r3, hM3, hst3, hK3, _⟩ := hM2.walk (Rd := fun c => c < w2.heap.size ∧ NoShun Sh2 c) (S := fun _ => False) (laB hT) (fun c hc => hc.elim id fun h => h.elim)
    obtain ⟨T3, hT3, t9, t10, t26, t27, t28, rfl⟩ := hst3
    refine glue r3 ?_
    have hS3 := hS2.kl hK3
    replace hy1 := hy1.kl hK3
    obtain ⟨N4, m4, t4, w4, Sh4, v4, r4, hM4, hD4⟩ := fsCall (n := n) (workers := hands) hM3 (hS3.rd2 h0) (fun b hb => (hS3.old b (inL_lt hlok hb)).2) rfl rfl (by decide) rfl (by simp [Act.eval, t26, t27, t28])
    refine glue r4 ?_
    have hS4 := hS3.fs hD4
    replace hy1 := hy1.fs hD4
    obtain ⟨a2, c2, rfl, hy2⟩ := hD4.out
    obtain ⟨N5, m5, t5, g5, w5, S5, r5, hM5, hst5, hK5, _⟩ := hM4.walk (Rd := fun c => c < w4.heap.size ∧ NoShun Sh4 c) (S := fun _ => False) (laC (fun b hb => hb.1) (hS4.rd2 h0) (fun b hb => ⟨Nat.lt_of_lt_of_le (inL_lt hlok hb) hS4.size, (hS4.old b (inL_lt hlok hb)).2⟩) hT3 t9 t10 hy1.may hy2.may (FSt.begin w4)) (fun c hc => hc.elim id fun h => h.elim)
    exact glue r5 (ends (hS4.kl hK5) hM5 hst5)
end
end Go.Proofs.Ytfecdmenliohhaa
