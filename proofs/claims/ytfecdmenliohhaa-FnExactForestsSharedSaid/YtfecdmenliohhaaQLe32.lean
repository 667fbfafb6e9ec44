/- The laws' calls beside leavers: the reference, the comparison of rows. A view that is kept over several calls: it grows with what they make; a true block is taken into it. A view that stands and grows: what is known of it. The laws' helpers called beside leavers, in a view that stands. FnForestsSharedOfAll: goroutine 0's own stretches between the calls of ForestsShared. (Printed by mkLaA.py.). -/
import Derived.Test.YtfecdmenliohhaaQLe31
import Derived.Test.YtfecdmenliohhaaQLe10
set_option linter.unusedVariables false
set_option linter.unusedSimpArgs false
set_option linter.unusedSimpArgs false
set_option linter.unusedVariables false
namespace Go.Proofs.Ytfecdmenliohhaa
open Go Go.Conc Go.RowKit

section
variable {w0 : World} {cl : List (Nat × Obj)} {Rd0 : Nat → Prop} {S : OwnB} {Stop : OwnB → Goroutine → World → Prop} {w : World} {b : Frame} {a : Act} {k : List Item} {cs : List Frame} {ops : Array Oper} {ix : Nat} {rest : List Nat} {o : Oper} {args : Array Operand} {ats : Array TypeId}
/-- A slice that may be read. -/
def MayRd (Rd0 : Nat → Prop) (S : OwnB) (w : World) (a : Option Addr) (c : Nat) (xs : List Int) : Prop := Rd (Value.int .i64) w a c xs ∧ (xs ≠ [] → ∃ ad, a = some ad ∧ (Rd0 ad.block ∨ S ad.block))
theorem MayRd.fs {S' : OwnB} {w' : World} {a : Option Addr} {c : Nat} {xs : List Int} (h : MayRd Rd0 S w a c xs) (hS : ∀ b, S b → S' b) (hs : w.heap.size ≤ w'.heap.size) (hsm : ∀ b, Rd0 b ∨ S b → w'.heap[b]? = w.heap[b]?) : MayRd Rd0 S' w' a c xs := by
  obtain ⟨h1, h2⟩ := h
  refine ⟨⟨h1.cap, h1.max, h1.nil, fun h0 => let ⟨b, o, e, hlt⟩ := h1.here h0; ⟨b, o, e, Nat.lt_of_lt_of_le hlt hs⟩, fun k hk => ?_⟩, fun hne => let ⟨ad, e, hb⟩ := h2 hne; ⟨ad, e, hb.imp id (hS _)⟩⟩
  obtain ⟨b, o, e, _⟩ := h1.here (by omega)
  obtain ⟨ad, e', hb⟩ := h2 (fun e => by rw [e] at hk; simp at hk)
  rw [e] at e'
  cases e'
  have hc := h1.cell k hk
  rw [e, elt_some] at hc ⊢
  rw [← hc]
  unfold World.cell?
  simp only [hsm b hb]

theorem nmSp : (Try.f17.name == "runtime.NumGoroutine") = false := by kernel_rfl
theorem nmSI : (Try.f18.name == "runtime.NumGoroutine") = false := by kernel_rfl

theorem callSpecFS {la : Option Addr} {lc : Nat} {hs : List Hd} {xss : List (List Int)} {n workers : Int} (ho : ops[ix]? = some o) (hw : Region.wanted o (yielded ops a.tmps) = true) (hk : b.kind ≠ .early) (hop : o.op = .call { callee := .value (.func 17), args, argTypes := ats }) (hargs : args.map a.eval = #[.int .i64 n, .slice la xss.length lc, .int .i64 workers])
    (hF : FSt w0 cl S w) (hRl : ∀ b, Rd0 b → b < w0.heap.size) (h0 : Rd2 (Value.int .i64) w0 la lc hs xss) (hin : ∀ b, inL la hs xss [] b → Rd0 b)
    (kont : ∀ S' w' a' c', (∀ b, S b → S' b) → FSt w0 cl S' w' → (∀ b, Rd0 b ∨ S b → w'.heap[b]? = w.heap[b]?) → w.heap.size ≤ w'.heap.size → MayRd Rd0 S' w' a' c' (if fsOk n xss workers then fsN n xss else []) → GG Try.prog true RL (GL Rd0) Stop S' (G (b.at (a.put o.dst (.tuple #[.slice a' (if fsOk n xss workers then fsN n xss else []).length c', .bool (fsOk n xss workers)])) (.inRegion ops rest :: k)) cs) w') :
    GG Try.prog true RL (GL Rd0) Stop S (G (b.at a (.inRegion ops (ix :: rest) :: k)) cs) w := by
  have hL : LOk w la lc hs xss [] := ⟨rd2_old h0 hF.size hF.old, fun y hy => by simp at hy⟩
  obtain ⟨R, hR⟩ : ∃ R, R = (if fsOk n xss workers then fsN n xss else []) := ⟨_, rfl⟩
  rw [← hR] at kont
  refine callL (xv := #[.int .i64 n, .slice (seenA GB0 0 la) xss.length lc, .int .i64 workers]) (Rv := fun v w₁ => ∃ a c, v = .tuple #[.slice a R.length c, .bool (fsOk n xss workers)] ∧ Rd (Value.int .i64) w₁ a c R) (by decide) ho hw hk hop Try.func17 nmSp rfl hL (fun c hc => .inl (hin c hc)) (fs_lt hF hRl) (fun T d => ?_) (fun Ro => asame_three hargs (.int _ _) (lvs_arg hL) (.int _ _)) ?_
  · refine (specFS_any (n := n) (workers := workers) (lvs_rd2 hL)).mono ?_
    rintro e w₁ ⟨a, c, rfl, ho, _⟩
    rw [← hR] at ho ⊢
    exact ⟨a, c, rfl, ho.rd⟩
  · rintro C q v v' w₁ S' w' ⟨a2, c2, rfl, hrd⟩ hv hwr hK hS' hq hsm
    cases hv with
    | @tuple _ x' hsz hat =>
      obtain ⟨y0, y1, rfl⟩ : ∃ y0 y1, x' = #[y0, y1] := by
        obtain ⟨l⟩ := x'
        match l, hsz with
        | [y0, y1], _ => exact ⟨y0, y1, rfl⟩
      have e0 := hat 0 _ y0 rfl rfl
      have e1 := hat 1 _ y1 rfl rfl
      cases e1
      obtain ⟨a', rfl, h1, h2⟩ := rd_true hrd e0 hwr
      refine kont S' w' a' c2 hK.grow (hF.after hK hS' fun b hb => ?_) hsm hK.size ⟨h1, fun hne => ?_⟩
      · rcases hb with hb | hb
        · by_cases hS : S b
          · have := (hF.bnd b hS).1; omega
          · exact hK.other b (Nat.lt_of_lt_of_le hb hF.size) hS
        · exact hsm b (.inr hb)
      · obtain ⟨bb, ad, rfl, hb⟩ := h2 hne
        exact ⟨ad, rfl, hq _ _ hb⟩

theorem callSame {a1 a2 : Option Addr} {c1 c2 : Nat} {R : List Int} (ho : ops[ix]? = some o) (hw : Region.wanted o (yielded ops a.tmps) = true) (hk : b.kind ≠ .early) (hop : o.op = .call { callee := .value (.func 18), args, argTypes := ats }) (hargs : args.map a.eval = #[.slice a1 R.length c1, .slice a2 R.length c2])
    (hF : FSt w0 cl S w) (hRl : ∀ b, Rd0 b → b < w0.heap.size) (hx : MayRd Rd0 S w a1 c1 R) (hy : MayRd Rd0 S w a2 c2 R)
    (kont : ∀ S' w', (∀ b, S b → S' b) → FSt w0 cl S' w' → (∀ b, Rd0 b ∨ S b → w'.heap[b]? = w.heap[b]?) → w.heap.size ≤ w'.heap.size → GG Try.prog true RL (GL Rd0) Stop S' (G (b.at (a.put o.dst (.bool true)) (.inRegion ops rest :: k)) cs) w') :
    GG Try.prog true RL (GL Rd0) Stop S (G (b.at a (.inRegion ops (ix :: rest) :: k)) cs) w := by
  have hL : LOk w none 0 [] [] [(a1, c1, R), (a2, c2, R)] := by
    refine ⟨(lok_nil w).l, fun y hy' => ?_⟩
    simp only [List.mem_cons, List.not_mem_nil, or_false] at hy'
    rcases hy' with rfl | rfl
    · exact hx.1
    · exact hy.1
  have hin : ∀ c, inL none [] [] [(a1, c1, R), (a2, c2, R)] c → Rd0 c ∨ S c := by
    rintro c (⟨ad, h, _⟩ | ⟨k, hd, xs, ad, h, _⟩ | ⟨y, hy', ad, h1, h2, h3⟩)
    · cases h
    · simp at h
    · simp only [List.mem_cons, List.not_mem_nil, or_false] at hy'
      rcases hy' with rfl | rfl
      · obtain ⟨ad', e, hb⟩ := hx.2 h3
        have e2 := (show _ = some ad from h1).symm.trans e; cases e2; exact (show ad.block = c from h2) ▸ hb
      · obtain ⟨ad', e, hb⟩ := hy.2 h3
        have e2 := (show _ = some ad from h1).symm.trans e; cases e2; exact (show ad.block = c from h2) ▸ hb
  have ha : ∀ Ro, ASame (viwC LF GB0 Ro badT (lvs GB0 none [] [] [(a1, c1, R), (a2, c2, R)])) (viwP GB0 (lvs GB0 none [] [] [(a1, c1, R), (a2, c2, R)])) #[.slice (seenA GB0 (1 + ([] : List Hd).length + 0) a1) R.length c1, .slice (seenA GB0 (1 + ([] : List Hd).length + 1) a2) R.length c2] (args.map a.eval) := by
    intro Ro
    exact asame_two hargs (lvs_argx hL (i := 0) rfl) (lvs_argx hL (i := 1) rfl)
  refine callL (xv := #[.slice (seenA GB0 (1 + ([] : List Hd).length + 0) a1) R.length c1, .slice (seenA GB0 (1 + ([] : List Hd).length + 1) a2) R.length c2]) (Rv := fun v _ => v = .bool true) (by decide) ho hw hk hop Try.func18 nmSI rfl hL hin (fs_lt hF hRl) (fun T d => ?_) ha ?_
  · refine Calls.mono (sameInts_any (xs := R) (lvs_rdx hL (i := 0) (x := (a1, c1, R)) rfl) (lvs_rdx hL (i := 1) (x := (a2, c2, R)) rfl)) ?_
    rintro e w₁ ⟨rfl, _⟩
    rfl
  · rintro C q v v' w₁ S' w' rfl hv hwr hK hS' hq hsm
    cases hv
    refine kont S' w' hK.grow (hF.after hK hS' fun b hb => ?_) hsm hK.size
    rcases hb with hb | hb
    · by_cases hS : S b
      · have := (hF.bnd b hS).1; omega
      · exact hK.other b (Nat.lt_of_lt_of_le hb hF.size) hS
    · exact hsm b (.inr hb)
end
end Go.Proofs.Ytfecdmenliohhaa

set_option linter.unusedSimpArgs false
set_option linter.unusedVariables false
namespace Go.Proofs.Ytfecdmenliohhaa
open Go Go.Conc Go.RowKit

section
variable {P : Program} {Rd : Nat → Prop} {C : Cx}
/-- The mirror's word; the renaming only grows. -/
theorem GG.of_RIQ {Stop0 : Ren → Goroutine → World → Prop} {Stop : OwnB → Goroutine → World → Prop} {p : Ren} {g : Goroutine} {w : World} (h : RI P C true Stop0 p g w) {S : OwnB}
    (hlt : ∀ b, Rd b ∨ S b → b < w.heap.size) (hp : ∀ b c, p b = some c → (Rd c ∧ C.lock c) ∨ S c)
    (k : ∀ q S' g w', Stop0 q g w' → RLe p q → KL S S' w w' → (∀ b, S' b → b < w'.heap.size) → (∀ b c, q b = some c → (Rd c ∧ C.lock c) ∨ S' c) → (∀ c, C.lock c → c < w.heap.size → w'.heap[c]? = w.heap[c]?) → GG P true RL (GL Rd) Stop S' g w') : GG P true RL (GL Rd) Stop S g w := by
  have h' : RI P C true (fun q g w' => Stop0 q g w' ∧ RLe p q) p g w := by
    have key : ∀ {q : Ren} {g : Goroutine} {w₁ : World}, RI P C true Stop0 q g w₁ → RLe p q → RI P C true (fun q g w' => Stop0 q g w' ∧ RLe p q) q g w₁ := by
      intro q g w₁ h
      induction h with
      | stop hs => exact fun hle => .stop fun w₁ h₁ => ⟨hs w₁ h₁, hle⟩
      | step nx hrun hstep _ ih =>
        intro hle
        refine .step nx hrun hstep fun w₁ h₁ => ih w₁ h₁ ?_
        obtain ⟨es, _, hl2, _⟩ := hstep w₁ h₁
        exact fun b c hb => hl2 b c (hle b c hb)
    exact key h (RLe.refl p)
  exact GG.of_RIL h' hlt hp fun q S' g w' hs hK hS' hq hsm => k q S' g w' hs.1 hs.2 hK hS' hq hsm
end

section
variable {C : Cx} {p : Ren} {V w w' : World}
/-- The truth turns elsewhere. -/
theorem WRel.keep (h : WRel C p V w) (hs : ∀ b c, p b = some c → w'.heap[c]? = w.heap[c]?) (hz : w.heap.size ≤ w'.heap.size) : WRel C p V w' :=
  ⟨h.inj, fun b c hb => let ⟨o, o', h1, h2, h3⟩ := h.obj b c hb; ⟨o, o', h1, (hs b c hb).trans h2, h3⟩, h.gV, h.lockV, fun c hc => Nat.lt_of_lt_of_le (h.lockT c hc) hz, h.shV, h.deadV⟩
def extQ (p : Ren) (n c : Nat) : Ren := fun b => if b = n then some c else p b
theorem extQ_le (h : WRel C p V w) (c : Nat) : RLe p (extQ p V.heap.size c) := by
  intro b c' hb
  have := (h.lt hb).1
  unfold extQ
  rw [if_neg (by omega)]
  exact hb
/-- A true block is taken into the view. -/
theorem WRel.adopt (h : WRel C p V w) {c : Nat} {o o' : Obj} (hc : w.heap[c]? = some o') (hn : ∀ b, p b ≠ some c) (hl : ¬ C.lock c) (ho : ∀ q, ORel C q o o') : WRel C (extQ p V.heap.size c) (V.alloc o) w := by
  have hs : (V.alloc o).heap = V.heap.push o := rfl
  have hle := extQ_le h c
  have old : ∀ b, b < V.heap.size → (V.alloc o).heap[b]? = V.heap[b]? := fun b hb => by rw [hs, Array.getElem?_push_lt hb, Array.getElem?_eq_getElem hb]
  have hx : ∀ b c', extQ p V.heap.size c b = some c' → (b = V.heap.size ∧ c' = c) ∨ (p b = some c' ∧ b < V.heap.size) := by
    intro b c' hb
    unfold extQ at hb
    split at hb
    · next e => cases hb; exact .inl ⟨e, rfl⟩
    · exact .inr ⟨hb, (h.lt hb).1⟩
  refine ⟨fun b b₁ c' h1 h2 => ?_, fun b c' hb => ?_, ?_, fun b c' hb hlk => ?_, h.lockT, fun b hb => ?_, fun b hb => ?_⟩
  · rcases hx _ _ h1 with ⟨rfl, rfl⟩ | ⟨g1, l1⟩
    · rcases hx _ _ h2 with ⟨rfl, _⟩ | ⟨g2, _⟩
      · exact .inl rfl
      · exact absurd g2 (hn _)
    · rcases hx _ _ h2 with ⟨rfl, rfl⟩ | ⟨g2, _⟩
      · exact absurd g1 (hn _)
      · exact h.inj _ _ _ g1 g2
  · rcases hx _ _ hb with ⟨rfl, rfl⟩ | ⟨g1, l1⟩
    · exact ⟨o, o', by rw [hs]; simp, hc, .full (h.shV _ (Nat.le_refl _)) (ho _)⟩
    · obtain ⟨x, x', h1, h2, h3⟩ := h.obj _ _ g1
      exact ⟨x, x', (old _ l1).trans h1, h2, h3.mono hle⟩
  · rw [hs, Array.size_push]; have := h.gV; omega
  · rcases hx _ _ hb with ⟨rfl, rfl⟩ | ⟨g1, l1⟩
    · exact absurd hlk hl
    · obtain ⟨cs, e, m, h1, h2⟩ := h.lockV _ _ g1 hlk
      exact ⟨cs, e, m, (old _ l1).trans h1, h2⟩
  · rw [hs, Array.size_push] at hb
    exact h.shV _ (by omega)
  · obtain ⟨h1, h2⟩ := h.deadV b hb
    have hlt : b < V.heap.size := (Array.getElem?_eq_some_iff.1 h2).1
    refine ⟨?_, (old _ hlt).trans h2⟩
    unfold extQ
    rw [if_neg (by omega)]
    exact h1
/-- Numbers are alike everywhere. -/
theorem orel_ints {q : Ren} (xs : List Int) (e : TypeId) : ORel C q (.cells (xs.map (Value.int .i64)).toArray e (0, 0)) (.cells (xs.map (Value.int .i64)).toArray e (0, 0)) := by
  refine .cells ⟨rfl, fun i v v' h1 h2 => ?_⟩ fun i h1 h2 => ⟨h1, h2⟩
  rw [h1] at h2
  cases h2
  simp only [List.getElem?_toArray, List.getElem?_map, Option.map_eq_some_iff] at h1
  obtain ⟨x, _, rfl⟩ := h1
  exact .int _ _
end

section
variable {w0 : World} {Rd0 : Nat → Prop} {S : OwnB} {Stop : OwnB → Goroutine → World → Prop} {w V : World} {C : Cx} {p : Ren}
/-- ████ A call beside leavers, in a view that stands. ████ -/
theorem callQ (H : ListOk Try.prog C LF) {f : FuncId} {fn : Func} {c : Code} (hF : C.F f) {b : Frame} {a : Act} {k : List Item} {cs : List Frame} {ops : Array Oper} {ix : Nat} {rest : List Nat} {o : Oper} {args : Array Operand} {ats : Array TypeId}
    (ho : ops[ix]? = some o) (hw : Region.wanted o (yielded ops a.tmps) = true) (hk : b.kind ≠ .early) (hop : o.op = .call { callee := .value (.func f), args, argTypes := ats })
    (hf : Try.prog.funcs[f]? = some fn) (hname : (fn.name == "runtime.NumGoroutine") = false) (hb : fn.body = some c)
    (hlt : ∀ b, Rd0 b ∨ S b → b < w.heap.size) (hW : WRel C p V w) (hp : ∀ b c, p b = some c → (Rd0 c ∧ C.lock c) ∨ S c) {Rv : Value → World → Prop} {xv : Array Value}
    (hcl : ∀ T d, Calls Try.prog f xv (World.tp V T d) (fun | .returned v, w₁ => Rv v w₁ | _, _ => False))
    (ha : ASame C p xv (args.map a.eval))
    (kont : ∀ q v v' V' S' w', Rv v V' → VRel C q v v' → WRel C q V' w' → RLe p q → KL S S' w w' → (∀ b, S' b → b < w'.heap.size) → (∀ b c, q b = some c → (Rd0 c ∧ C.lock c) ∨ S' c) → GG Try.prog true RL (GL Rd0) Stop S' (G (b.at (a.put o.dst v') (.inRegion ops rest :: k)) cs) w') :
    GG Try.prog true RL (GL Rd0) Stop S (G (b.at a (.inRegion ops (ix :: rest) :: k)) cs) w := by
  refine .goes rfl fun w₁ h₁ => goes_call ho hw hk hop hf hname hb ⟨S, .idle S _, ?_⟩
  obtain ⟨d, rfl⟩ := h₁
  have hC : WRel C p V (w.at d) := hW.draws V.drawn d V.tape w.tape
  have hRI := mirrorC (main := true) (ct := b.at a (.inRegion ops (ix :: rest) :: k) :: cs) H hF hcl ha hC
  rw [show rec' (Frame.enter Try.prog f (args.map a.eval) .normal) (b.at a (.inRegion ops (ix :: rest) :: k) :: cs) = G ((base f).at { tmps := args.map a.eval ++ Array.replicate (fn.ntmps - (args.map a.eval).size) undef, defers := [] } [.code c]) (b.at a (.inRegion ops (ix :: rest) :: k) :: cs) by rw [enter_at _ hf hb]; rfl] at hRI
  refine GG.of_RIQ (Rd := Rd0) hRI (fun b hb => hlt b hb) hp ?_
  rintro q S' g w' ⟨v, v', wv', f', fn', hR, hv, hwr, rfl, h1, h2, h3, h4, h5⟩ hle hK hS' hq hsm
  refine .ctl GL.idle RL.trans rfl (g' := G (b.at (a.put o.dst v') (.inRegion ops rest :: k)) cs) (fun w₂ => ?_) (kont q v v' wv' S' w' hR hv hwr hle ((KL.at S w d).trans hK) hS' hq)
  have hfin : (b.at a (.inRegion ops (ix :: rest) :: k)).finish v' = b.at (a.put o.dst v') (.inRegion ops rest :: k) := by rw [Frame.finish_at, ho]; rfl
  have h6 : (results fn' f'.tmps).runT Try.prog w₂ #[] = (.ok v' w₂, #[]) := h5 w₂ #[]
  have := stepG_leaving (P := Try.prog) (main := true) (cs := cs) (c := b.at a (.inRegion ops (ix :: rest) :: k)) h1 h2 h3 h4 h6
  rw [hfin] at this
  exact this
end

/-- A list of lists of the view: what it is in truth. -/
theorem rd2_true {C : Cx} {q : Ren} {w₁ w' : World} {a : Option Addr} {c : Nat} {hs : List Hd} {xss : List (List Int)} {v' : Value} (h : Rd2 (Value.int .i64) w₁ a c hs xss) (hv : VRel C q (.slice a xss.length c) v') (hw : WRel C q w₁ w') :
    ∃ a' hs', v' = .slice a' xss.length c ∧ Rd2 (Value.int .i64) w' a' c hs' xss ∧ ∀ b, inL a' hs' xss [] b → ∃ b0, q b0 = some b := by
  have hlen := h.len
  -- the rows
  have rows : ∀ (a' : Option Addr), (xss ≠ [] → ∀ k, k < xss.length → ∃ v', w'.cell? (elt a' k) = some v' ∧ VRel C q (hdV (hs[k]?.getD default)) v') →
      ∃ hs' : List Hd, hs'.length = xss.length ∧ (∀ k, k < hs'.length → w'.cell? (elt a' k) = some (hdV (hs'[k]?.getD default))) ∧ (∀ k, k < xss.length → ∃ (hd : Hd) (xs : List Int), hs'[k]? = some hd ∧ xss[k]? = some xs ∧ hd.2.1 = xs.length ∧ Rd (Value.int .i64) w' hd.1 hd.2.2 xs) ∧
        ∀ (k : Nat) (hd : Hd) (xs : List Int) (ad : Addr), hs'[k]? = some hd → xss[k]? = some xs → hd.1 = some ad → xs ≠ [] → ∃ b0, q b0 = some ad.block := by
    intro a' hcell
    have one : ∀ k : Nat, ∃ hd : Hd, k < xss.length → w'.cell? (elt a' k) = some (hdV hd) ∧ ∃ xs, xss[k]? = some xs ∧ hd.2.1 = xs.length ∧ Rd (Value.int .i64) w' hd.1 hd.2.2 xs ∧ ∀ ad, hd.1 = some ad → xs ≠ [] → ∃ b0, q b0 = some ad.block := by
      intro k
      by_cases hk : k < xss.length
      · obtain ⟨hd, xs, h1, h2, h3, h4⟩ := h.row k hk
        obtain ⟨v', g1, g2⟩ := hcell (fun e => by rw [e] at hk; simp at hk) k hk
        rw [h1, Option.getD_some, hdV, h3] at g2
        obtain ⟨a2, rfl, g3, g4⟩ := rd_true h4 g2 hw
        refine ⟨(a2, xs.length, hd.2.2), fun _ => ⟨g1, xs, h2, rfl, g3, fun ad e hne => ?_⟩⟩
        obtain ⟨b, ad', e', hb⟩ := g4 hne
        simp only at e
        rw [e] at e'
        cases e'
        exact ⟨b, hb⟩
      · exact ⟨default, fun hk' => absurd hk' hk⟩
    obtain ⟨g, hg⟩ := Classical.axiomOfChoice one
    have at' : ∀ k, k < xss.length → ((List.range xss.length).map g)[k]? = some (g k) := fun k hk => by simp [hk]
    refine ⟨(List.range xss.length).map g, by simp, fun k hk => ?_, fun k hk => ?_, fun k hd xs ad h1 h2 h3 h4 => ?_⟩
    · have hk' : k < xss.length := by simpa using hk
      rw [at' k hk', Option.getD_some]
      exact (hg k hk').1
    · obtain ⟨_, xs, h2, h3, h4, _⟩ := hg k hk
      exact ⟨g k, xs, at' k hk, h2, h3, h4⟩
    · have hk : k < xss.length := (List.getElem?_eq_some_iff.1 h2).1
      rw [at' k hk] at h1
      cases h1
      obtain ⟨_, xs', g2, _, _, g5⟩ := hg k hk
      rw [h2] at g2
      cases g2
      exact g5 ad h3 h4
  have img : ∀ (a' : Option Addr) (hs' : List Hd), (xss ≠ [] → ∀ ad, a' = some ad → ∃ b0, q b0 = some ad.block) → hs'.length = xss.length → (∀ (k : Nat) (hd : Hd) (xs : List Int) (ad : Addr), hs'[k]? = some hd → xss[k]? = some xs → hd.1 = some ad → xs ≠ [] → ∃ b0, q b0 = some ad.block) → ∀ b, inL a' hs' xss [] b → ∃ b0, q b0 = some b := by
    rintro a' hs' htop hl hrow b (⟨ad, h1, h2, h3⟩ | ⟨k, hd, xs, ad, h1, h2, h3, h4, h5⟩ | ⟨y, hy, _⟩)
    · subst h2
      exact htop (fun e => by rw [e] at hl; exact h3 (List.length_eq_zero_iff.1 hl)) ad h1
    · subst h4
      exact hrow k hd xs ad h1 h2 h3 h5
    · simp at hy
  generalize hsl : Value.slice a xss.length c = s at hv
  cases hv with
  | slice0 =>
    simp only [Value.slice.injEq] at hsl
    obtain ⟨rfl, hl, rfl⟩ := hsl
    have hx : xss = [] := List.length_eq_zero_iff.1 hl
    subst hx
    exact ⟨none, [], rfl, ⟨⟨Nat.le_refl _, by simp, fun _ => rfl, (fun h => by simp at h), (fun k hk => by simp at hk)⟩, rfl, fun i hi => by simp at hi⟩, fun b hb => (inL_nil b hb).elim⟩
  | @slice x x' l c' ha =>
    simp only [Value.slice.injEq] at hsl
    obtain ⟨rfl, rfl, rfl⟩ := hsl
    by_cases hx : xss = []
    · subst hx
      refine ⟨some x', [], rfl, ⟨⟨by simp, by have := h.top.max; simpa [hlen] using this, (fun e => by cases e), (fun h => by simp at h), (fun k hk => by simp at hk)⟩, rfl, fun i hi => by simp at hi⟩, img _ _ (fun hne => absurd rfl hne) rfl (fun k hd xs ad h1 => by simp at h1)⟩
    · have hpos : 0 < xss.length := by cases xss with | nil => exact absurd rfl hx | cons _ _ => simp
      obtain ⟨b, o, e, hlt⟩ := h.top.here (by omega)
      cases e
      obtain ⟨b', o', s'⟩ := x'
      have hs0 : s' = none := ha.s
      subst hs0
      have hb : q b = some b' := ha.b
      obtain ⟨hs', g1, g2, g3, g4⟩ := rows (some ⟨b', o', none⟩) (fun _ k hk => by
        have hc := h.top.cell k (by omega)
        rw [elt_some] at hc ⊢
        exact hw.cell (a := ⟨b, o + k, none⟩) (a' := ⟨b', o' + k, none⟩) ⟨hb, by have := ha.o; simp only at this ⊢; omega, rfl, ha.g⟩ hc)
      refine ⟨_, hs', rfl, ⟨⟨by rw [g1, ← hlen]; exact h.top.cap, h.top.max, (fun e => by cases e), fun _ => ⟨b', o', rfl, (hw.lt hb).2⟩, g2⟩, g1, g3⟩, img _ _ (fun _ ad e => by cases e; exact ⟨b, hb⟩) g1 g4⟩
  | sliceE c' hd =>
    simp only [Value.slice.injEq] at hsl
    obtain ⟨rfl, hl, rfl⟩ := hsl
    have hx : xss = [] := List.length_eq_zero_iff.1 hl
    subst hx
    refine ⟨_, [], rfl, ⟨⟨by simp, by have := h.top.max; simpa [hlen] using this, (fun e => by cases e), (fun h => by simp at h), (fun k hk => by simp at hk)⟩, rfl, fun i hi => by simp at hi⟩, img _ _ (fun hne => absurd rfl hne) rfl (fun k hd xs ad h1 => by simp at h1)⟩
  | _ => cases hsl
end Go.Proofs.Ytfecdmenliohhaa

set_option linter.unusedSimpArgs false
set_option linter.unusedVariables false
namespace Go.Proofs.Ytfecdmenliohhaa
open Go Go.Conc Go.RowKit

/-- The view has only grown. -/
def Low (V V' : World) : Prop := V.heap.size ≤ V'.heap.size ∧ ∀ b, b < V.heap.size → V'.heap[b]? = V.heap[b]?
theorem Low.refl (V : World) : Low V V := ⟨Nat.le_refl _, fun _ _ => rfl⟩
theorem Low.trans {a b c : World} (h : Low a b) (k : Low b c) : Low a c := ⟨Nat.le_trans h.1 k.1, fun x hx => (k.2 x (Nat.lt_of_lt_of_le hx h.1)).trans (h.2 x hx)⟩
theorem Low.tp (V : World) (T : Nat → Question → Nat) (d : Nat) : Low V (World.tp V T d) := ⟨Nat.le_refl _, fun _ _ => rfl⟩
theorem Low.of_below {V V' : World} {T : Nat → Question → Nat} {d : Nat} (h : Below (World.tp V T d).heap.size (World.tp V T d) V') : Low V V' := ⟨h.size, h.block⟩
theorem Low.rd {V V' : World} {a : Option Addr} {c : Nat} {xs : List Int} (h : Low V V') (k : Rd (Value.int .i64) V a c xs) : Rd (Value.int .i64) V' a c xs := rd_old k h.1 h.2
theorem Low.rd2 {V V' : World} {a : Option Addr} {c : Nat} {hs : List Hd} {xss : List (List Int)} (h : Low V V') (k : Rd2 (Value.int .i64) V a c hs xss) : Rd2 (Value.int .i64) V' a c hs xss := rd2_old k h.1 h.2
theorem Low.own {V V' : World} {base : Nat} {a : Option Addr} {c : Nat} {xs : List Int} (h : Low V V') (k : Own (Value.int .i64) 2 V base a c xs) : Own (Value.int .i64) 2 V' base a c xs := k.heap fun p hp => h.2 _ (k.blk p hp).2
theorem Low.own2 {V V' : World} {base : Nat} {a : Option Addr} {c : Nat} {hs : List Hd} {xss : List (List Int)} (h : Low V V') (k : Own2 (Value.int .i64) 2 25 V base a c hs xss) : Own2 (Value.int .i64) 2 25 V' base a c hs xss :=
  ⟨k.top.heap fun p hp => h.2 _ (k.top.blk p hp).2, k.len, fun i hi => let ⟨hd, xs, h1, h2, h3, h4, h5⟩ := k.row i hi; ⟨hd, xs, h1, h2, h3, h.own h4, h5⟩, k.apart⟩
/-- All but these blocks of the view stand. -/
def LowB (lo hi : Nat) (V V' : World) : Prop := V.heap.size ≤ V'.heap.size ∧ ∀ b, b < V.heap.size → (b < lo ∨ hi ≤ b) → V'.heap[b]? = V.heap[b]?

/-- The view stands beside the truth; what goroutine 0 may read and what it owns. -/
structure Vq (C : Cx) (Rd0 : Nat → Prop) (S : OwnB) (p : Ren) (V w : World) : Prop where
  rel : WRel C p V w
  lt : ∀ b, Rd0 b ∨ S b → b < w.heap.size
  own : ∀ b c, p b = some c → (Rd0 c ∧ C.lock c) ∨ S c
theorem Vq.at {C : Cx} {Rd0 : Nat → Prop} {S : OwnB} {p : Ren} {V w : World} (h : Vq C Rd0 S p V w) (d : Nat) : Vq C Rd0 S p V (w.at d) := ⟨h.rel.draws V.drawn d V.tape w.tape, h.lt, h.own⟩
end Go.Proofs.Ytfecdmenliohhaa

set_option linter.unusedSimpArgs false
set_option linter.unusedVariables false
namespace Go.Proofs.Ytfecdmenliohhaa
open Go Go.Conc Go.RowKit

/-- The view's rules: whose functions, which list. -/
structure Cq (C : Cx) : Prop where
  list : ListOk Try.prog C LF
  fns : ∀ f, LF.contains f = true → C.F f

theorem nmSz : (Try.f19.name == "runtime.NumGoroutine") = false := by kernel_rfl
theorem nmTo : (Try.f20.name == "runtime.NumGoroutine") = false := by kernel_rfl
theorem nmEq : (Try.f21.name == "runtime.NumGoroutine") = false := by kernel_rfl
theorem nmEqq : (Try.f22.name == "runtime.NumGoroutine") = false := by kernel_rfl
theorem nmMkk : (Try.f23.name == "runtime.NumGoroutine") = false := by kernel_rfl
theorem nmMk : (Try.f24.name == "runtime.NumGoroutine") = false := by kernel_rfl
theorem nmHl : (Try.f25.name == "runtime.NumGoroutine") = false := by kernel_rfl

section
variable {Rd0 : Nat → Prop} {S : OwnB} {Stop : OwnB → Goroutine → World → Prop} {w V : World} {C : Cx} {p : Ren} {b : Frame} {a : Act} {k : List Item} {cs : List Frame} {ops : Array Oper} {ix : Nat} {rest : List Nat} {o : Oper} {args : Array Operand} {ats : Array TypeId} {v1 v2 v3 : Value} {a1 a2 : Option Addr} {c1 c2 : Nat} {hs hs2 : List Hd} {xss : List (List Int)} {xs : List Int}

theorem qSz (hC : Cq C) (ho : ops[ix]? = some o) (hw : Region.wanted o (yielded ops a.tmps) = true) (hk : b.kind ≠ .early) (hop : o.op = .call { callee := .value (.func 19), args, argTypes := ats }) (hargs : args.map a.eval = #[v1, .int .i64 1048576])
    (hV : Vq C Rd0 S p V w) (h1 : VRel C p (.slice a1 xss.length c1) v1) (hr : Rd2 (Value.int .i64) V a1 c1 hs xss)
    (kont : ∀ q V' S' w' r, (r = -1 ∨ (size2 xss ≤ 1048576 ∧ 0 ≤ r)) → RLe p q → (∀ b, S b → S' b) → Low V V' → Vq C Rd0 S' q V' w' → GG Try.prog true RL (GL Rd0) Stop S' (G (b.at (a.put o.dst (.int .i64 r)) (.inRegion ops rest :: k)) cs) w') :
    GG Try.prog true RL (GL Rd0) Stop S (G (b.at a (.inRegion ops (ix :: rest) :: k)) cs) w := by
  refine callQ (xv := #[.slice a1 xss.length c1, .int .i64 1048576]) (Rv := fun v V' => (∃ r : Int, v = .int .i64 r ∧ (r = -1 ∨ (size2 xss ≤ 1048576 ∧ 0 ≤ r))) ∧ Low V V') hC.list (hC.fns _ (by decide)) ho hw hk hop Try.func19 nmSz rfl hV.lt hV.rel hV.own (fun T d => (szII_any ((Low.tp V T d).rd2 hr)).mono ?_) (asame_two hargs h1 (.int _ _)) ?_
  · rintro e w₁ ⟨he, rfl⟩
    rcases he with rfl | ⟨hn, r, hr0, rfl⟩
    · exact ⟨⟨-1, rfl, .inl rfl⟩, .tp V T d⟩
    · exact ⟨⟨r, rfl, .inr ⟨hn, hr0⟩⟩, .tp V T d⟩
  · rintro q v v' V' S' w' ⟨⟨r, rfl, hr⟩, hl⟩ hv hwr hle hK hS' hq
    cases hv
    exact kont q V' S' w' r hr hle hK.grow hl ⟨hwr, fun x hx => hx.elim (fun h => Nat.lt_of_lt_of_le (hV.lt x (.inl h)) hK.size) (hS' x), hq⟩

theorem qTo (hC : Cq C) (ho : ops[ix]? = some o) (hw : Region.wanted o (yielded ops a.tmps) = true) (hk : b.kind ≠ .early) (hop : o.op = .call { callee := .value (.func 20), args, argTypes := ats }) (hargs : args.map a.eval = #[v1])
    (hV : Vq C Rd0 S p V w) (h1 : VRel C p (.slice a1 xss.length c1) v1) (hr : Rd2 (Value.int .i64) V a1 c1 hs xss) (hn : size2 xss ≤ 1048576)
    (kont : ∀ q V' S' w' a' c' hs' v', RLe p q → (∀ b, S b → S' b) → Low V V' → Vq C Rd0 S' q V' w' → Own2 (Value.int .i64) 2 25 V' V.heap.size a' c' hs' xss → VRel C q (.slice a' xss.length c') v' → GG Try.prog true RL (GL Rd0) Stop S' (G (b.at (a.put o.dst v') (.inRegion ops rest :: k)) cs) w') :
    GG Try.prog true RL (GL Rd0) Stop S (G (b.at a (.inRegion ops (ix :: rest) :: k)) cs) w := by
  refine callQ (xv := #[.slice a1 xss.length c1]) (Rv := fun v V' => (∃ a' c' hs', v = .slice a' xss.length c' ∧ Own2 (Value.int .i64) 2 25 V' V.heap.size a' c' hs' xss) ∧ Low V V') hC.list (hC.fns _ (by decide)) ho hw hk hop Try.func20 nmTo rfl hV.lt hV.rel hV.own (fun T d => (toII_any ((Low.tp V T d).rd2 hr) hn).mono ?_) (by rw [hargs]; exact .one h1) ?_
  · rintro e w₁ ⟨a', c', hs', rfl, ho, hb⟩
    exact ⟨⟨a', c', hs', rfl, ho⟩, .of_below hb⟩
  · rintro q v v' V' S' w' ⟨⟨a', c', hs', rfl, ho⟩, hl⟩ hv hwr hle hK hS' hq
    exact kont q V' S' w' a' c' hs' v' hle hK.grow hl ⟨hwr, fun x hx => hx.elim (fun h => Nat.lt_of_lt_of_le (hV.lt x (.inl h)) hK.size) (hS' x), hq⟩ ho hv

theorem qSpec {n workers : Int} (hC : Cq C) (ho : ops[ix]? = some o) (hw : Region.wanted o (yielded ops a.tmps) = true) (hk : b.kind ≠ .early) (hop : o.op = .call { callee := .value (.func 17), args, argTypes := ats }) (hargs : args.map a.eval = #[.int .i64 n, v1, .int .i64 workers])
    (hV : Vq C Rd0 S p V w) (h1 : VRel C p (.slice a1 xss.length c1) v1) (hr : Rd2 (Value.int .i64) V a1 c1 hs xss)
    (kont : ∀ q V' S' w' a' c' v', RLe p q → (∀ b, S b → S' b) → Low V V' → Vq C Rd0 S' q V' w' → Own (Value.int .i64) 2 V' V.heap.size a' c' (if fsOk n xss workers then fsN n xss else []) → VRel C q (.slice a' (if fsOk n xss workers then fsN n xss else []).length c') v' → GG Try.prog true RL (GL Rd0) Stop S' (G (b.at (a.put o.dst (.tuple #[v', .bool (fsOk n xss workers)])) (.inRegion ops rest :: k)) cs) w') :
    GG Try.prog true RL (GL Rd0) Stop S (G (b.at a (.inRegion ops (ix :: rest) :: k)) cs) w := by
  obtain ⟨R, hR⟩ : ∃ R, R = (if fsOk n xss workers then fsN n xss else []) := ⟨_, rfl⟩
  rw [← hR] at kont
  refine callQ (xv := #[.int .i64 n, .slice a1 xss.length c1, .int .i64 workers]) (Rv := fun v V' => (∃ a' c', v = .tuple #[.slice a' R.length c', .bool (fsOk n xss workers)] ∧ Own (Value.int .i64) 2 V' V.heap.size a' c' R) ∧ Low V V') hC.list (hC.fns _ (by decide)) ho hw hk hop Try.func17 nmSp rfl hV.lt hV.rel hV.own (fun T d => (specFS_any (n := n) (workers := workers) ((Low.tp V T d).rd2 hr)).mono ?_) (asame_three hargs (.int _ _) h1 (.int _ _)) ?_
  · rintro e w₁ ⟨a', c', rfl, ho, hb⟩
    rw [← hR] at ho ⊢
    exact ⟨⟨a', c', rfl, ho⟩, .of_below hb⟩
  · rintro q v v' V' S' w' ⟨⟨a', c', rfl, ho⟩, hl⟩ hv hwr hle hK hS' hq
    cases hv with
    | @tuple _ x' hsz hat =>
      obtain ⟨y0, y1, rfl⟩ : ∃ y0 y1, x' = #[y0, y1] := by
        obtain ⟨l⟩ := x'
        match l, hsz with
        | [y0, y1], _ => exact ⟨y0, y1, rfl⟩
      have e0 := hat 0 _ y0 rfl rfl
      have e1 := hat 1 _ y1 rfl rfl
      cases e1
      exact kont q V' S' w' a' c' y0 hle hK.grow hl ⟨hwr, fun x hx => hx.elim (fun h => Nat.lt_of_lt_of_le (hV.lt x (.inl h)) hK.size) (hS' x), hq⟩ ho e0

theorem qEq (hC : Cq C) (ho : ops[ix]? = some o) (hw : Region.wanted o (yielded ops a.tmps) = true) (hk : b.kind ≠ .early) (hop : o.op = .call { callee := .value (.func 21), args, argTypes := ats }) (hargs : args.map a.eval = #[v1, v2])
    (hV : Vq C Rd0 S p V w) (h1 : VRel C p (.slice a1 xs.length c1) v1) (h2 : VRel C p (.slice a2 xs.length c2) v2) (hr1 : Rd (Value.int .i64) V a1 c1 xs) (hr2 : Rd (Value.int .i64) V a2 c2 xs)
    (kont : ∀ q V' S' w', RLe p q → (∀ b, S b → S' b) → Low V V' → Vq C Rd0 S' q V' w' → GG Try.prog true RL (GL Rd0) Stop S' (G (b.at (a.put o.dst (.bool true)) (.inRegion ops rest :: k)) cs) w') :
    GG Try.prog true RL (GL Rd0) Stop S (G (b.at a (.inRegion ops (ix :: rest) :: k)) cs) w := by
  refine callQ (xv := #[.slice a1 xs.length c1, .slice a2 xs.length c2]) (Rv := fun v V' => v = .bool true ∧ Low V V') hC.list (hC.fns _ (by decide)) ho hw hk hop Try.func21 nmEq rfl hV.lt hV.rel hV.own (fun T d => (eqI_any ((Low.tp V T d).rd hr1) ((Low.tp V T d).rd hr2)).mono ?_) (asame_two hargs h1 h2) ?_
  · rintro e w₁ ⟨rfl, hb⟩
    exact ⟨by simp, .of_below hb⟩
  · rintro q v v' V' S' w' ⟨rfl, hl⟩ hv hwr hle hK hS' hq
    cases hv
    exact kont q V' S' w' hle hK.grow hl ⟨hwr, fun x hx => hx.elim (fun h => Nat.lt_of_lt_of_le (hV.lt x (.inl h)) hK.size) (hS' x), hq⟩

theorem qEqq (hC : Cq C) (ho : ops[ix]? = some o) (hw : Region.wanted o (yielded ops a.tmps) = true) (hk : b.kind ≠ .early) (hop : o.op = .call { callee := .value (.func 22), args, argTypes := ats }) (hargs : args.map a.eval = #[v1, v2])
    (hV : Vq C Rd0 S p V w) (h1 : VRel C p (.slice a1 xss.length c1) v1) (h2 : VRel C p (.slice a2 xss.length c2) v2) (hr1 : Rd2 (Value.int .i64) V a1 c1 hs xss) (hr2 : Rd2 (Value.int .i64) V a2 c2 hs2 xss)
    (kont : ∀ q V' S' w', RLe p q → (∀ b, S b → S' b) → Low V V' → Vq C Rd0 S' q V' w' → GG Try.prog true RL (GL Rd0) Stop S' (G (b.at (a.put o.dst (.bool true)) (.inRegion ops rest :: k)) cs) w') :
    GG Try.prog true RL (GL Rd0) Stop S (G (b.at a (.inRegion ops (ix :: rest) :: k)) cs) w := by
  refine callQ (xv := #[.slice a1 xss.length c1, .slice a2 xss.length c2]) (Rv := fun v V' => v = .bool true ∧ Low V V') hC.list (hC.fns _ (by decide)) ho hw hk hop Try.func22 nmEqq rfl hV.lt hV.rel hV.own (fun T d => (eqII_same ((Low.tp V T d).rd2 hr1) ((Low.tp V T d).rd2 hr2)).mono ?_) (asame_two hargs h1 h2) ?_
  · rintro e w₁ ⟨rfl, hb⟩
    exact ⟨rfl, .of_below hb⟩
  · rintro q v v' V' S' w' ⟨rfl, hl⟩ hv hwr hle hK hS' hq
    cases hv
    exact kont q V' S' w' hle hK.grow hl ⟨hwr, fun x hx => hx.elim (fun h => Nat.lt_of_lt_of_le (hV.lt x (.inl h)) hK.size) (hS' x), hq⟩

theorem qMkk {base hi : Nat} (hC : Cq C) (ho : ops[ix]? = some o) (hw : Region.wanted o (yielded ops a.tmps) = true) (hk : b.kind ≠ .early) (hop : o.op = .call { callee := .value (.func 23), args, argTypes := ats }) (hargs : args.map a.eval = #[v1, .int .i64 1])
    (hV : Vq C Rd0 S p V w) (h1 : VRel C p (.slice a1 xss.length c1) v1) (hr : Own2 (Value.int .i64) 2 25 V base a1 c1 hs xss) (hn : size2 xss ≤ 1048576) (kh : ∀ (i : Nat) (hd : Hd) (p : Addr), hs[i]? = some hd → hd.1 = some p → p.block < hi)
    (kont : ∀ q V' S' w' r, 0 ≤ r → RLe p q → (∀ b, S b → S' b) → LowB base hi V V' → Vq C Rd0 S' q V' w' → GG Try.prog true RL (GL Rd0) Stop S' (G (b.at (a.put o.dst (.int .i64 r)) (.inRegion ops rest :: k)) cs) w') :
    GG Try.prog true RL (GL Rd0) Stop S (G (b.at a (.inRegion ops (ix :: rest) :: k)) cs) w := by
  refine callQ (xv := #[.slice a1 xss.length c1, .int .i64 1]) (Rv := fun v V' => (∃ r : Int, v = .int .i64 r ∧ 0 ≤ r) ∧ LowB base hi V V') hC.list (hC.fns _ (by decide)) ho hw hk hop Try.func23 nmMkk rfl hV.lt hV.rel hV.own (fun T d => (markII_any ((Low.tp V T d).own2 hr) hn kh).mono ?_) (asame_two hargs h1 (.int _ _)) ?_
  · rintro e w₁ ⟨r, h0, _, rfl, hT⟩
    exact ⟨⟨r, rfl, h0⟩, hT.size, hT.block⟩
  · rintro q v v' V' S' w' ⟨⟨r, rfl, hr⟩, hl⟩ hv hwr hle hK hS' hq
    cases hv
    exact kont q V' S' w' r hr hle hK.grow hl ⟨hwr, fun x hx => hx.elim (fun h => Nat.lt_of_lt_of_le (hV.lt x (.inl h)) hK.size) (hS' x), hq⟩

theorem qMk {base : Nat} (hC : Cq C) (ho : ops[ix]? = some o) (hw : Region.wanted o (yielded ops a.tmps) = true) (hk : b.kind ≠ .early) (hop : o.op = .call { callee := .value (.func 24), args, argTypes := ats }) (hargs : args.map a.eval = #[v1, .int .i64 1])
    (hV : Vq C Rd0 S p V w) (h1 : VRel C p (.slice a1 xs.length c1) v1) (hr : Own (Value.int .i64) 2 V base a1 c1 xs) (hn : xs.length ≤ 8)
    (kont : ∀ q V' S' w', RLe p q → (∀ b, S b → S' b) → (V.heap.size ≤ V'.heap.size ∧ ∀ b, b < V.heap.size → some b ≠ a1.map (·.block) → V'.heap[b]? = V.heap[b]?) → Vq C Rd0 S' q V' w' → Own (Value.int .i64) 2 V' base a1 c1 (marks (fun k => (k : Int)) 1 xs.length) → GG Try.prog true RL (GL Rd0) Stop S' (G (b.at (a.put o.dst (.int .i64 ((1 + xs.length : Nat) : Int))) (.inRegion ops rest :: k)) cs) w') :
    GG Try.prog true RL (GL Rd0) Stop S (G (b.at a (.inRegion ops (ix :: rest) :: k)) cs) w := by
  refine callQ (xv := #[.slice a1 xs.length c1, .int .i64 1]) (Rv := fun v V' => v = .int .i64 ((1 + xs.length : Nat) : Int) ∧ Own (Value.int .i64) 2 V' base a1 c1 (marks (fun k => (k : Int)) 1 xs.length) ∧ (V.heap.size ≤ V'.heap.size ∧ ∀ b, b < V.heap.size → some b ≠ a1.map (·.block) → V'.heap[b]? = V.heap[b]?)) hC.list (hC.fns _ (by decide)) ho hw hk hop Try.func24 nmMk rfl hV.lt hV.rel hV.own (fun T d => (markI_any (k0 := 1) ((Low.tp V T d).own hr) (by omega)).mono ?_) (asame_two hargs h1 (.int _ _)) ?_
  · rintro e w₁ ⟨rfl, ho, hg⟩
    exact ⟨rfl, ho, hg.size, hg.block⟩
  · rintro q v v' V' S' w' ⟨rfl, ho, hl⟩ hv hwr hle hK hS' hq
    cases hv
    exact kont q V' S' w' hle hK.grow hl ⟨hwr, fun x hx => hx.elim (fun h => Nat.lt_of_lt_of_le (hV.lt x (.inl h)) hK.size) (hS' x), hq⟩ ho

theorem qHl {n : Nat} (hC : Cq C) (ho : ops[ix]? = some o) (hw : Region.wanted o (yielded ops a.tmps) = true) (hk : b.kind ≠ .early) (hop : o.op = .call { callee := .value (.func 25), args, argTypes := ats }) (hargs : args.map a.eval = #[v1, .int .i64 1])
    (hV : Vq C Rd0 S p V w) (h1 : VRel C p (.slice a1 n c1) v1) (hr : Rd (Value.int .i64) V a1 c1 (marks (fun k => (k : Int)) 1 n)) (hn : n ≤ 8)
    (kont : ∀ q V' S' w', RLe p q → (∀ b, S b → S' b) → Low V V' → Vq C Rd0 S' q V' w' → GG Try.prog true RL (GL Rd0) Stop S' (G (b.at (a.put o.dst (.int .i64 ((1 + n : Nat) : Int))) (.inRegion ops rest :: k)) cs) w') :
    GG Try.prog true RL (GL Rd0) Stop S (G (b.at a (.inRegion ops (ix :: rest) :: k)) cs) w := by
  refine callQ (xv := #[.slice a1 n c1, .int .i64 1]) (Rv := fun v V' => v = .int .i64 ((1 + n : Nat) : Int) ∧ Low V V') hC.list (hC.fns _ (by decide)) ho hw hk hop Try.func25 nmHl rfl hV.lt hV.rel hV.own (fun T d => (heldI_any (k0 := 1) ((Low.tp V T d).rd hr) (by omega)).mono ?_) (asame_two hargs h1 (.int _ _)) ?_
  · rintro e w₁ ⟨rfl, hb⟩
    exact ⟨rfl, .of_below hb⟩
  · rintro q v v' V' S' w' ⟨rfl, hl⟩ hv hwr hle hK hS' hq
    cases hv
    exact kont q V' S' w' hle hK.grow hl ⟨hwr, fun x hx => hx.elim (fun h => Nat.lt_of_lt_of_le (hV.lt x (.inl h)) hK.size) (hS' x), hq⟩
end
end Go.Proofs.Ytfecdmenliohhaa

set_option linter.unusedSimpArgs false
set_option linter.unusedVariables false
namespace Go.Proofs.Ytfecdmenliohhaa
open Go Go.Conc Go.ConcN Go.RowKit Go.Conc.Lib Go.ConcR.Gen Go.ConcN.Gen
open Go.ConcR (Payload DC0 WgAt)

noncomputable def opsL3 : Array Oper := match Try.f4.body with | some (.seq _ (.seq _ (.seq (.region _ ops _) _))) => ops | _ => #[]
noncomputable def restL3 : Code := match Try.f4.body with | some (.seq _ (.seq _ (.seq _ c))) => c | _ => .skip
noncomputable def opsL4 : Array Oper := match Try.f4.body with | some (.seq _ (.seq _ (.seq _ (.seq (.region _ ops _) _)))) => ops | _ => #[]
noncomputable def restL4 : Code := match Try.f4.body with | some (.seq _ (.seq _ (.seq _ (.seq _ c)))) => c | _ => .skip
theorem array77 (T : Array Value) (h : T.size = 77) : ∃ v0 v1 v2 v3 v4 v5 v6 v7 v8 v9 v10 v11 v12 v13 v14 v15 v16 v17 v18 v19 v20 v21 v22 v23 v24 v25 v26 v27 v28 v29 v30 v31 v32 v33 v34 v35 v36 v37 v38 v39 v40 v41 v42 v43 v44 v45 v46 v47 v48 v49 v50 v51 v52 v53 v54 v55 v56 v57 v58 v59 v60 v61 v62 v63 v64 v65 v66 v67 v68 v69 v70 v71 v72 v73 v74 v75 v76, T = #[v0, v1, v2, v3, v4, v5, v6, v7, v8, v9, v10, v11, v12, v13, v14, v15, v16, v17, v18, v19, v20, v21, v22, v23, v24, v25, v26, v27, v28, v29, v30, v31, v32, v33, v34, v35, v36, v37, v38, v39, v40, v41, v42, v43, v44, v45, v46, v47, v48, v49, v50, v51, v52, v53, v54, v55, v56, v57, v58, v59, v60, v61, v62, v63, v64, v65, v66, v67, v68, v69, v70, v71, v72, v73, v74, v75, v76] := by
  obtain ⟨l⟩ := T
  simp only [List.size_toArray] at h
  obtain ⟨v0, l0, e0, h⟩ := cons_of h
  obtain ⟨v1, l1, e1, h⟩ := cons_of h
  obtain ⟨v2, l2, e2, h⟩ := cons_of h
  obtain ⟨v3, l3, e3, h⟩ := cons_of h
  obtain ⟨v4, l4, e4, h⟩ := cons_of h
  obtain ⟨v5, l5, e5, h⟩ := cons_of h
  obtain ⟨v6, l6, e6, h⟩ := cons_of h
  obtain ⟨v7, l7, e7, h⟩ := cons_of h
  obtain ⟨v8, l8, e8, h⟩ := cons_of h
  obtain ⟨v9, l9, e9, h⟩ := cons_of h
  obtain ⟨v10, l10, e10, h⟩ := cons_of h
  obtain ⟨v11, l11, e11, h⟩ := cons_of h
  obtain ⟨v12, l12, e12, h⟩ := cons_of h
  obtain ⟨v13, l13, e13, h⟩ := cons_of h
  obtain ⟨v14, l14, e14, h⟩ := cons_of h
  obtain ⟨v15, l15, e15, h⟩ := cons_of h
  obtain ⟨v16, l16, e16, h⟩ := cons_of h
  obtain ⟨v17, l17, e17, h⟩ := cons_of h
  obtain ⟨v18, l18, e18, h⟩ := cons_of h
  obtain ⟨v19, l19, e19, h⟩ := cons_of h
  obtain ⟨v20, l20, e20, h⟩ := cons_of h
  obtain ⟨v21, l21, e21, h⟩ := cons_of h
  obtain ⟨v22, l22, e22, h⟩ := cons_of h
  obtain ⟨v23, l23, e23, h⟩ := cons_of h
  obtain ⟨v24, l24, e24, h⟩ := cons_of h
  obtain ⟨v25, l25, e25, h⟩ := cons_of h
  obtain ⟨v26, l26, e26, h⟩ := cons_of h
  obtain ⟨v27, l27, e27, h⟩ := cons_of h
  obtain ⟨v28, l28, e28, h⟩ := cons_of h
  obtain ⟨v29, l29, e29, h⟩ := cons_of h
  obtain ⟨v30, l30, e30, h⟩ := cons_of h
  obtain ⟨v31, l31, e31, h⟩ := cons_of h
  obtain ⟨v32, l32, e32, h⟩ := cons_of h
  obtain ⟨v33, l33, e33, h⟩ := cons_of h
  obtain ⟨v34, l34, e34, h⟩ := cons_of h
  obtain ⟨v35, l35, e35, h⟩ := cons_of h
  obtain ⟨v36, l36, e36, h⟩ := cons_of h
  obtain ⟨v37, l37, e37, h⟩ := cons_of h
  obtain ⟨v38, l38, e38, h⟩ := cons_of h
  obtain ⟨v39, l39, e39, h⟩ := cons_of h
  obtain ⟨v40, l40, e40, h⟩ := cons_of h
  obtain ⟨v41, l41, e41, h⟩ := cons_of h
  obtain ⟨v42, l42, e42, h⟩ := cons_of h
  obtain ⟨v43, l43, e43, h⟩ := cons_of h
  obtain ⟨v44, l44, e44, h⟩ := cons_of h
  obtain ⟨v45, l45, e45, h⟩ := cons_of h
  obtain ⟨v46, l46, e46, h⟩ := cons_of h
  obtain ⟨v47, l47, e47, h⟩ := cons_of h
  obtain ⟨v48, l48, e48, h⟩ := cons_of h
  obtain ⟨v49, l49, e49, h⟩ := cons_of h
  obtain ⟨v50, l50, e50, h⟩ := cons_of h
  obtain ⟨v51, l51, e51, h⟩ := cons_of h
  obtain ⟨v52, l52, e52, h⟩ := cons_of h
  obtain ⟨v53, l53, e53, h⟩ := cons_of h
  obtain ⟨v54, l54, e54, h⟩ := cons_of h
  obtain ⟨v55, l55, e55, h⟩ := cons_of h
  obtain ⟨v56, l56, e56, h⟩ := cons_of h
  obtain ⟨v57, l57, e57, h⟩ := cons_of h
  obtain ⟨v58, l58, e58, h⟩ := cons_of h
  obtain ⟨v59, l59, e59, h⟩ := cons_of h
  obtain ⟨v60, l60, e60, h⟩ := cons_of h
  obtain ⟨v61, l61, e61, h⟩ := cons_of h
  obtain ⟨v62, l62, e62, h⟩ := cons_of h
  obtain ⟨v63, l63, e63, h⟩ := cons_of h
  obtain ⟨v64, l64, e64, h⟩ := cons_of h
  obtain ⟨v65, l65, e65, h⟩ := cons_of h
  obtain ⟨v66, l66, e66, h⟩ := cons_of h
  obtain ⟨v67, l67, e67, h⟩ := cons_of h
  obtain ⟨v68, l68, e68, h⟩ := cons_of h
  obtain ⟨v69, l69, e69, h⟩ := cons_of h
  obtain ⟨v70, l70, e70, h⟩ := cons_of h
  obtain ⟨v71, l71, e71, h⟩ := cons_of h
  obtain ⟨v72, l72, e72, h⟩ := cons_of h
  obtain ⟨v73, l73, e73, h⟩ := cons_of h
  obtain ⟨v74, l74, e74, h⟩ := cons_of h
  obtain ⟨v75, l75, e75, h⟩ := cons_of h
  obtain ⟨v76, l76, e76, h⟩ := cons_of h
  obtain rfl := List.length_eq_zero_iff.1 h
  exact ⟨v0, v1, v2, v3, v4, v5, v6, v7, v8, v9, v10, v11, v12, v13, v14, v15, v16, v17, v18, v19, v20, v21, v22, v23, v24, v25, v26, v27, v28, v29, v30, v31, v32, v33, v34, v35, v36, v37, v38, v39, v40, v41, v42, v43, v44, v45, v46, v47, v48, v49, v50, v51, v52, v53, v54, v55, v56, v57, v58, v59, v60, v61, v62, v63, v64, v65, v66, v67, v68, v69, v70, v71, v72, v73, v74, v75, v76, by rw [e0, e1, e2, e3, e4, e5, e6, e7, e8, e9, e10, e11, e12, e13, e14, e15, e16, e17, e18, e19, e20, e21, e22, e23, e24, e25, e26, e27, e28, e29, e30, e31, e32, e33, e34, e35, e36, e37, e38, e39, e40, e41, e42, e43, e44, e45, e46, e47, e48, e49, e50, e51, e52, e53, e54, e55, e56, e57, e58, e59, e60, e61, e62, e63, e64, e65, e66, e67, e68, e69, e70, e71, e72, e73, e74, e75, e76]⟩
/-- Nothing is known. -/
def Tru (_ : World) : Prop := True
/-- What a call of ForestsShared answers. -/
def fsR (n : Int) (xss : List (List Int)) (workers : Int) : List Int := if fsOk n xss workers then fsN n xss else []
/-- At the return, with true. -/
def Fin4 (g : Goroutine) : Prop := ∃ T todo, T.size = 77 ∧ T[8]? = some (.bool true) ∧ g = G { (base 4).at ⟨T, []⟩ todo with mode := .returning } []

section
variable {w0 : World} {Rd0 : Nat → Prop} {S : OwnB} {la : Option Addr} {lc : Nat} {hs : List Hd} {xss : List (List Int)} {n workers hands : Int} {w : World} {m : Nat}
/-- At the first call. -/
structure LaA (la : Option Addr) (lc m : Nat) (n workers hands : Int) (T : Array Value) : Prop where
  size : T.size = 77
  t0 : T[0]? = some (.int .i64 n)
  t1 : T[1]? = some (.slice la m lc)
  t2 : T[2]? = some (.int .i64 workers)
  t3 : T[3]? = some (.int .i64 hands)
set_option maxRecDepth 100000 in
set_option maxHeartbeats 4000000 in
theorem laA_out (hm : 10000 < m) : GG Try.prog true RL (GL Rd0) (fun _ g _ => Fin4 g) S (G (Frame.enter Try.prog 4 #[.int .i64 n, .slice la m lc, .int .i64 workers, .int .i64 hands] .normal) []) w := by
  have q1 : decide ((10000 : Int) < (m : Int)) = true := decide_eq_true (by omega)
  have e : Frame.enter Try.prog 4 #[.int .i64 n, .slice la m lc, .int .i64 workers, .int .i64 hands] .normal = (base 4).at ⟨#[.int .i64 n, .slice la m lc, .int .i64 workers, .int .i64 hands, undef, undef, undef, undef, undef, undef, undef, undef, undef, undef, undef, undef, undef, undef, undef, undef, undef, undef, undef, undef, undef, undef, undef, undef, undef, undef, undef, undef, undef, undef, undef, undef, undef, undef, undef, undef, undef, undef, undef, undef, undef, undef, undef, undef, undef, undef, undef, undef, undef, undef, undef, undef, undef, undef, undef, undef, undef, undef, undef, undef, undef, undef, undef, undef, undef, undef, undef, undef, undef, undef, undef, undef, undef], []⟩ [.code (Try.f4.body.getD .skip)] := by
    simp [Frame.enter, Frame.at, Try.func4, base, Try.f4]
  rw [e]
  simp only [Try.f4, Option.getD_some]
  have hF : Tru w := trivial
  refine stretchL (F := Tru) (n := 60) (fun _ _ h => h) ?_
  u_c stepG_seq fl4 hF
  u_reg fl4 hF
  u_op fl4 hF
  u_c stepG_region_end fl4 hF
  u_c stepG_seq fl4 hF
  u_c stepG_seq fl4 hF
  u_reg fl4 hF
  u_op fl4 hF
  u_op fl4 hF
  u_op fl4 hF
  u_c stepG_region_end fl4 hF
  u_cond true fl4 hF
  u_c stepG_seq fl4 hF
  u_reg fl4 hF
  u_op fl4 hF
  u_c stepG_region_end fl4 hF
  u_c stepG_ret' fl4 hF
  refine Goes.stop fun w₁ h₁ => ?_
  replace hF := fl4 hF h₁
  clear h₁
  exact .stop fun _ _ => ⟨_, _, rfl, rfl, rfl⟩
set_option maxRecDepth 100000 in
set_option maxHeartbeats 4000000 in
theorem laA (hm : ¬ 10000 < m) : GG Try.prog true RL (GL Rd0) (fun _ g _ => ∃ T, LaA la lc m n workers hands T ∧ T[19]? = some (.int .i64 n) ∧ T[20]? = some (.slice la m lc) ∧ T[21]? = some (.int .i64 workers) ∧ g = G ((base 4).at ⟨T, []⟩ [.inRegion opsL3 [3, 4, 5, 6, 7, 8], .code restL3]) []) S (G (Frame.enter Try.prog 4 #[.int .i64 n, .slice la m lc, .int .i64 workers, .int .i64 hands] .normal) []) w := by
  have q1 : decide ((10000 : Int) < (m : Int)) = false := decide_eq_false (by omega)
  have e : Frame.enter Try.prog 4 #[.int .i64 n, .slice la m lc, .int .i64 workers, .int .i64 hands] .normal = (base 4).at ⟨#[.int .i64 n, .slice la m lc, .int .i64 workers, .int .i64 hands, undef, undef, undef, undef, undef, undef, undef, undef, undef, undef, undef, undef, undef, undef, undef, undef, undef, undef, undef, undef, undef, undef, undef, undef, undef, undef, undef, undef, undef, undef, undef, undef, undef, undef, undef, undef, undef, undef, undef, undef, undef, undef, undef, undef, undef, undef, undef, undef, undef, undef, undef, undef, undef, undef, undef, undef, undef, undef, undef, undef, undef, undef, undef, undef, undef, undef, undef, undef, undef, undef, undef, undef, undef], []⟩ [.code (Try.f4.body.getD .skip)] := by
    simp [Frame.enter, Frame.at, Try.func4, base, Try.f4]
  rw [e]
  simp only [Try.f4, Option.getD_some]
  have hF : Tru w := trivial
  refine stretchL (F := Tru) (n := 60) (fun _ _ h => h) ?_
  u_c stepG_seq fl4 hF
  u_reg fl4 hF
  u_op fl4 hF
  u_c stepG_region_end fl4 hF
  u_c stepG_seq fl4 hF
  u_c stepG_seq fl4 hF
  u_reg fl4 hF
  u_op fl4 hF
  u_op fl4 hF
  u_op fl4 hF
  u_c stepG_region_end fl4 hF
  u_cond false fl4 hF
  u_c stepG_skip fl4 hF
  u_c stepG_seq fl4 hF
  u_reg fl4 hF
  u_op fl4 hF
  u_op fl4 hF
  u_op fl4 hF
  refine Goes.stop fun w₁ h₁ => ?_
  replace hF := fl4 hF h₁
  clear h₁
  exact .stop fun _ _ => ⟨_, ⟨rfl, rfl, rfl, rfl, rfl⟩, rfl, rfl, rfl, rfl⟩
set_option maxRecDepth 100000 in
set_option maxHeartbeats 4000000 in
/-- Between the two calls. -/
theorem laB {T : Array Value} {a1 : Option Addr} {c1 m1 : Nat} {b1 : Bool} (hT : LaA la lc m n workers hands T) : GG Try.prog true RL (GL Rd0) (fun _ g _ => ∃ T, LaA la lc m n workers hands T ∧ T[9]? = some (.slice a1 m1 c1) ∧ T[10]? = some (.bool b1) ∧ T[26]? = some (.int .i64 n) ∧ T[27]? = some (.slice la m lc) ∧ T[28]? = some (.int .i64 hands) ∧ g = G ((base 4).at ⟨T, []⟩ [.inRegion opsL4 [3, 4, 5, 6, 7, 8], .code restL4]) []) S (G ((base 4).at ⟨T.setIfInBounds 22 (.tuple #[.slice a1 m1 c1, .bool b1]), []⟩ [.inRegion opsL3 [4, 5, 6, 7, 8], .code restL3]) []) w := by
  obtain ⟨hT, h0, h1, h2, h3⟩ := hT
  obtain ⟨v0, v1, v2, v3, v4, v5, v6, v7, v8, v9, v10, v11, v12, v13, v14, v15, v16, v17, v18, v19, v20, v21, v22, v23, v24, v25, v26, v27, v28, v29, v30, v31, v32, v33, v34, v35, v36, v37, v38, v39, v40, v41, v42, v43, v44, v45, v46, v47, v48, v49, v50, v51, v52, v53, v54, v55, v56, v57, v58, v59, v60, v61, v62, v63, v64, v65, v66, v67, v68, v69, v70, v71, v72, v73, v74, v75, v76, rfl⟩ := array77 T hT
  simp only [List.getElem?_toArray, List.getElem?_cons_zero, List.getElem?_cons_succ, Option.some.injEq] at h0 h1 h2 h3
  subst h0 h1 h2 h3
  simp only [opsL3, restL3, Try.f4, List.setIfInBounds_toArray, List.set_cons_succ, List.set_cons_zero]
  have hF : Tru w := trivial
  refine stretchL (F := Tru) (n := 60) (fun _ _ h => h) ?_
  u_op fl4 hF
  u_op fl4 hF
  u_op fl4 hF
  u_op fl4 hF
  u_op fl4 hF
  u_c stepG_region_end fl4 hF
  u_c stepG_seq fl4 hF
  u_reg fl4 hF
  u_op fl4 hF
  u_op fl4 hF
  u_op fl4 hF
  refine Goes.stop fun w₁ h₁ => ?_
  replace hF := fl4 hF h₁
  clear h₁
  exact .stop fun _ _ => ⟨_, ⟨rfl, rfl, rfl, rfl, rfl⟩, rfl, rfl, rfl, rfl, rfl, rfl⟩
end
end Go.Proofs.Ytfecdmenliohhaa
