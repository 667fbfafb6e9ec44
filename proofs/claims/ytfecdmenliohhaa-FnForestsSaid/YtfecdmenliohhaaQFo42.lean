/- The laws' calls beside leavers: the reference, the comparison of rows. A view that is kept over several calls: it grows with what they make; a true block is taken into it. A view that stands and grows: what is known of it. A view of two byte slices; the first pieces of a text carried out in a view that stands; a view behind a call of ForestsShared. A view that stands: a call, a block taken in, a call of ForestsShared. (As in XVir, XLaC, XLeE, for whatever list of functions: import one of the two.). -/
import Derived.Test.YtfecdmenliohhaaQFo41
set_option linter.unusedVariables false
set_option linter.unusedSimpArgs false
set_option linter.unusedSimpArgs false
set_option linter.unusedVariables false
namespace Go.Proofs.Ytfecdmenliohhaa
open Go Go.Conc Go.RowKit

section
variable {w0 : World} {cl : List (Nat × Obj)} {Rd0 : Nat → Prop} {S : OwnB} {Stop : OwnB → Goroutine → World → Prop} {w : World} {b : Frame} {a : Act} {k : List Item} {cs : List Frame} {ops : Array Oper} {ix : Nat} {rest : List Nat} {o : Oper} {args : Array Operand} {ats : Array TypeId}
/-- A slice that may be read. -/
def MayRd (Rd0 : Nat → Prop) (S : OwnB) (w : World) (a : Option Addr) (c : Nat) (xs : List Int) : Prop := Rd (Value.int .i64) w a c xs ∧ (xs ≠ [] → ∃ ad, a = some ad ∧ (Rd0 ad.block ∨ S ad.block))
theorem MayRd.fs {S' : OwnB} {w' : World} {a : Option Addr} {c : Nat} {xs : List Int} (h : MayRd Rd0 S w a c xs) (hS : ∀ b, S b → S' b) (hs : w.heap.size ≤ w'.heap.size) (hsm : ∀ b, Rd0 b ∨ S b → w'.heap[b]? = w.heap[b]?) : MayRd Rd0 S' w' a c xs := by
  obtain ⟨h1, h2⟩ := h
  refine ⟨⟨h1.cap, h1.max, h1.nil, fun h0 => let ⟨b, o, e, hlt⟩ := h1.here h0; ⟨b, o, e, Nat.lt_of_lt_of_le hlt hs⟩, fun k hk => ?_⟩, fun hne => let ⟨ad, e, hb⟩ := h2 hne; ⟨ad, e, hb.imp id (hS _)⟩⟩
  obtain ⟨b, o, e, _⟩ := h1.here (by omega)
  obtain ⟨ad, e', hb⟩ := h2 (fun e => by rw [e] at hk; simp at hk)
  rw [e] at e'
  cases e'
  have hc := h1.cell k hk
  rw [e, elt_some] at hc ⊢
  rw [← hc]
  unfold World.cell?
  simp only [hsm b hb]

theorem nmSp : (Try.f17.name == "runtime.NumGoroutine") = false := by kernel_rfl
theorem nmSI : (Try.f18.name == "runtime.NumGoroutine") = false := by kernel_rfl

theorem callSpecFS {la : Option Addr} {lc : Nat} {hs : List Hd} {xss : List (List Int)} {n workers : Int} (ho : ops[ix]? = some o) (hw : Region.wanted o (yielded ops a.tmps) = true) (hk : b.kind ≠ .early) (hop : o.op = .call { callee := .value (.func 17), args, argTypes := ats }) (hargs : args.map a.eval = #[.int .i64 n, .slice la xss.length lc, .int .i64 workers])
    (hF : FSt w0 cl S w) (hRl : ∀ b, Rd0 b → b < w0.heap.size) (h0 : Rd2 (Value.int .i64) w0 la lc hs xss) (hin : ∀ b, inL la hs xss [] b → Rd0 b)
    (kont : ∀ S' w' a' c', (∀ b, S b → S' b) → FSt w0 cl S' w' → (∀ b, Rd0 b ∨ S b → w'.heap[b]? = w.heap[b]?) → w.heap.size ≤ w'.heap.size → MayRd Rd0 S' w' a' c' (if fsOk n xss workers then fsN n xss else []) → GG Try.prog true RL (GL Rd0) Stop S' (G (b.at (a.put o.dst (.tuple #[.slice a' (if fsOk n xss workers then fsN n xss else []).length c', .bool (fsOk n xss workers)])) (.inRegion ops rest :: k)) cs) w') :
    GG Try.prog true RL (GL Rd0) Stop S (G (b.at a (.inRegion ops (ix :: rest) :: k)) cs) w := by
  have hL : LOk w la lc hs xss [] := ⟨rd2_old h0 hF.size hF.old, fun y hy => by simp at hy⟩
  obtain ⟨R, hR⟩ : ∃ R, R = (if fsOk n xss workers then fsN n xss else []) := ⟨_, rfl⟩
  rw [← hR] at kont
  refine callL (xv := #[.int .i64 n, .slice (seenA GB0 0 la) xss.length lc, .int .i64 workers]) (Rv := fun v w₁ => ∃ a c, v = .tuple #[.slice a R.length c, .bool (fsOk n xss workers)] ∧ Rd (Value.int .i64) w₁ a c R) (by decide) ho hw hk hop Try.func17 nmSp rfl hL (fun c hc => .inl (hin c hc)) (fs_lt hF hRl) (fun T d => ?_) (fun Ro => asame_three hargs (.int _ _) (lvs_arg hL) (.int _ _)) ?_
  · refine (specFS_any (n := n) (workers := workers) (lvs_rd2 hL)).mono ?_
    rintro e w₁ ⟨a, c, rfl, ho, _⟩
    rw [← hR] at ho ⊢
    exact ⟨a, c, rfl, ho.rd⟩
  · rintro C q v v' w₁ S' w' ⟨a2, c2, rfl, hrd⟩ hv hwr hK hS' hq hsm
    cases hv with
    | @tuple _ x' hsz hat =>
      obtain ⟨y0, y1, rfl⟩ : ∃ y0 y1, x' = #[y0, y1] := by
        obtain ⟨l⟩ := x'
        match l, hsz with
        | [y0, y1], _ => exact ⟨y0, y1, rfl⟩
      have e0 := hat 0 _ y0 rfl rfl
      have e1 := hat 1 _ y1 rfl rfl
      cases e1
      obtain ⟨a', rfl, h1, h2⟩ := rd_true hrd e0 hwr
      refine kont S' w' a' c2 hK.grow (hF.after hK hS' fun b hb => ?_) hsm hK.size ⟨h1, fun hne => ?_⟩
      · rcases hb with hb | hb
        · by_cases hS : S b
          · have := (hF.bnd b hS).1; omega
          · exact hK.other b (Nat.lt_of_lt_of_le hb hF.size) hS
        · exact hsm b (.inr hb)
      · obtain ⟨bb, ad, rfl, hb⟩ := h2 hne
        exact ⟨ad, rfl, hq _ _ hb⟩

theorem callSame {a1 a2 : Option Addr} {c1 c2 : Nat} {R : List Int} (ho : ops[ix]? = some o) (hw : Region.wanted o (yielded ops a.tmps) = true) (hk : b.kind ≠ .early) (hop : o.op = .call { callee := .value (.func 18), args, argTypes := ats }) (hargs : args.map a.eval = #[.slice a1 R.length c1, .slice a2 R.length c2])
    (hF : FSt w0 cl S w) (hRl : ∀ b, Rd0 b → b < w0.heap.size) (hx : MayRd Rd0 S w a1 c1 R) (hy : MayRd Rd0 S w a2 c2 R)
    (kont : ∀ S' w', (∀ b, S b → S' b) → FSt w0 cl S' w' → (∀ b, Rd0 b ∨ S b → w'.heap[b]? = w.heap[b]?) → w.heap.size ≤ w'.heap.size → GG Try.prog true RL (GL Rd0) Stop S' (G (b.at (a.put o.dst (.bool true)) (.inRegion ops rest :: k)) cs) w') :
    GG Try.prog true RL (GL Rd0) Stop S (G (b.at a (.inRegion ops (ix :: rest) :: k)) cs) w := by
  have hL : LOk w none 0 [] [] [(a1, c1, R), (a2, c2, R)] := by
    refine ⟨(lok_nil w).l, fun y hy' => ?_⟩
    simp only [List.mem_cons, List.not_mem_nil, or_false] at hy'
    rcases hy' with rfl | rfl
    · exact hx.1
    · exact hy.1
  have hin : ∀ c, inL none [] [] [(a1, c1, R), (a2, c2, R)] c → Rd0 c ∨ S c := by
    rintro c (⟨ad, h, _⟩ | ⟨k, hd, xs, ad, h, _⟩ | ⟨y, hy', ad, h1, h2, h3⟩)
    · cases h
    · simp at h
    · simp only [List.mem_cons, List.not_mem_nil, or_false] at hy'
      rcases hy' with rfl | rfl
      · obtain ⟨ad', e, hb⟩ := hx.2 h3
        have e2 := (show _ = some ad from h1).symm.trans e; cases e2; exact (show ad.block = c from h2) ▸ hb
      · obtain ⟨ad', e, hb⟩ := hy.2 h3
        have e2 := (show _ = some ad from h1).symm.trans e; cases e2; exact (show ad.block = c from h2) ▸ hb
  have ha : ∀ Ro, ASame (viwC LF GB0 Ro badT (lvs GB0 none [] [] [(a1, c1, R), (a2, c2, R)])) (viwP GB0 (lvs GB0 none [] [] [(a1, c1, R), (a2, c2, R)])) #[.slice (seenA GB0 (1 + ([] : List Hd).length + 0) a1) R.length c1, .slice (seenA GB0 (1 + ([] : List Hd).length + 1) a2) R.length c2] (args.map a.eval) := by
    intro Ro
    exact asame_two hargs (lvs_argx hL (i := 0) rfl) (lvs_argx hL (i := 1) rfl)
  refine callL (xv := #[.slice (seenA GB0 (1 + ([] : List Hd).length + 0) a1) R.length c1, .slice (seenA GB0 (1 + ([] : List Hd).length + 1) a2) R.length c2]) (Rv := fun v _ => v = .bool true) (by decide) ho hw hk hop Try.func18 nmSI rfl hL hin (fs_lt hF hRl) (fun T d => ?_) ha ?_
  · refine Calls.mono (sameInts_any (xs := R) (lvs_rdx hL (i := 0) (x := (a1, c1, R)) rfl) (lvs_rdx hL (i := 1) (x := (a2, c2, R)) rfl)) ?_
    rintro e w₁ ⟨rfl, _⟩
    rfl
  · rintro C q v v' w₁ S' w' rfl hv hwr hK hS' hq hsm
    cases hv
    refine kont S' w' hK.grow (hF.after hK hS' fun b hb => ?_) hsm hK.size
    rcases hb with hb | hb
    · by_cases hS : S b
      · have := (hF.bnd b hS).1; omega
      · exact hK.other b (Nat.lt_of_lt_of_le hb hF.size) hS
    · exact hsm b (.inr hb)
end
end Go.Proofs.Ytfecdmenliohhaa

set_option linter.unusedSimpArgs false
set_option linter.unusedVariables false
namespace Go.Proofs.Ytfecdmenliohhaa
open Go Go.Conc Go.RowKit

section
variable {P : Program} {Rd : Nat → Prop} {C : Cx}
/-- The mirror's word; the renaming only grows. -/
theorem GG.of_RIQ {Stop0 : Ren → Goroutine → World → Prop} {Stop : OwnB → Goroutine → World → Prop} {p : Ren} {g : Goroutine} {w : World} (h : RI P C true Stop0 p g w) {S : OwnB}
    (hlt : ∀ b, Rd b ∨ S b → b < w.heap.size) (hp : ∀ b c, p b = some c → (Rd c ∧ C.lock c) ∨ S c)
    (k : ∀ q S' g w', Stop0 q g w' → RLe p q → KL S S' w w' → (∀ b, S' b → b < w'.heap.size) → (∀ b c, q b = some c → (Rd c ∧ C.lock c) ∨ S' c) → (∀ c, C.lock c → c < w.heap.size → w'.heap[c]? = w.heap[c]?) → GG P true RL (GL Rd) Stop S' g w') : GG P true RL (GL Rd) Stop S g w := by
  have h' : RI P C true (fun q g w' => Stop0 q g w' ∧ RLe p q) p g w := by
    have key : ∀ {q : Ren} {g : Goroutine} {w₁ : World}, RI P C true Stop0 q g w₁ → RLe p q → RI P C true (fun q g w' => Stop0 q g w' ∧ RLe p q) q g w₁ := by
      intro q g w₁ h
      induction h with
      | stop hs => exact fun hle => .stop fun w₁ h₁ => ⟨hs w₁ h₁, hle⟩
      | step nx hrun hstep _ ih =>
        intro hle
        refine .step nx hrun hstep fun w₁ h₁ => ih w₁ h₁ ?_
        obtain ⟨es, _, hl2, _⟩ := hstep w₁ h₁
        exact fun b c hb => hl2 b c (hle b c hb)
    exact key h (RLe.refl p)
  exact GG.of_RIL h' hlt hp fun q S' g w' hs hK hS' hq hsm => k q S' g w' hs.1 hs.2 hK hS' hq hsm
end

section
variable {C : Cx} {p : Ren} {V w w' : World}
/-- The truth turns elsewhere. -/
theorem WRel.keep (h : WRel C p V w) (hs : ∀ b c, p b = some c → w'.heap[c]? = w.heap[c]?) (hz : w.heap.size ≤ w'.heap.size) : WRel C p V w' :=
  ⟨h.inj, fun b c hb => let ⟨o, o', h1, h2, h3⟩ := h.obj b c hb; ⟨o, o', h1, (hs b c hb).trans h2, h3⟩, h.gV, h.lockV, fun c hc => Nat.lt_of_lt_of_le (h.lockT c hc) hz, h.shV, h.deadV⟩
def extQ (p : Ren) (n c : Nat) : Ren := fun b => if b = n then some c else p b
theorem extQ_le (h : WRel C p V w) (c : Nat) : RLe p (extQ p V.heap.size c) := by
  intro b c' hb
  have := (h.lt hb).1
  unfold extQ
  rw [if_neg (by omega)]
  exact hb
/-- A true block is taken into the view. -/
theorem WRel.adopt (h : WRel C p V w) {c : Nat} {o o' : Obj} (hc : w.heap[c]? = some o') (hn : ∀ b, p b ≠ some c) (hl : ¬ C.lock c) (ho : ∀ q, ORel C q o o') : WRel C (extQ p V.heap.size c) (V.alloc o) w := by
  have hs : (V.alloc o).heap = V.heap.push o := rfl
  have hle := extQ_le h c
  have old : ∀ b, b < V.heap.size → (V.alloc o).heap[b]? = V.heap[b]? := fun b hb => by rw [hs, Array.getElem?_push_lt hb, Array.getElem?_eq_getElem hb]
  have hx : ∀ b c', extQ p V.heap.size c b = some c' → (b = V.heap.size ∧ c' = c) ∨ (p b = some c' ∧ b < V.heap.size) := by
    intro b c' hb
    unfold extQ at hb
    split at hb
    · next e => cases hb; exact .inl ⟨e, rfl⟩
    · exact .inr ⟨hb, (h.lt hb).1⟩
  refine ⟨fun b b₁ c' h1 h2 => ?_, fun b c' hb => ?_, ?_, fun b c' hb hlk => ?_, h.lockT, fun b hb => ?_, fun b hb => ?_⟩
  · rcases hx _ _ h1 with ⟨rfl, rfl⟩ | ⟨g1, l1⟩
    · rcases hx _ _ h2 with ⟨rfl, _⟩ | ⟨g2, _⟩
      · exact .inl rfl
      · exact absurd g2 (hn _)
    · rcases hx _ _ h2 with ⟨rfl, rfl⟩ | ⟨g2, _⟩
      · exact absurd g1 (hn _)
      · exact h.inj _ _ _ g1 g2
  · rcases hx _ _ hb with ⟨rfl, rfl⟩ | ⟨g1, l1⟩
    · exact ⟨o, o', by rw [hs]; simp, hc, .full (h.shV _ (Nat.le_refl _)) (ho _)⟩
    · obtain ⟨x, x', h1, h2, h3⟩ := h.obj _ _ g1
      exact ⟨x, x', (old _ l1).trans h1, h2, h3.mono hle⟩
  · rw [hs, Array.size_push]; have := h.gV; omega
  · rcases hx _ _ hb with ⟨rfl, rfl⟩ | ⟨g1, l1⟩
    · exact absurd hlk hl
    · obtain ⟨cs, e, m, h1, h2⟩ := h.lockV _ _ g1 hlk
      exact ⟨cs, e, m, (old _ l1).trans h1, h2⟩
  · rw [hs, Array.size_push] at hb
    exact h.shV _ (by omega)
  · obtain ⟨h1, h2⟩ := h.deadV b hb
    have hlt : b < V.heap.size := (Array.getElem?_eq_some_iff.1 h2).1
    refine ⟨?_, (old _ hlt).trans h2⟩
    unfold extQ
    rw [if_neg (by omega)]
    exact h1
/-- Numbers are alike everywhere. -/
theorem orel_ints {q : Ren} (xs : List Int) (e : TypeId) : ORel C q (.cells (xs.map (Value.int .i64)).toArray e (0, 0)) (.cells (xs.map (Value.int .i64)).toArray e (0, 0)) := by
  refine .cells ⟨rfl, fun i v v' h1 h2 => ?_⟩ fun i h1 h2 => ⟨h1, h2⟩
  rw [h1] at h2
  cases h2
  simp only [List.getElem?_toArray, List.getElem?_map, Option.map_eq_some_iff] at h1
  obtain ⟨x, _, rfl⟩ := h1
  exact .int _ _
end

section
variable {w0 : World} {Rd0 : Nat → Prop} {S : OwnB} {Stop : OwnB → Goroutine → World → Prop} {w V : World} {C : Cx} {p : Ren}
/-- ████ A call beside leavers, in a view that stands. ████ -/
theorem callQ (H : ListOk Try.prog C LF) {f : FuncId} {fn : Func} {c : Code} (hF : C.F f) {b : Frame} {a : Act} {k : List Item} {cs : List Frame} {ops : Array Oper} {ix : Nat} {rest : List Nat} {o : Oper} {args : Array Operand} {ats : Array TypeId}
    (ho : ops[ix]? = some o) (hw : Region.wanted o (yielded ops a.tmps) = true) (hk : b.kind ≠ .early) (hop : o.op = .call { callee := .value (.func f), args, argTypes := ats })
    (hf : Try.prog.funcs[f]? = some fn) (hname : (fn.name == "runtime.NumGoroutine") = false) (hb : fn.body = some c)
    (hlt : ∀ b, Rd0 b ∨ S b → b < w.heap.size) (hW : WRel C p V w) (hp : ∀ b c, p b = some c → (Rd0 c ∧ C.lock c) ∨ S c) {Rv : Value → World → Prop} {xv : Array Value}
    (hcl : ∀ T d, Calls Try.prog f xv (World.tp V T d) (fun | .returned v, w₁ => Rv v w₁ | _, _ => False))
    (ha : ASame C p xv (args.map a.eval))
    (kont : ∀ q v v' V' S' w', Rv v V' → VRel C q v v' → WRel C q V' w' → RLe p q → KL S S' w w' → (∀ b, S' b → b < w'.heap.size) → (∀ b c, q b = some c → (Rd0 c ∧ C.lock c) ∨ S' c) → GG Try.prog true RL (GL Rd0) Stop S' (G (b.at (a.put o.dst v') (.inRegion ops rest :: k)) cs) w') :
    GG Try.prog true RL (GL Rd0) Stop S (G (b.at a (.inRegion ops (ix :: rest) :: k)) cs) w := by
  refine .goes rfl fun w₁ h₁ => goes_call ho hw hk hop hf hname hb ⟨S, .idle S _, ?_⟩
  obtain ⟨d, rfl⟩ := h₁
  have hC : WRel C p V (w.at d) := hW.draws V.drawn d V.tape w.tape
  have hRI := mirrorC (main := true) (ct := b.at a (.inRegion ops (ix :: rest) :: k) :: cs) H hF hcl ha hC
  rw [show rec' (Frame.enter Try.prog f (args.map a.eval) .normal) (b.at a (.inRegion ops (ix :: rest) :: k) :: cs) = G ((base f).at { tmps := args.map a.eval ++ Array.replicate (fn.ntmps - (args.map a.eval).size) undef, defers := [] } [.code c]) (b.at a (.inRegion ops (ix :: rest) :: k) :: cs) by rw [enter_at _ hf hb]; rfl] at hRI
  refine GG.of_RIQ (Rd := Rd0) hRI (fun b hb => hlt b hb) hp ?_
  rintro q S' g w' ⟨v, v', wv', f', fn', hR, hv, hwr, rfl, h1, h2, h3, h4, h5⟩ hle hK hS' hq hsm
  refine .ctl GL.idle RL.trans rfl (g' := G (b.at (a.put o.dst v') (.inRegion ops rest :: k)) cs) (fun w₂ => ?_) (kont q v v' wv' S' w' hR hv hwr hle ((KL.at S w d).trans hK) hS' hq)
  have hfin : (b.at a (.inRegion ops (ix :: rest) :: k)).finish v' = b.at (a.put o.dst v') (.inRegion ops rest :: k) := by rw [Frame.finish_at, ho]; rfl
  have h6 : (results fn' f'.tmps).runT Try.prog w₂ #[] = (.ok v' w₂, #[]) := h5 w₂ #[]
  have := stepG_leaving (P := Try.prog) (main := true) (cs := cs) (c := b.at a (.inRegion ops (ix :: rest) :: k)) h1 h2 h3 h4 h6
  rw [hfin] at this
  exact this
end

/-- A list of lists of the view: what it is in truth. -/
theorem rd2_true {C : Cx} {q : Ren} {w₁ w' : World} {a : Option Addr} {c : Nat} {hs : List Hd} {xss : List (List Int)} {v' : Value} (h : Rd2 (Value.int .i64) w₁ a c hs xss) (hv : VRel C q (.slice a xss.length c) v') (hw : WRel C q w₁ w') :
    ∃ a' hs', v' = .slice a' xss.length c ∧ Rd2 (Value.int .i64) w' a' c hs' xss ∧ ∀ b, inL a' hs' xss [] b → ∃ b0, q b0 = some b := by
  have hlen := h.len
  -- the rows
  have rows : ∀ (a' : Option Addr), (xss ≠ [] → ∀ k, k < xss.length → ∃ v', w'.cell? (elt a' k) = some v' ∧ VRel C q (hdV (hs[k]?.getD default)) v') →
      ∃ hs' : List Hd, hs'.length = xss.length ∧ (∀ k, k < hs'.length → w'.cell? (elt a' k) = some (hdV (hs'[k]?.getD default))) ∧ (∀ k, k < xss.length → ∃ (hd : Hd) (xs : List Int), hs'[k]? = some hd ∧ xss[k]? = some xs ∧ hd.2.1 = xs.length ∧ Rd (Value.int .i64) w' hd.1 hd.2.2 xs) ∧
        ∀ (k : Nat) (hd : Hd) (xs : List Int) (ad : Addr), hs'[k]? = some hd → xss[k]? = some xs → hd.1 = some ad → xs ≠ [] → ∃ b0, q b0 = some ad.block := by
    intro a' hcell
    have one : ∀ k : Nat, ∃ hd : Hd, k < xss.length → w'.cell? (elt a' k) = some (hdV hd) ∧ ∃ xs, xss[k]? = some xs ∧ hd.2.1 = xs.length ∧ Rd (Value.int .i64) w' hd.1 hd.2.2 xs ∧ ∀ ad, hd.1 = some ad → xs ≠ [] → ∃ b0, q b0 = some ad.block := by
      intro k
      by_cases hk : k < xss.length
      · obtain ⟨hd, xs, h1, h2, h3, h4⟩ := h.row k hk
        obtain ⟨v', g1, g2⟩ := hcell (fun e => by rw [e] at hk; simp at hk) k hk
        rw [h1, Option.getD_some, hdV, h3] at g2
        obtain ⟨a2, rfl, g3, g4⟩ := rd_true h4 g2 hw
        refine ⟨(a2, xs.length, hd.2.2), fun _ => ⟨g1, xs, h2, rfl, g3, fun ad e hne => ?_⟩⟩
        obtain ⟨b, ad', e', hb⟩ := g4 hne
        simp only at e
        rw [e] at e'
        cases e'
        exact ⟨b, hb⟩
      · exact ⟨default, fun hk' => absurd hk' hk⟩
    obtain ⟨g, hg⟩ := Classical.axiomOfChoice one
    have at' : ∀ k, k < xss.length → ((List.range xss.length).map g)[k]? = some (g k) := fun k hk => by simp [hk]
    refine ⟨(List.range xss.length).map g, by simp, fun k hk => ?_, fun k hk => ?_, fun k hd xs ad h1 h2 h3 h4 => ?_⟩
    · have hk' : k < xss.length := by simpa using hk
      rw [at' k hk', Option.getD_some]
      exact (hg k hk').1
    · obtain ⟨_, xs, h2, h3, h4, _⟩ := hg k hk
      exact ⟨g k, xs, at' k hk, h2, h3, h4⟩
    · have hk : k < xss.length := (List.getElem?_eq_some_iff.1 h2).1
      rw [at' k hk] at h1
      cases h1
      obtain ⟨_, xs', g2, _, _, g5⟩ := hg k hk
      rw [h2] at g2
      cases g2
      exact g5 ad h3 h4
  have img : ∀ (a' : Option Addr) (hs' : List Hd), (xss ≠ [] → ∀ ad, a' = some ad → ∃ b0, q b0 = some ad.block) → hs'.length = xss.length → (∀ (k : Nat) (hd : Hd) (xs : List Int) (ad : Addr), hs'[k]? = some hd → xss[k]? = some xs → hd.1 = some ad → xs ≠ [] → ∃ b0, q b0 = some ad.block) → ∀ b, inL a' hs' xss [] b → ∃ b0, q b0 = some b := by
    rintro a' hs' htop hl hrow b (⟨ad, h1, h2, h3⟩ | ⟨k, hd, xs, ad, h1, h2, h3, h4, h5⟩ | ⟨y, hy, _⟩)
    · subst h2
      exact htop (fun e => by rw [e] at hl; exact h3 (List.length_eq_zero_iff.1 hl)) ad h1
    · subst h4
      exact hrow k hd xs ad h1 h2 h3 h5
    · simp at hy
  generalize hsl : Value.slice a xss.length c = s at hv
  cases hv with
  | slice0 =>
    simp only [Value.slice.injEq] at hsl
    obtain ⟨rfl, hl, rfl⟩ := hsl
    have hx : xss = [] := List.length_eq_zero_iff.1 hl
    subst hx
    exact ⟨none, [], rfl, ⟨⟨Nat.le_refl _, by simp, fun _ => rfl, (fun h => by simp at h), (fun k hk => by simp at hk)⟩, rfl, fun i hi => by simp at hi⟩, fun b hb => (inL_nil b hb).elim⟩
  | @slice x x' l c' ha =>
    simp only [Value.slice.injEq] at hsl
    obtain ⟨rfl, rfl, rfl⟩ := hsl
    by_cases hx : xss = []
    · subst hx
      refine ⟨some x', [], rfl, ⟨⟨by simp, by have := h.top.max; simpa [hlen] using this, (fun e => by cases e), (fun h => by simp at h), (fun k hk => by simp at hk)⟩, rfl, fun i hi => by simp at hi⟩, img _ _ (fun hne => absurd rfl hne) rfl (fun k hd xs ad h1 => by simp at h1)⟩
    · have hpos : 0 < xss.length := by cases xss with | nil => exact absurd rfl hx | cons _ _ => simp
      obtain ⟨b, o, e, hlt⟩ := h.top.here (by omega)
      cases e
      obtain ⟨b', o', s'⟩ := x'
      have hs0 : s' = none := ha.s
      subst hs0
      have hb : q b = some b' := ha.b
      obtain ⟨hs', g1, g2, g3, g4⟩ := rows (some ⟨b', o', none⟩) (fun _ k hk => by
        have hc := h.top.cell k (by omega)
        rw [elt_some] at hc ⊢
        exact hw.cell (a := ⟨b, o + k, none⟩) (a' := ⟨b', o' + k, none⟩) ⟨hb, by have := ha.o; simp only at this ⊢; omega, rfl, ha.g⟩ hc)
      refine ⟨_, hs', rfl, ⟨⟨by rw [g1, ← hlen]; exact h.top.cap, h.top.max, (fun e => by cases e), fun _ => ⟨b', o', rfl, (hw.lt hb).2⟩, g2⟩, g1, g3⟩, img _ _ (fun _ ad e => by cases e; exact ⟨b, hb⟩) g1 g4⟩
  | sliceE c' hd =>
    simp only [Value.slice.injEq] at hsl
    obtain ⟨rfl, hl, rfl⟩ := hsl
    have hx : xss = [] := List.length_eq_zero_iff.1 hl
    subst hx
    refine ⟨_, [], rfl, ⟨⟨by simp, by have := h.top.max; simpa [hlen] using this, (fun e => by cases e), (fun h => by simp at h), (fun k hk => by simp at hk)⟩, rfl, fun i hi => by simp at hi⟩, img _ _ (fun hne => absurd rfl hne) rfl (fun k hd xs ad h1 => by simp at h1)⟩
  | _ => cases hsl
end Go.Proofs.Ytfecdmenliohhaa

set_option linter.unusedSimpArgs false
set_option linter.unusedVariables false
namespace Go.Proofs.Ytfecdmenliohhaa
open Go Go.Conc Go.RowKit

/-- The view has only grown. -/
def Low (V V' : World) : Prop := V.heap.size ≤ V'.heap.size ∧ ∀ b, b < V.heap.size → V'.heap[b]? = V.heap[b]?
theorem Low.refl (V : World) : Low V V := ⟨Nat.le_refl _, fun _ _ => rfl⟩
theorem Low.trans {a b c : World} (h : Low a b) (k : Low b c) : Low a c := ⟨Nat.le_trans h.1 k.1, fun x hx => (k.2 x (Nat.lt_of_lt_of_le hx h.1)).trans (h.2 x hx)⟩
theorem Low.tp (V : World) (T : Nat → Question → Nat) (d : Nat) : Low V (World.tp V T d) := ⟨Nat.le_refl _, fun _ _ => rfl⟩
theorem Low.of_below {V V' : World} {T : Nat → Question → Nat} {d : Nat} (h : Below (World.tp V T d).heap.size (World.tp V T d) V') : Low V V' := ⟨h.size, h.block⟩
theorem Low.rd {V V' : World} {a : Option Addr} {c : Nat} {xs : List Int} (h : Low V V') (k : Rd (Value.int .i64) V a c xs) : Rd (Value.int .i64) V' a c xs := rd_old k h.1 h.2
theorem Low.rd2 {V V' : World} {a : Option Addr} {c : Nat} {hs : List Hd} {xss : List (List Int)} (h : Low V V') (k : Rd2 (Value.int .i64) V a c hs xss) : Rd2 (Value.int .i64) V' a c hs xss := rd2_old k h.1 h.2
theorem Low.own {V V' : World} {base : Nat} {a : Option Addr} {c : Nat} {xs : List Int} (h : Low V V') (k : Own (Value.int .i64) 2 V base a c xs) : Own (Value.int .i64) 2 V' base a c xs := k.heap fun p hp => h.2 _ (k.blk p hp).2
theorem Low.own2 {V V' : World} {base : Nat} {a : Option Addr} {c : Nat} {hs : List Hd} {xss : List (List Int)} (h : Low V V') (k : Own2 (Value.int .i64) 2 25 V base a c hs xss) : Own2 (Value.int .i64) 2 25 V' base a c hs xss :=
  ⟨k.top.heap fun p hp => h.2 _ (k.top.blk p hp).2, k.len, fun i hi => let ⟨hd, xs, h1, h2, h3, h4, h5⟩ := k.row i hi; ⟨hd, xs, h1, h2, h3, h.own h4, h5⟩, k.apart⟩
/-- All but these blocks of the view stand. -/
def LowB (lo hi : Nat) (V V' : World) : Prop := V.heap.size ≤ V'.heap.size ∧ ∀ b, b < V.heap.size → (b < lo ∨ hi ≤ b) → V'.heap[b]? = V.heap[b]?

/-- The view stands beside the truth; what goroutine 0 may read and what it owns. -/
structure Vq (C : Cx) (Rd0 : Nat → Prop) (S : OwnB) (p : Ren) (V w : World) : Prop where
  rel : WRel C p V w
  lt : ∀ b, Rd0 b ∨ S b → b < w.heap.size
  own : ∀ b c, p b = some c → (Rd0 c ∧ C.lock c) ∨ S c
theorem Vq.at {C : Cx} {Rd0 : Nat → Prop} {S : OwnB} {p : Ren} {V w : World} (h : Vq C Rd0 S p V w) (d : Nat) : Vq C Rd0 S p V (w.at d) := ⟨h.rel.draws V.drawn d V.tape w.tape, h.lt, h.own⟩
end Go.Proofs.Ytfecdmenliohhaa

set_option linter.unusedSimpArgs false
set_option linter.unusedVariables false
namespace Go.Proofs.Ytfecdmenliohhaa
open Go Go.Conc Go.RowKit

/-! ### two byte slices -/
def bvs (a1 : Option Addr) (xs : List Int) (a2 : Option Addr) (ys : List Int) : List VB := [winA (Value.int .u8) a1 xs, winA (Value.int .u8) a2 ys]
section
variable {L : List FuncId} {GB : Nat} {bad : TypeId} {w W : World} {a1 a2 : Option Addr} {c1 c2 : Nat} {xs ys : List Int}
theorem bvs_cases {i : Nat} {x : VB} (h : (bvs a1 xs a2 ys)[i]? = some x) : (i = 0 ∧ x = winA (Value.int .u8) a1 xs) ∨ (i = 1 ∧ x = winA (Value.int .u8) a2 ys) := by
  match i, h with
  | 0, h => exact .inl ⟨rfl, (Option.some.inj h).symm⟩
  | 1, h => exact .inr ⟨rfl, (Option.some.inj h).symm⟩
  | i + 2, h => simp [bvs] at h
theorem win_lock {α : Type} [Inhabited α] {f : α → Value} {a : Option Addr} {c : Nat} {zs : List α} (h : Rd f W a c zs) (hne : zs ≠ []) : (a.getD ⟨0, 0, none⟩).block < W.heap.size := by
  obtain ⟨b, o, rfl, hlt⟩ := rd_here h hne
  exact hlt
theorem bvs_rel (h1 : Rd (Value.int .u8) W a1 c1 xs) (h2 : Rd (Value.int .u8) W a2 c2 ys) {w₀ : World} : WRel (viwC L GB (fun b => b < W.heap.size) bad (bvs a1 xs a2 ys)) (viwP GB (bvs a1 xs a2 ys)) (viwW GB bad (bvs a1 xs a2 ys) w₀) W := by
  have lock : ∀ (i blk off : Nat) (zs : List Value), (bvs a1 xs a2 ys)[i]? = some (.win blk off zs) → zs ≠ [] → blk < W.heap.size := by
    intro i blk off zs h hne
    rcases bvs_cases h with ⟨_, e⟩ | ⟨_, e⟩ <;>
    · simp only [winA, VB.win.injEq] at e
      obtain ⟨rfl, rfl, rfl⟩ := e
      first | exact win_lock h1 (fun e => hne (by simp [e])) | exact win_lock h2 (fun e => hne (by simp [e]))
  have cell : ∀ {a : Option Addr} {c : Nat} {zs : List Int}, Rd (Value.int .u8) W a c zs → ∀ (k : Nat) (v : Value), (zs.map (Value.int .u8))[k]? = some v → ∃ v', W.cell? ⟨(a.getD ⟨0, 0, none⟩).block, k + (a.getD ⟨0, 0, none⟩).off, none⟩ = some v' ∧ VRel (viwC L GB (fun b => b < W.heap.size) bad (bvs a1 xs a2 ys)) (viwP GB (bvs a1 xs a2 ys)) v v' := by
    intro a c zs hr k v hv
    have hk : k < zs.length := by simpa using (List.getElem?_eq_some_iff.1 hv).1
    refine ⟨_, rd_cell hr hk, ?_⟩
    simp [hk] at hv
    subst hv
    rw [List.getElem?_eq_getElem hk]
    exact .int _ _
  refine viw_rel lock (fun i j x y c hi hj hx hy => .inr ?_) (fun i blk o hi => ?_) (fun i blk off zs hi k v hv => ?_) (fun c hc => hc)
  · obtain ⟨b, o, vs, rfl⟩ : ∃ b o vs, x = .win b o vs := by rcases bvs_cases hi with ⟨_, rfl⟩ | ⟨_, rfl⟩ <;> exact ⟨_, _, _, rfl⟩
    simp only [VB.tgt] at hx
    split at hx
    · cases hx
    · rename_i hne
      cases hx
      exact lock _ _ _ _ hi (by simpa using hne)
  · rcases bvs_cases hi with ⟨_, e⟩ | ⟨_, e⟩ <;> cases e
  · rcases bvs_cases hi with ⟨_, e⟩ | ⟨_, e⟩ <;>
    · simp only [winA, VB.win.injEq] at e
      obtain ⟨rfl, rfl, rfl⟩ := e
      first | exact cell h1 k v hv | exact cell h2 k v hv
theorem bvs_img (h1 : Rd (Value.int .u8) W a1 c1 xs) (h2 : Rd (Value.int .u8) W a2 c2 ys) {b c : Nat} (hb : viwP GB (bvs a1 xs a2 ys) b = some c) : c < W.heap.size :=
  ((bvs_rel (L := []) (bad := 0) h1 h2 (w₀ := W)).lt hb).2
theorem bvs_rd1 (h1 : Rd (Value.int .u8) W a1 c1 xs) : Rd (Value.int .u8) (viwW GB bad (bvs a1 xs a2 ys) w) (seenA GB 0 a1) c1 xs := viw_rdA (i := 0) h1 rfl
theorem bvs_rd2 (h2 : Rd (Value.int .u8) W a2 c2 ys) : Rd (Value.int .u8) (viwW GB bad (bvs a1 xs a2 ys) w) (seenA GB 1 a2) c2 ys := viw_rdA (i := 1) h2 rfl
theorem bvs_arg1 {Ro : Nat → Prop} (h1 : Rd (Value.int .u8) W a1 c1 xs) : VRel (viwC L GB Ro bad (bvs a1 xs a2 ys)) (viwP GB (bvs a1 xs a2 ys)) (.slice (seenA GB 0 a1) xs.length c1) (.slice a1 xs.length c1) := viw_sliceA (i := 0) h1 rfl rfl
theorem bvs_arg2 {Ro : Nat → Prop} (h2 : Rd (Value.int .u8) W a2 c2 ys) : VRel (viwC L GB Ro bad (bvs a1 xs a2 ys)) (viwP GB (bvs a1 xs a2 ys)) (.slice (seenA GB 1 a2) ys.length c2) (.slice a2 ys.length c2) := viw_sliceA (i := 1) h2 rfl rfl
end

/-! ### pieces of a text -/
/-- What the first n pieces come to. -/
def pwp (P : Program) (R Q : Act → World → Prop) : Nat → Code → Act → World → Prop
  | 0, _, a, w => Q a w
  | n + 1, .seq c1 c2, a, w => ∀ T d, c1.wp P (fun e a' w' => a'.defers = [] ∧ ((e = .normal ∧ pwp P R Q n c2 a' w') ∨ (e = .ret ∧ R a' w'))) a (World.tp w T d)
  | _ + 1, _, _, _ => False
/-- The first n pieces are of the kinds that are mirrored. -/
def pOk (P : Program) (L : List FuncId) : Nat → Code → Bool
  | 0, _ => true
  | n + 1, .seq c1 c2 => codeOk P L c1 && pOk P L n c2
  | _ + 1, _ => false
def dropC : Nat → Code → Code
  | 0, c => c
  | n + 1, .seq _ c => dropC n c
  | _ + 1, c => c

section
variable {P : Program} {L : List FuncId} {Rd0 : Nat → Prop} {Stop : OwnB → Goroutine → World → Prop} {C : Cx} {k : List Item} {cs : List Frame} {b : Frame}
/-- ████ A piece of text beside leavers. ████ -/
theorem codeL (hC : ListOk P C L) {S : OwnB} {w V : World} {p : Ren} {c : Code} {a a' : Act} {Q : Exit → Act → World → Prop} (hbf : FnRes P b.fn) (hbk : b.kind ≠ .early) (hc : codeOk P L c = true)
    (hQ : ∀ e a w, Q e a w → (e = .normal ∨ e = .ret) ∧ a.defers = []) (hV : Vq C Rd0 S p V w) (hwp : ∀ T d, c.wp P Q a (World.tp V T d)) (ha : ASame C p a.tmps a'.tmps) (hd : a.defers = []) (hd' : a'.defers = [])
    (kN : ∀ q a₁ a₁' V' S' w', Q .normal a₁ V' → ASame C q a₁.tmps a₁'.tmps → a₁'.defers = [] → RLe p q → (∀ b, S b → S' b) → Vq C Rd0 S' q V' w' → GG P true RL (GL Rd0) Stop S' (G (b.at a₁' k) cs) w')
    (kR : ∀ q a₁ a₁' V' S' w' todo, Q .ret a₁ V' → ASame C q a₁.tmps a₁'.tmps → a₁'.defers = [] → RLe p q → (∀ b, S b → S' b) → Vq C Rd0 S' q V' w' → GG P true RL (GL Rd0) Stop S' (G { b.at a₁' todo with mode := .returning } cs) w') :
    GG P true RL (GL Rd0) Stop S (G (b.at a' (.code c :: k)) cs) w := by
  refine GG.of_RIQ (Rd := Rd0) (mirror (main := true) (kt := k) (ct := cs) hC hbf hbk hc hQ hwp ha hd hd' hV.rel) hV.lt hV.own ?_
  rintro q S' g w' ⟨e, a₁, w₁, a₁', hq, hs, hdf, hwr, h⟩ hle hK hS' hown hsm
  have hv : Vq C Rd0 S' q w₁ w' := ⟨hwr, fun x hx => hx.elim (fun h => Nat.lt_of_lt_of_le (hV.lt x (.inl h)) hK.size) (hS' x), hown⟩
  rcases h with ⟨rfl, rfl⟩ | ⟨rfl, todo, rfl⟩
  · exact kN q a₁ a₁' w₁ S' w' hq hs hdf hle hK.grow hv
  · exact kR q a₁ a₁' w₁ S' w' todo hq hs hdf hle hK.grow hv
/-- ████ The first pieces of a text beside leavers. ████ -/
theorem prefixL (hC : ListOk P C L) {R Q : Act → World → Prop} (hbf : FnRes P b.fn) (hbk : b.kind ≠ .early) : ∀ (n : Nat) {S : OwnB} {w V : World} {p : Ren} {c : Code} {a a' : Act}, pOk P L n c = true → pwp P R Q n c a V → Vq C Rd0 S p V w → ASame C p a.tmps a'.tmps → a.defers = [] → a'.defers = [] →
    (∀ q a₁ a₁' V' S' w', Q a₁ V' → ASame C q a₁.tmps a₁'.tmps → a₁'.defers = [] → RLe p q → (∀ b, S b → S' b) → Vq C Rd0 S' q V' w' → GG P true RL (GL Rd0) Stop S' (G (b.at a₁' (.code (dropC n c) :: k)) cs) w') →
    (∀ q a₁ a₁' V' S' w' todo, R a₁ V' → ASame C q a₁.tmps a₁'.tmps → a₁'.defers = [] → RLe p q → (∀ b, S b → S' b) → Vq C Rd0 S' q V' w' → GG P true RL (GL Rd0) Stop S' (G { b.at a₁' todo with mode := .returning } cs) w') →
    GG P true RL (GL Rd0) Stop S (G (b.at a' (.code c :: k)) cs) w
  | 0, S, w, V, p, c, a, a', _, h, hV, ha, hd, hd', kN, _ => kN p a a' V S w h ha hd' (.refl p) (fun _ h => h) hV
  | n + 1, S, w, V, p, c, a, a', ho, h, hV, ha, hd, hd', kN, kR => by
    cases c with
    | seq c1 c2 =>
      simp only [pOk, Bool.and_eq_true] at ho
      refine .ctl GL.idle RL.trans rfl (g' := G (b.at a' (.code c1 :: .code c2 :: k)) cs) (fun w => stepG_seq) ?_
      refine codeL hC hbf hbk ho.1 (fun e a w hq => ⟨?_, hq.1⟩) hV h ha hd hd' ?_ ?_
      · rcases hq.2 with ⟨e, _⟩ | ⟨e, _⟩
        · exact .inl e
        · exact .inr e
      · rintro q a₁ a₁' V' S' w' ⟨h1, ⟨_, h2⟩ | ⟨e, _⟩⟩ hs hdf hle hS hv
        · exact prefixL hC hbf hbk n ho.2 h2 hv hs h1 hdf (fun q' a₂ a₂' V₂ S₂ w₂ g1 g2 g3 g4 g5 g6 => kN q' a₂ a₂' V₂ S₂ w₂ g1 g2 g3 (hle.trans g4) (fun b hb => g5 b (hS b hb)) g6)
            (fun q' a₂ a₂' V₂ S₂ w₂ todo g1 g2 g3 g4 g5 g6 => kR q' a₂ a₂' V₂ S₂ w₂ todo g1 g2 g3 (hle.trans g4) (fun b hb => g5 b (hS b hb)) g6)
        · cases e
      · rintro q a₁ a₁' V' S' w' todo ⟨h1, ⟨e, _⟩ | ⟨_, h2⟩⟩ hs hdf hle hS hv
        · cases e
        · exact kR q a₁ a₁' V' S' w' todo h2 hs hdf hle hS hv
    | _ => simp [pOk] at ho
end
end Go.Proofs.Ytfecdmenliohhaa

set_option linter.unusedSimpArgs false
set_option linter.unusedVariables false
namespace Go.Proofs.Ytfecdmenliohhaa
open Go Go.Conc Go.RowKit

section
variable {P : Program} {C : Cx} {p : Ren} {V w w' : World}
/-- A true block is taken into the view. -/
theorem WRel.adoptP (h : WRel C p V w) {c : Nat} {o o' : Obj} (hc : w.heap[c]? = some o') (hn : ∀ b, p b ≠ some c) (hl : ¬ C.lock c) (ho : ORel C p o o') : WRel C (extQ p V.heap.size c) (V.alloc o) w := by
  have hs : (V.alloc o).heap = V.heap.push o := rfl
  have hle := extQ_le h c
  have old : ∀ b, b < V.heap.size → (V.alloc o).heap[b]? = V.heap[b]? := fun b hb => by rw [hs, Array.getElem?_push_lt hb, Array.getElem?_eq_getElem hb]
  have hx : ∀ b c', extQ p V.heap.size c b = some c' → (b = V.heap.size ∧ c' = c) ∨ (p b = some c' ∧ b < V.heap.size) := by
    intro b c' hb
    unfold extQ at hb
    split at hb
    · next e => cases hb; exact .inl ⟨e, rfl⟩
    · exact .inr ⟨hb, (h.lt hb).1⟩
  refine ⟨fun b b₁ c' h1 h2 => ?_, fun b c' hb => ?_, ?_, fun b c' hb hlk => ?_, h.lockT, fun b hb => ?_, fun b hb => ?_⟩
  · rcases hx _ _ h1 with ⟨rfl, rfl⟩ | ⟨g1, l1⟩
    · rcases hx _ _ h2 with ⟨rfl, _⟩ | ⟨g2, _⟩
      · exact .inl rfl
      · exact absurd g2 (hn _)
    · rcases hx _ _ h2 with ⟨rfl, rfl⟩ | ⟨g2, _⟩
      · exact absurd g1 (hn _)
      · exact h.inj _ _ _ g1 g2
  · rcases hx _ _ hb with ⟨rfl, rfl⟩ | ⟨g1, l1⟩
    · exact ⟨o, o', by rw [hs]; simp, hc, .full (h.shV _ (Nat.le_refl _)) (ho.mono hle)⟩
    · obtain ⟨x, x', h1, h2, h3⟩ := h.obj _ _ g1
      exact ⟨x, x', (old _ l1).trans h1, h2, h3.mono hle⟩
  · rw [hs, Array.size_push]; have := h.gV; omega
  · rcases hx _ _ hb with ⟨rfl, rfl⟩ | ⟨g1, l1⟩
    · exact absurd hlk hl
    · obtain ⟨cs, e, m, h1, h2⟩ := h.lockV _ _ g1 hlk
      exact ⟨cs, e, m, (old _ l1).trans h1, h2⟩
  · rw [hs, Array.size_push] at hb
    exact h.shV _ (by omega)
  · obtain ⟨h1, h2⟩ := h.deadV b hb
    have hlt : b < V.heap.size := (Array.getElem?_eq_some_iff.1 h2).1
    refine ⟨?_, (old _ hlt).trans h2⟩
    unfold extQ
    rw [if_neg (by omega)]
    exact h1
end
section
variable {w0 : World} {Rd0 : Nat → Prop} {S : OwnB} {Stop : OwnB → Goroutine → World → Prop} {w V : World} {C : Cx} {p : Ren}
/-- ████ A call beside leavers, in a view that stands. ████ -/
theorem callH {L : List FuncId} (H : ListOk Try.prog C L) {f : FuncId} {fn : Func} {c : Code} (hF : C.F f) {b : Frame} {a : Act} {k : List Item} {cs : List Frame} {ops : Array Oper} {ix : Nat} {rest : List Nat} {o : Oper} {args : Array Operand} {ats : Array TypeId}
    (ho : ops[ix]? = some o) (hw : Region.wanted o (yielded ops a.tmps) = true) (hk : b.kind ≠ .early) (hop : o.op = .call { callee := .value (.func f), args, argTypes := ats })
    (hf : Try.prog.funcs[f]? = some fn) (hname : (fn.name == "runtime.NumGoroutine") = false) (hb : fn.body = some c)
    (hlt : ∀ b, Rd0 b ∨ S b → b < w.heap.size) (hW : WRel C p V w) (hp : ∀ b c, p b = some c → (Rd0 c ∧ C.lock c) ∨ S c) {Rv : Value → World → Prop} {xv : Array Value}
    (hcl : ∀ T d, Calls Try.prog f xv (World.tp V T d) (fun | .returned v, w₁ => Rv v w₁ | _, _ => False))
    (ha : ASame C p xv (args.map a.eval))
    (kont : ∀ q v v' V' S' w', Rv v V' → VRel C q v v' → WRel C q V' w' → RLe p q → KL S S' w w' → (∀ b, S' b → b < w'.heap.size) → (∀ b c, q b = some c → (Rd0 c ∧ C.lock c) ∨ S' c) → GG Try.prog true RL (GL Rd0) Stop S' (G (b.at (a.put o.dst v') (.inRegion ops rest :: k)) cs) w') :
    GG Try.prog true RL (GL Rd0) Stop S (G (b.at a (.inRegion ops (ix :: rest) :: k)) cs) w := by
  refine .goes rfl fun w₁ h₁ => goes_call ho hw hk hop hf hname hb ⟨S, .idle S _, ?_⟩
  obtain ⟨d, rfl⟩ := h₁
  have hC : WRel C p V (w.at d) := hW.draws V.drawn d V.tape w.tape
  have hRI := mirrorC (main := true) (ct := b.at a (.inRegion ops (ix :: rest) :: k) :: cs) H hF hcl ha hC
  rw [show rec' (Frame.enter Try.prog f (args.map a.eval) .normal) (b.at a (.inRegion ops (ix :: rest) :: k) :: cs) = G ((base f).at { tmps := args.map a.eval ++ Array.replicate (fn.ntmps - (args.map a.eval).size) undef, defers := [] } [.code c]) (b.at a (.inRegion ops (ix :: rest) :: k) :: cs) by rw [enter_at _ hf hb]; rfl] at hRI
  refine GG.of_RIQ (Rd := Rd0) hRI (fun b hb => hlt b hb) hp ?_
  rintro q S' g w' ⟨v, v', wv', f', fn', hR, hv, hwr, rfl, h1, h2, h3, h4, h5⟩ hle hK hS' hq hsm
  refine .ctl GL.idle RL.trans rfl (g' := G (b.at (a.put o.dst v') (.inRegion ops rest :: k)) cs) (fun w₂ => ?_) (kont q v v' wv' S' w' hR hv hwr hle ((KL.at S w d).trans hK) hS' hq)
  have hfin : (b.at a (.inRegion ops (ix :: rest) :: k)).finish v' = b.at (a.put o.dst v') (.inRegion ops rest :: k) := by rw [Frame.finish_at, ho]; rfl
  have h6 : (results fn' f'.tmps).runT Try.prog w₂ #[] = (.ok v' w₂, #[]) := h5 w₂ #[]
  have := stepG_leaving (P := Try.prog) (main := true) (cs := cs) (c := b.at a (.inRegion ops (ix :: rest) :: k)) h1 h2 h3 h4 h6
  rw [hfin] at this
  exact this
end

/-- Since the entry: the old blocks stand, and nobody shuns them. -/
structure Sofar (W : World) (Shun : Loc → Prop) (w : World) : Prop where
  tape : w.tape = W.tape
  os : w.os = W.os
  output : w.output = W.output
  size : W.heap.size ≤ w.heap.size
  old : ∀ b, b < W.heap.size → w.heap[b]? = W.heap[b]? ∧ NoShun Shun b
section
variable {W w w' : World} {Shun Shun' : Loc → Prop} {S S' : OwnB} {n workers : Int} {xss : List (List Int)} {r : Value}
theorem Sofar.begin (W : World) : Sofar W (fun _ => False) W := ⟨rfl, rfl, rfl, Nat.le_refl _, fun b hb => ⟨rfl, fun _ _ h => h, fun h => h⟩⟩
theorem Sofar.fs (h : Sofar W Shun w) (d : FsDone n workers xss Shun Shun' w w' r) : Sofar W Shun' w' := by
  refine ⟨d.tape.trans h.tape, d.os.trans h.os, d.output.trans h.output, Nat.le_trans h.size d.size, fun b hb => ?_⟩
  have h1 := h.old b hb
  have h2 := d.old b (Nat.lt_of_lt_of_le hb h.size) h1.2
  exact ⟨h2.1.trans h1.1, h2.2⟩
theorem Sofar.kl (h : Sofar W Shun w) (k : KL (fun _ => False) S' w w') : Sofar W Shun w' := by
  refine ⟨k.tape.trans h.tape, k.os.trans h.os, k.output.trans h.output, Nat.le_trans h.size k.size, fun b hb => ⟨(k.other b (Nat.lt_of_lt_of_le hb h.size) id).trans (h.old b hb).1, (h.old b hb).2⟩⟩
theorem Sofar.below (h : Sofar W Shun w) : Below W.heap.size W w := ⟨h.os, h.tape, h.output, h.size, fun b hb => (h.old b hb).1⟩
end
/-- Since the entry, with blocks of its own. -/
theorem Sofar.kls {W w w' : World} {Shun : Loc → Prop} {S S' : OwnB} (h : Sofar W Shun w) (k : KL S S' w w') (hS : ∀ b, S b → W.heap.size ≤ b) : Sofar W Shun w' ∧ ∀ b, S' b → W.heap.size ≤ b := by
  refine ⟨⟨k.tape.trans h.tape, k.os.trans h.os, k.output.trans h.output, Nat.le_trans h.size k.size, fun b hb => ⟨(k.other b (Nat.lt_of_lt_of_le hb h.size) fun hs => ?_).trans (h.old b hb).1, (h.old b hb).2⟩⟩, fun b hb => ?_⟩
  · have := hS b hs; omega
  · rcases k.fresh b hb with h1 | h1
    · exact hS b h1
    · exact Nat.le_trans h.size h1.1
/-- What a goroutine that leavers stand beside may read. -/
abbrev RdN (Shun : Loc → Prop) (w : World) : Nat → Prop := fun c => c < w.heap.size ∧ NoShun Shun c

section
variable {C : Cx} {W : World} {S : OwnB} {p : Ren} {V w w' : World} {Shun Shun' : Loc → Prop} {n workers : Int} {xss : List (List Int)} {r : Value}
/-- Behind a walk, all that it knows is read anew. -/
theorem Vq.anew {Rd0 : Nat → Prop} (h : Vq C Rd0 S p V w) (hn : ∀ c, Rd0 c ∨ S c → c < w.heap.size ∧ NoShun Shun c) : Vq C (RdN Shun w) S p V w :=
  ⟨h.rel, fun b hb => hb.elim (fun h => h.1) fun hs => h.lt b (.inr hs), fun b c hb => (h.own b c hb).imp (fun x => ⟨hn c (.inl x.1), x.2⟩) id⟩
/-- Behind a call of ForestsShared that answers: the view stands, and the answer is taken into it. -/
theorem Vq.afterT (h : Vq C (RdN Shun w) S p V w) (hn : ∀ c, S c → c < w.heap.size ∧ NoShun Shun c) (hL : ∀ c, C.lock c → c < w.heap.size ∧ NoShun Shun c) (d : FsDone n workers xss Shun Shun' w w' r) (hok : fsOk n xss workers = true) :
    ∃ q V' S' a v, r = .tuple #[v, .bool true] ∧ RLe p q ∧ Low V V' ∧ (∀ b, S b → S' b) ∧ (∀ b, S' b → S b ∨ w.heap.size ≤ b) ∧ Vq C (RdN Shun' w') S' q V' w' ∧ (∀ c, S' c → c < w'.heap.size ∧ NoShun Shun' c) ∧ VRel C q (.slice a (fsN n xss).length xss.length) v ∧ Own (Value.int .i64) 2 V' V.heap.size a xss.length (fsN n xss) := by
  have hz := d.size
  have img : ∀ b c, p b = some c → c < w.heap.size ∧ NoShun Shun c := fun b c hb => (h.own b c hb).elim (fun x => x.1) fun hs => hn c hs
  have hrel : WRel C p V w' := h.rel.keep (fun b c hb => (d.old c (img b c hb).1 (img b c hb).2).1) hz
  have hS : ∀ c, S c → c < w'.heap.size ∧ NoShun Shun' c := fun c hc => ⟨Nat.lt_of_lt_of_le (hn c hc).1 hz, (d.old c (hn c hc).1 (hn c hc).2).2⟩
  have hown : ∀ b c, p b = some c → (RdN Shun' w' c ∧ C.lock c) ∨ S c := fun b c hb => (h.own b c hb).imp (fun x => ⟨⟨Nat.lt_of_lt_of_le x.1.1 hz, (d.old c x.1.1 x.1.2).2⟩, x.2⟩) id
  rcases d.res with ⟨h1, h2⟩ | ⟨h1, Cb, h2, h3, h4, h5, h6⟩
  · rw [hok] at h1; cases h1
  · have hCb : Cb < w'.heap.size := by
      by_cases hlt : Cb < w'.heap.size
      · exact hlt
      · rw [Array.getElem?_eq_none (by omega)] at h6
        cases h6
    have hnc : ∀ b, p b ≠ some Cb := fun b hb => by have := (img b Cb hb).1; omega
    have hlen : (fsN n xss).length = xss.length := by simp [fsN]
    have hA := hrel.adopt (o := .cells ((fsN n xss).map (Value.int .i64)).toArray 2 (0, 0)) h6 hnc (fun hl => by have := (hL Cb hl).1; omega) (fun q => orel_ints (q := q) (fsN n xss) 2)
    have hs : (V.alloc (.cells ((fsN n xss).map (Value.int .i64)).toArray 2 (0, 0))).heap = V.heap.push (.cells ((fsN n xss).map (Value.int .i64)).toArray 2 (0, 0)) := rfl
    have hle := extQ_le hrel Cb
    have hlow : Low V (V.alloc (.cells ((fsN n xss).map (Value.int .i64)).toArray 2 (0, 0))) := ⟨by rw [hs, Array.size_push]; omega, fun b hb => by rw [hs, Array.getElem?_push_lt hb, Array.getElem?_eq_getElem hb]⟩
    refine ⟨extQ p V.heap.size Cb, V.alloc (.cells ((fsN n xss).map (Value.int .i64)).toArray 2 (0, 0)), fun b => S b ∨ b = Cb, some ⟨V.heap.size, 0, none⟩, .slice (some ⟨Cb, 0, none⟩) xss.length xss.length, by rw [h4], hle, hlow, fun _ h => .inl h, fun b hb => hb.imp id fun e => by omega,
      ⟨hA, fun b hb => ?_, fun b c hb => ?_⟩, fun c hc => ?_, ?_⟩
    · rcases hb with hb | hb | rfl
      · exact hb.1
      · exact (hS b hb).1
      · exact hCb
    · unfold extQ at hb
      split at hb
      · cases hb; exact .inr (.inr rfl)
      · exact (hown b c hb).imp id .inl
    · rcases hc with hc | rfl
      · exact hS c hc
      · exact ⟨hCb, h3⟩
    · refine ⟨?_, ?_⟩
      · rw [hlen]
        refine .slice _ _ ⟨by simp [extQ], ?_, rfl, hrel.gV⟩
        show 0 = 0 + (C.sh V.heap.size).getD 0
        rw [hrel.shV _ (Nat.le_refl _)]; rfl
      · have h8 : xss.length ≤ 8 := by
          simp only [fsOk, Bool.and_eq_true, decide_eq_true_eq] at h1
          exact h1.1.1.2
        refine ⟨by simp, .inr ⟨V.heap.size, xss.length, ((fsN n xss).map (Value.int .i64)).toArray, rfl, Nat.le_refl _, by rw [hs]; simp, by omega, by simp only [maxLen]; omega, by simp [hlen], ?_⟩⟩
        rw [List.take_of_length_le (by simp)]
end

section
variable {C : Cx} {Rd0 : Nat → Prop} {S : OwnB} {p : Ren} {V w : World}
/-- A row made by the goroutine itself, taken into the view. -/
theorem Vq.row (h : Vq C Rd0 S p V w) {cs cs' : Array Value} (e : TypeId) (hc : ASame C p cs cs') :
    ∃ q, q V.heap.size = some w.heap.size ∧ RLe p q ∧ Vq C Rd0 (fun b => S b ∨ b = w.heap.size) q (V.alloc (.cells cs e (0, 0))) (w.alloc (.cells cs' e (0, 0))) := by
  have hw : WRel C (p.ext V.heap.size w.heap.size) (V.alloc (.cells cs e (0, 0))) (w.alloc (.cells cs' e (0, 0))) := h.rel.push (.cells hc fun i h1 h2 => by omega)
  refine ⟨p.ext V.heap.size w.heap.size, by simp [Ren.ext], h.rel.ext_le, hw, fun b hb => ?_, fun b c hb => ?_⟩
  · have hs : (w.alloc (.cells cs' e (0, 0))).heap.size = w.heap.size + 1 := Array.size_push _
    rw [hs]
    rcases hb with hb | hb | rfl
    · have := h.lt b (.inl hb); omega
    · have := h.lt b (.inr hb); omega
    · omega
  · unfold Ren.ext at hb
    split at hb
    · cases hb; exact .inr (.inr rfl)
    · exact (h.own b c hb).imp id .inl
end
end Go.Proofs.Ytfecdmenliohhaa
