/- A view that is kept over several calls: it grows with what they make; a true block is taken into it. The laws' helpers called beside leavers, in a view that stands. -/
import Derived.Test.YtfecdmenliohhaaQLe34
import Derived.Test.YtfecdmenliohhaaQLe15
set_option linter.unusedVariables false
set_option linter.unusedSimpArgs false
set_option linter.unusedSimpArgs false
set_option linter.unusedVariables false
namespace Go.Proofs.Ytfecdmenliohhaa
open Go Go.Conc Go.RowKit

section
variable {P : Program} {Rd : Nat → Prop} {C : Cx}
/-- The mirror's word; the renaming only grows. -/
theorem GG.of_RIQ {Stop0 : Ren → Goroutine → World → Prop} {Stop : OwnB → Goroutine → World → Prop} {p : Ren} {g : Goroutine} {w : World} (h : RI P C true Stop0 p g w) {S : OwnB}
    (hlt : ∀ b, Rd b ∨ S b → b < w.heap.size) (hp : ∀ b c, p b = some c → (Rd c ∧ C.lock c) ∨ S c)
    (k : ∀ q S' g w', Stop0 q g w' → RLe p q → KL S S' w w' → (∀ b, S' b → b < w'.heap.size) → (∀ b c, q b = some c → (Rd c ∧ C.lock c) ∨ S' c) → (∀ c, C.lock c → c < w.heap.size → w'.heap[c]? = w.heap[c]?) → GG P true RL (GL Rd) Stop S' g w') : GG P true RL (GL Rd) Stop S g w := by
  have h' : RI P C true (fun q g w' => Stop0 q g w' ∧ RLe p q) p g w := by
    have key : ∀ {q : Ren} {g : Goroutine} {w₁ : World}, RI P C true Stop0 q g w₁ → RLe p q → RI P C true (fun q g w' => Stop0 q g w' ∧ RLe p q) q g w₁ := by
      intro q g w₁ h
      induction h with
      | stop hs => exact fun hle => .stop fun w₁ h₁ => ⟨hs w₁ h₁, hle⟩
      | step nx hrun hstep _ ih =>
        intro hle
        refine .step nx hrun hstep fun w₁ h₁ => ih w₁ h₁ ?_
        obtain ⟨es, _, hl2, _⟩ := hstep w₁ h₁
        exact fun b c hb => hl2 b c (hle b c hb)
    exact key h (RLe.refl p)
  exact GG.of_RIL h' hlt hp fun q S' g w' hs hK hS' hq hsm => k q S' g w' hs.1 hs.2 hK hS' hq hsm
end

section
variable {C : Cx} {p : Ren} {V w w' : World}
/-- The truth turns elsewhere. -/
theorem WRel.keep (h : WRel C p V w) (hs : ∀ b c, p b = some c → w'.heap[c]? = w.heap[c]?) (hz : w.heap.size ≤ w'.heap.size) : WRel C p V w' :=
  ⟨h.inj, fun b c hb => let ⟨o, o', h1, h2, h3⟩ := h.obj b c hb; ⟨o, o', h1, (hs b c hb).trans h2, h3⟩, h.gV, h.lockV, fun c hc => Nat.lt_of_lt_of_le (h.lockT c hc) hz, h.shV, h.deadV⟩
def extQ (p : Ren) (n c : Nat) : Ren := fun b => if b = n then some c else p b
theorem extQ_le (h : WRel C p V w) (c : Nat) : RLe p (extQ p V.heap.size c) := by
  intro b c' hb
  have := (h.lt hb).1
  unfold extQ
  rw [if_neg (by omega)]
  exact hb
/-- A true block is taken into the view. -/
theorem WRel.adopt (h : WRel C p V w) {c : Nat} {o o' : Obj} (hc : w.heap[c]? = some o') (hn : ∀ b, p b ≠ some c) (hl : ¬ C.lock c) (ho : ∀ q, ORel C q o o') : WRel C (extQ p V.heap.size c) (V.alloc o) w := by
  have hs : (V.alloc o).heap = V.heap.push o := rfl
  have hle := extQ_le h c
  have old : ∀ b, b < V.heap.size → (V.alloc o).heap[b]? = V.heap[b]? := fun b hb => by rw [hs, Array.getElem?_push_lt hb, Array.getElem?_eq_getElem hb]
  have hx : ∀ b c', extQ p V.heap.size c b = some c' → (b = V.heap.size ∧ c' = c) ∨ (p b = some c' ∧ b < V.heap.size) := by
    intro b c' hb
    unfold extQ at hb
    split at hb
    · next e => cases hb; exact .inl ⟨e, rfl⟩
    · exact .inr ⟨hb, (h.lt hb).1⟩
  refine ⟨fun b b₁ c' h1 h2 => ?_, fun b c' hb => ?_, ?_, fun b c' hb hlk => ?_, h.lockT, fun b hb => ?_, fun b hb => ?_⟩
  · rcases hx _ _ h1 with ⟨rfl, rfl⟩ | ⟨g1, l1⟩
    · rcases hx _ _ h2 with ⟨rfl, _⟩ | ⟨g2, _⟩
      · exact .inl rfl
      · exact absurd g2 (hn _)
    · rcases hx _ _ h2 with ⟨rfl, rfl⟩ | ⟨g2, _⟩
      · exact absurd g1 (hn _)
      · exact h.inj _ _ _ g1 g2
  · rcases hx _ _ hb with ⟨rfl, rfl⟩ | ⟨g1, l1⟩
    · exact ⟨o, o', by rw [hs]; simp, hc, .full (h.shV _ (Nat.le_refl _)) (ho _)⟩
    · obtain ⟨x, x', h1, h2, h3⟩ := h.obj _ _ g1
      exact ⟨x, x', (old _ l1).trans h1, h2, h3.mono hle⟩
  · rw [hs, Array.size_push]; have := h.gV; omega
  · rcases hx _ _ hb with ⟨rfl, rfl⟩ | ⟨g1, l1⟩
    · exact absurd hlk hl
    · obtain ⟨cs, e, m, h1, h2⟩ := h.lockV _ _ g1 hlk
      exact ⟨cs, e, m, (old _ l1).trans h1, h2⟩
  · rw [hs, Array.size_push] at hb
    exact h.shV _ (by omega)
  · obtain ⟨h1, h2⟩ := h.deadV b hb
    have hlt : b < V.heap.size := (Array.getElem?_eq_some_iff.1 h2).1
    refine ⟨?_, (old _ hlt).trans h2⟩
    unfold extQ
    rw [if_neg (by omega)]
    exact h1
/-- Numbers are alike everywhere. -/
theorem orel_ints {q : Ren} (xs : List Int) (e : TypeId) : ORel C q (.cells (xs.map (Value.int .i64)).toArray e (0, 0)) (.cells (xs.map (Value.int .i64)).toArray e (0, 0)) := by
  refine .cells ⟨rfl, fun i v v' h1 h2 => ?_⟩ fun i h1 h2 => ⟨h1, h2⟩
  rw [h1] at h2
  cases h2
  simp only [List.getElem?_toArray, List.getElem?_map, Option.map_eq_some_iff] at h1
  obtain ⟨x, _, rfl⟩ := h1
  exact .int _ _
end

section
variable {w0 : World} {Rd0 : Nat → Prop} {S : OwnB} {Stop : OwnB → Goroutine → World → Prop} {w V : World} {C : Cx} {p : Ren}
/-- ████ A call beside leavers, in a view that stands. ████ -/
theorem callQ (H : ListOk Try.prog C LF) {f : FuncId} {fn : Func} {c : Code} (hF : C.F f) {b : Frame} {a : Act} {k : List Item} {cs : List Frame} {ops : Array Oper} {ix : Nat} {rest : List Nat} {o : Oper} {args : Array Operand} {ats : Array TypeId}
    (ho : ops[ix]? = some o) (hw : Region.wanted o (yielded ops a.tmps) = true) (hk : b.kind ≠ .early) (hop : o.op = .call { callee := .value (.func f), args, argTypes := ats })
    (hf : Try.prog.funcs[f]? = some fn) (hname : (fn.name == "runtime.NumGoroutine") = false) (hb : fn.body = some c)
    (hlt : ∀ b, Rd0 b ∨ S b → b < w.heap.size) (hW : WRel C p V w) (hp : ∀ b c, p b = some c → (Rd0 c ∧ C.lock c) ∨ S c) {Rv : Value → World → Prop} {xv : Array Value}
    (hcl : ∀ T d, Calls Try.prog f xv (World.tp V T d) (fun | .returned v, w₁ => Rv v w₁ | _, _ => False))
    (ha : ASame C p xv (args.map a.eval))
    (kont : ∀ q v v' V' S' w', Rv v V' → VRel C q v v' → WRel C q V' w' → RLe p q → KL S S' w w' → (∀ b, S' b → b < w'.heap.size) → (∀ b c, q b = some c → (Rd0 c ∧ C.lock c) ∨ S' c) → GG Try.prog true RL (GL Rd0) Stop S' (G (b.at (a.put o.dst v') (.inRegion ops rest :: k)) cs) w') :
    GG Try.prog true RL (GL Rd0) Stop S (G (b.at a (.inRegion ops (ix :: rest) :: k)) cs) w := by
  refine .goes rfl fun w₁ h₁ => goes_call ho hw hk hop hf hname hb ⟨S, .idle S _, ?_⟩
  obtain ⟨d, rfl⟩ := h₁
  have hC : WRel C p V (w.at d) := hW.draws V.drawn d V.tape w.tape
  have hRI := mirrorC (main := true) (ct := b.at a (.inRegion ops (ix :: rest) :: k) :: cs) H hF hcl ha hC
  rw [show rec' (Frame.enter Try.prog f (args.map a.eval) .normal) (b.at a (.inRegion ops (ix :: rest) :: k) :: cs) = G ((base f).at { tmps := args.map a.eval ++ Array.replicate (fn.ntmps - (args.map a.eval).size) undef, defers := [] } [.code c]) (b.at a (.inRegion ops (ix :: rest) :: k) :: cs) by rw [enter_at _ hf hb]; rfl] at hRI
  refine GG.of_RIQ (Rd := Rd0) hRI (fun b hb => hlt b hb) hp ?_
  rintro q S' g w' ⟨v, v', wv', f', fn', hR, hv, hwr, rfl, h1, h2, h3, h4, h5⟩ hle hK hS' hq hsm
  refine .ctl GL.idle RL.trans rfl (g' := G (b.at (a.put o.dst v') (.inRegion ops rest :: k)) cs) (fun w₂ => ?_) (kont q v v' wv' S' w' hR hv hwr hle ((KL.at S w d).trans hK) hS' hq)
  have hfin : (b.at a (.inRegion ops (ix :: rest) :: k)).finish v' = b.at (a.put o.dst v') (.inRegion ops rest :: k) := by rw [Frame.finish_at, ho]; rfl
  have h6 : (results fn' f'.tmps).runT Try.prog w₂ #[] = (.ok v' w₂, #[]) := h5 w₂ #[]
  have := stepG_leaving (P := Try.prog) (main := true) (cs := cs) (c := b.at a (.inRegion ops (ix :: rest) :: k)) h1 h2 h3 h4 h6
  rw [hfin] at this
  exact this
end

/-- A list of lists of the view: what it is in truth. -/
theorem rd2_true {C : Cx} {q : Ren} {w₁ w' : World} {a : Option Addr} {c : Nat} {hs : List Hd} {xss : List (List Int)} {v' : Value} (h : Rd2 (Value.int .i64) w₁ a c hs xss) (hv : VRel C q (.slice a xss.length c) v') (hw : WRel C q w₁ w') :
    ∃ a' hs', v' = .slice a' xss.length c ∧ Rd2 (Value.int .i64) w' a' c hs' xss ∧ ∀ b, inL a' hs' xss [] b → ∃ b0, q b0 = some b := by
  have hlen := h.len
  -- the rows
  have rows : ∀ (a' : Option Addr), (xss ≠ [] → ∀ k, k < xss.length → ∃ v', w'.cell? (elt a' k) = some v' ∧ VRel C q (hdV (hs[k]?.getD default)) v') →
      ∃ hs' : List Hd, hs'.length = xss.length ∧ (∀ k, k < hs'.length → w'.cell? (elt a' k) = some (hdV (hs'[k]?.getD default))) ∧ (∀ k, k < xss.length → ∃ (hd : Hd) (xs : List Int), hs'[k]? = some hd ∧ xss[k]? = some xs ∧ hd.2.1 = xs.length ∧ Rd (Value.int .i64) w' hd.1 hd.2.2 xs) ∧
        ∀ (k : Nat) (hd : Hd) (xs : List Int) (ad : Addr), hs'[k]? = some hd → xss[k]? = some xs → hd.1 = some ad → xs ≠ [] → ∃ b0, q b0 = some ad.block := by
    intro a' hcell
    have one : ∀ k : Nat, ∃ hd : Hd, k < xss.length → w'.cell? (elt a' k) = some (hdV hd) ∧ ∃ xs, xss[k]? = some xs ∧ hd.2.1 = xs.length ∧ Rd (Value.int .i64) w' hd.1 hd.2.2 xs ∧ ∀ ad, hd.1 = some ad → xs ≠ [] → ∃ b0, q b0 = some ad.block := by
      intro k
      by_cases hk : k < xss.length
      · obtain ⟨hd, xs, h1, h2, h3, h4⟩ := h.row k hk
        obtain ⟨v', g1, g2⟩ := hcell (fun e => by rw [e] at hk; simp at hk) k hk
        rw [h1, Option.getD_some, hdV, h3] at g2
        obtain ⟨a2, rfl, g3, g4⟩ := rd_true h4 g2 hw
        refine ⟨(a2, xs.length, hd.2.2), fun _ => ⟨g1, xs, h2, rfl, g3, fun ad e hne => ?_⟩⟩
        obtain ⟨b, ad', e', hb⟩ := g4 hne
        simp only at e
        rw [e] at e'
        cases e'
        exact ⟨b, hb⟩
      · exact ⟨default, fun hk' => absurd hk' hk⟩
    obtain ⟨g, hg⟩ := Classical.axiomOfChoice one
    have at' : ∀ k, k < xss.length → ((List.range xss.length).map g)[k]? = some (g k) := fun k hk => by simp [hk]
    refine ⟨(List.range xss.length).map g, by simp, fun k hk => ?_, fun k hk => ?_, fun k hd xs ad h1 h2 h3 h4 => ?_⟩
    · have hk' : k < xss.length := by simpa using hk
      rw [at' k hk', Option.getD_some]
      exact (hg k hk').1
    · obtain ⟨_, xs, h2, h3, h4, _⟩ := hg k hk
      exact ⟨g k, xs, at' k hk, h2, h3, h4⟩
    · have hk : k < xss.length := (List.getElem?_eq_some_iff.1 h2).1
      rw [at' k hk] at h1
      cases h1
      obtain ⟨_, xs', g2, _, _, g5⟩ := hg k hk
      rw [h2] at g2
      cases g2
      exact g5 ad h3 h4
  have img : ∀ (a' : Option Addr) (hs' : List Hd), (xss ≠ [] → ∀ ad, a' = some ad → ∃ b0, q b0 = some ad.block) → hs'.length = xss.length → (∀ (k : Nat) (hd : Hd) (xs : List Int) (ad : Addr), hs'[k]? = some hd → xss[k]? = some xs → hd.1 = some ad → xs ≠ [] → ∃ b0, q b0 = some ad.block) → ∀ b, inL a' hs' xss [] b → ∃ b0, q b0 = some b := by
    rintro a' hs' htop hl hrow b (⟨ad, h1, h2, h3⟩ | ⟨k, hd, xs, ad, h1, h2, h3, h4, h5⟩ | ⟨y, hy, _⟩)
    · subst h2
      exact htop (fun e => by rw [e] at hl; exact h3 (List.length_eq_zero_iff.1 hl)) ad h1
    · subst h4
      exact hrow k hd xs ad h1 h2 h3 h5
    · simp at hy
  generalize hsl : Value.slice a xss.length c = s at hv
  cases hv with
  | slice0 =>
    simp only [Value.slice.injEq] at hsl
    obtain ⟨rfl, hl, rfl⟩ := hsl
    have hx : xss = [] := List.length_eq_zero_iff.1 hl
    subst hx
    exact ⟨none, [], rfl, ⟨⟨Nat.le_refl _, by simp, fun _ => rfl, (fun h => by simp at h), (fun k hk => by simp at hk)⟩, rfl, fun i hi => by simp at hi⟩, fun b hb => (inL_nil b hb).elim⟩
  | @slice x x' l c' ha =>
    simp only [Value.slice.injEq] at hsl
    obtain ⟨rfl, rfl, rfl⟩ := hsl
    by_cases hx : xss = []
    · subst hx
      refine ⟨some x', [], rfl, ⟨⟨by simp, by have := h.top.max; simpa [hlen] using this, (fun e => by cases e), (fun h => by simp at h), (fun k hk => by simp at hk)⟩, rfl, fun i hi => by simp at hi⟩, img _ _ (fun hne => absurd rfl hne) rfl (fun k hd xs ad h1 => by simp at h1)⟩
    · have hpos : 0 < xss.length := by cases xss with | nil => exact absurd rfl hx | cons _ _ => simp
      obtain ⟨b, o, e, hlt⟩ := h.top.here (by omega)
      cases e
      obtain ⟨b', o', s'⟩ := x'
      have hs0 : s' = none := ha.s
      subst hs0
      have hb : q b = some b' := ha.b
      obtain ⟨hs', g1, g2, g3, g4⟩ := rows (some ⟨b', o', none⟩) (fun _ k hk => by
        have hc := h.top.cell k (by omega)
        rw [elt_some] at hc ⊢
        exact hw.cell (a := ⟨b, o + k, none⟩) (a' := ⟨b', o' + k, none⟩) ⟨hb, by have := ha.o; simp only at this ⊢; omega, rfl, ha.g⟩ hc)
      refine ⟨_, hs', rfl, ⟨⟨by rw [g1, ← hlen]; exact h.top.cap, h.top.max, (fun e => by cases e), fun _ => ⟨b', o', rfl, (hw.lt hb).2⟩, g2⟩, g1, g3⟩, img _ _ (fun _ ad e => by cases e; exact ⟨b, hb⟩) g1 g4⟩
  | sliceE c' hd =>
    simp only [Value.slice.injEq] at hsl
    obtain ⟨rfl, hl, rfl⟩ := hsl
    have hx : xss = [] := List.length_eq_zero_iff.1 hl
    subst hx
    refine ⟨_, [], rfl, ⟨⟨by simp, by have := h.top.max; simpa [hlen] using this, (fun e => by cases e), (fun h => by simp at h), (fun k hk => by simp at hk)⟩, rfl, fun i hi => by simp at hi⟩, img _ _ (fun hne => absurd rfl hne) rfl (fun k hd xs ad h1 => by simp at h1)⟩
  | _ => cases hsl
end Go.Proofs.Ytfecdmenliohhaa

set_option linter.unusedSimpArgs false
set_option linter.unusedVariables false
namespace Go.Proofs.Ytfecdmenliohhaa
open Go Go.Conc Go.RowKit

/-- The view has only grown. -/
def Low (V V' : World) : Prop := V.heap.size ≤ V'.heap.size ∧ ∀ b, b < V.heap.size → V'.heap[b]? = V.heap[b]?
theorem Low.refl (V : World) : Low V V := ⟨Nat.le_refl _, fun _ _ => rfl⟩
theorem Low.trans {a b c : World} (h : Low a b) (k : Low b c) : Low a c := ⟨Nat.le_trans h.1 k.1, fun x hx => (k.2 x (Nat.lt_of_lt_of_le hx h.1)).trans (h.2 x hx)⟩
theorem Low.tp (V : World) (T : Nat → Question → Nat) (d : Nat) : Low V (World.tp V T d) := ⟨Nat.le_refl _, fun _ _ => rfl⟩
theorem Low.of_below {V V' : World} {T : Nat → Question → Nat} {d : Nat} (h : Below (World.tp V T d).heap.size (World.tp V T d) V') : Low V V' := ⟨h.size, h.block⟩
theorem Low.rd {V V' : World} {a : Option Addr} {c : Nat} {xs : List Int} (h : Low V V') (k : Rd (Value.int .i64) V a c xs) : Rd (Value.int .i64) V' a c xs := rd_old k h.1 h.2
theorem Low.rd2 {V V' : World} {a : Option Addr} {c : Nat} {hs : List Hd} {xss : List (List Int)} (h : Low V V') (k : Rd2 (Value.int .i64) V a c hs xss) : Rd2 (Value.int .i64) V' a c hs xss := rd2_old k h.1 h.2
theorem Low.own {V V' : World} {base : Nat} {a : Option Addr} {c : Nat} {xs : List Int} (h : Low V V') (k : Own (Value.int .i64) 2 V base a c xs) : Own (Value.int .i64) 2 V' base a c xs := k.heap fun p hp => h.2 _ (k.blk p hp).2
theorem Low.own2 {V V' : World} {base : Nat} {a : Option Addr} {c : Nat} {hs : List Hd} {xss : List (List Int)} (h : Low V V') (k : Own2 (Value.int .i64) 2 25 V base a c hs xss) : Own2 (Value.int .i64) 2 25 V' base a c hs xss :=
  ⟨k.top.heap fun p hp => h.2 _ (k.top.blk p hp).2, k.len, fun i hi => let ⟨hd, xs, h1, h2, h3, h4, h5⟩ := k.row i hi; ⟨hd, xs, h1, h2, h3, h.own h4, h5⟩, k.apart⟩
/-- All but these blocks of the view stand. -/
def LowB (lo hi : Nat) (V V' : World) : Prop := V.heap.size ≤ V'.heap.size ∧ ∀ b, b < V.heap.size → (b < lo ∨ hi ≤ b) → V'.heap[b]? = V.heap[b]?

/-- The view stands beside the truth; what goroutine 0 may read and what it owns. -/
structure Vq (C : Cx) (Rd0 : Nat → Prop) (S : OwnB) (p : Ren) (V w : World) : Prop where
  rel : WRel C p V w
  lt : ∀ b, Rd0 b ∨ S b → b < w.heap.size
  own : ∀ b c, p b = some c → (Rd0 c ∧ C.lock c) ∨ S c
theorem Vq.at {C : Cx} {Rd0 : Nat → Prop} {S : OwnB} {p : Ren} {V w : World} (h : Vq C Rd0 S p V w) (d : Nat) : Vq C Rd0 S p V (w.at d) := ⟨h.rel.draws V.drawn d V.tape w.tape, h.lt, h.own⟩

/-- The view's rules: whose functions, which list. -/
structure Cq (C : Cx) : Prop where
  list : ListOk Try.prog C LF
  fns : ∀ f, LF.contains f = true → C.F f

theorem nmSz : (Try.f19.name == "runtime.NumGoroutine") = false := by kernel_rfl
theorem nmTo : (Try.f20.name == "runtime.NumGoroutine") = false := by kernel_rfl
theorem nmEq : (Try.f21.name == "runtime.NumGoroutine") = false := by kernel_rfl
theorem nmEqq : (Try.f22.name == "runtime.NumGoroutine") = false := by kernel_rfl
theorem nmMkk : (Try.f23.name == "runtime.NumGoroutine") = false := by kernel_rfl
theorem nmMk : (Try.f24.name == "runtime.NumGoroutine") = false := by kernel_rfl
theorem nmHl : (Try.f25.name == "runtime.NumGoroutine") = false := by kernel_rfl

section
variable {Rd0 : Nat → Prop} {S : OwnB} {Stop : OwnB → Goroutine → World → Prop} {w V : World} {C : Cx} {p : Ren} {b : Frame} {a : Act} {k : List Item} {cs : List Frame} {ops : Array Oper} {ix : Nat} {rest : List Nat} {o : Oper} {args : Array Operand} {ats : Array TypeId} {v1 v2 v3 : Value} {a1 a2 : Option Addr} {c1 c2 : Nat} {hs hs2 : List Hd} {xss : List (List Int)} {xs : List Int}

theorem qSz (hC : Cq C) (ho : ops[ix]? = some o) (hw : Region.wanted o (yielded ops a.tmps) = true) (hk : b.kind ≠ .early) (hop : o.op = .call { callee := .value (.func 19), args, argTypes := ats }) (hargs : args.map a.eval = #[v1, .int .i64 1048576])
    (hV : Vq C Rd0 S p V w) (h1 : VRel C p (.slice a1 xss.length c1) v1) (hr : Rd2 (Value.int .i64) V a1 c1 hs xss)
    (kont : ∀ q V' S' w' r, (r = -1 ∨ (size2 xss ≤ 1048576 ∧ 0 ≤ r)) → RLe p q → (∀ b, S b → S' b) → Low V V' → Vq C Rd0 S' q V' w' → GG Try.prog true RL (GL Rd0) Stop S' (G (b.at (a.put o.dst (.int .i64 r)) (.inRegion ops rest :: k)) cs) w') :
    GG Try.prog true RL (GL Rd0) Stop S (G (b.at a (.inRegion ops (ix :: rest) :: k)) cs) w := by
  refine callQ (xv := #[.slice a1 xss.length c1, .int .i64 1048576]) (Rv := fun v V' => (∃ r : Int, v = .int .i64 r ∧ (r = -1 ∨ (size2 xss ≤ 1048576 ∧ 0 ≤ r))) ∧ Low V V') hC.list (hC.fns _ (by decide)) ho hw hk hop Try.func19 nmSz rfl hV.lt hV.rel hV.own (fun T d => (szII_any ((Low.tp V T d).rd2 hr)).mono ?_) (asame_two hargs h1 (.int _ _)) ?_
  · rintro e w₁ ⟨he, rfl⟩
    rcases he with rfl | ⟨hn, r, hr0, rfl⟩
    · exact ⟨⟨-1, rfl, .inl rfl⟩, .tp V T d⟩
    · exact ⟨⟨r, rfl, .inr ⟨hn, hr0⟩⟩, .tp V T d⟩
  · rintro q v v' V' S' w' ⟨⟨r, rfl, hr⟩, hl⟩ hv hwr hle hK hS' hq
    cases hv
    exact kont q V' S' w' r hr hle hK.grow hl ⟨hwr, fun x hx => hx.elim (fun h => Nat.lt_of_lt_of_le (hV.lt x (.inl h)) hK.size) (hS' x), hq⟩

theorem qTo (hC : Cq C) (ho : ops[ix]? = some o) (hw : Region.wanted o (yielded ops a.tmps) = true) (hk : b.kind ≠ .early) (hop : o.op = .call { callee := .value (.func 20), args, argTypes := ats }) (hargs : args.map a.eval = #[v1])
    (hV : Vq C Rd0 S p V w) (h1 : VRel C p (.slice a1 xss.length c1) v1) (hr : Rd2 (Value.int .i64) V a1 c1 hs xss) (hn : size2 xss ≤ 1048576)
    (kont : ∀ q V' S' w' a' c' hs' v', RLe p q → (∀ b, S b → S' b) → Low V V' → Vq C Rd0 S' q V' w' → Own2 (Value.int .i64) 2 25 V' V.heap.size a' c' hs' xss → VRel C q (.slice a' xss.length c') v' → GG Try.prog true RL (GL Rd0) Stop S' (G (b.at (a.put o.dst v') (.inRegion ops rest :: k)) cs) w') :
    GG Try.prog true RL (GL Rd0) Stop S (G (b.at a (.inRegion ops (ix :: rest) :: k)) cs) w := by
  refine callQ (xv := #[.slice a1 xss.length c1]) (Rv := fun v V' => (∃ a' c' hs', v = .slice a' xss.length c' ∧ Own2 (Value.int .i64) 2 25 V' V.heap.size a' c' hs' xss) ∧ Low V V') hC.list (hC.fns _ (by decide)) ho hw hk hop Try.func20 nmTo rfl hV.lt hV.rel hV.own (fun T d => (toII_any ((Low.tp V T d).rd2 hr) hn).mono ?_) (by rw [hargs]; exact .one h1) ?_
  · rintro e w₁ ⟨a', c', hs', rfl, ho, hb⟩
    exact ⟨⟨a', c', hs', rfl, ho⟩, .of_below hb⟩
  · rintro q v v' V' S' w' ⟨⟨a', c', hs', rfl, ho⟩, hl⟩ hv hwr hle hK hS' hq
    exact kont q V' S' w' a' c' hs' v' hle hK.grow hl ⟨hwr, fun x hx => hx.elim (fun h => Nat.lt_of_lt_of_le (hV.lt x (.inl h)) hK.size) (hS' x), hq⟩ ho hv

theorem qSpec {n workers : Int} (hC : Cq C) (ho : ops[ix]? = some o) (hw : Region.wanted o (yielded ops a.tmps) = true) (hk : b.kind ≠ .early) (hop : o.op = .call { callee := .value (.func 17), args, argTypes := ats }) (hargs : args.map a.eval = #[.int .i64 n, v1, .int .i64 workers])
    (hV : Vq C Rd0 S p V w) (h1 : VRel C p (.slice a1 xss.length c1) v1) (hr : Rd2 (Value.int .i64) V a1 c1 hs xss)
    (kont : ∀ q V' S' w' a' c' v', RLe p q → (∀ b, S b → S' b) → Low V V' → Vq C Rd0 S' q V' w' → Own (Value.int .i64) 2 V' V.heap.size a' c' (if fsOk n xss workers then fsN n xss else []) → VRel C q (.slice a' (if fsOk n xss workers then fsN n xss else []).length c') v' → GG Try.prog true RL (GL Rd0) Stop S' (G (b.at (a.put o.dst (.tuple #[v', .bool (fsOk n xss workers)])) (.inRegion ops rest :: k)) cs) w') :
    GG Try.prog true RL (GL Rd0) Stop S (G (b.at a (.inRegion ops (ix :: rest) :: k)) cs) w := by
  obtain ⟨R, hR⟩ : ∃ R, R = (if fsOk n xss workers then fsN n xss else []) := ⟨_, rfl⟩
  rw [← hR] at kont
  refine callQ (xv := #[.int .i64 n, .slice a1 xss.length c1, .int .i64 workers]) (Rv := fun v V' => (∃ a' c', v = .tuple #[.slice a' R.length c', .bool (fsOk n xss workers)] ∧ Own (Value.int .i64) 2 V' V.heap.size a' c' R) ∧ Low V V') hC.list (hC.fns _ (by decide)) ho hw hk hop Try.func17 nmSp rfl hV.lt hV.rel hV.own (fun T d => (specFS_any (n := n) (workers := workers) ((Low.tp V T d).rd2 hr)).mono ?_) (asame_three hargs (.int _ _) h1 (.int _ _)) ?_
  · rintro e w₁ ⟨a', c', rfl, ho, hb⟩
    rw [← hR] at ho ⊢
    exact ⟨⟨a', c', rfl, ho⟩, .of_below hb⟩
  · rintro q v v' V' S' w' ⟨⟨a', c', rfl, ho⟩, hl⟩ hv hwr hle hK hS' hq
    cases hv with
    | @tuple _ x' hsz hat =>
      obtain ⟨y0, y1, rfl⟩ : ∃ y0 y1, x' = #[y0, y1] := by
        obtain ⟨l⟩ := x'
        match l, hsz with
        | [y0, y1], _ => exact ⟨y0, y1, rfl⟩
      have e0 := hat 0 _ y0 rfl rfl
      have e1 := hat 1 _ y1 rfl rfl
      cases e1
      exact kont q V' S' w' a' c' y0 hle hK.grow hl ⟨hwr, fun x hx => hx.elim (fun h => Nat.lt_of_lt_of_le (hV.lt x (.inl h)) hK.size) (hS' x), hq⟩ ho e0

theorem qEq (hC : Cq C) (ho : ops[ix]? = some o) (hw : Region.wanted o (yielded ops a.tmps) = true) (hk : b.kind ≠ .early) (hop : o.op = .call { callee := .value (.func 21), args, argTypes := ats }) (hargs : args.map a.eval = #[v1, v2])
    (hV : Vq C Rd0 S p V w) (h1 : VRel C p (.slice a1 xs.length c1) v1) (h2 : VRel C p (.slice a2 xs.length c2) v2) (hr1 : Rd (Value.int .i64) V a1 c1 xs) (hr2 : Rd (Value.int .i64) V a2 c2 xs)
    (kont : ∀ q V' S' w', RLe p q → (∀ b, S b → S' b) → Low V V' → Vq C Rd0 S' q V' w' → GG Try.prog true RL (GL Rd0) Stop S' (G (b.at (a.put o.dst (.bool true)) (.inRegion ops rest :: k)) cs) w') :
    GG Try.prog true RL (GL Rd0) Stop S (G (b.at a (.inRegion ops (ix :: rest) :: k)) cs) w := by
  refine callQ (xv := #[.slice a1 xs.length c1, .slice a2 xs.length c2]) (Rv := fun v V' => v = .bool true ∧ Low V V') hC.list (hC.fns _ (by decide)) ho hw hk hop Try.func21 nmEq rfl hV.lt hV.rel hV.own (fun T d => (eqI_any ((Low.tp V T d).rd hr1) ((Low.tp V T d).rd hr2)).mono ?_) (asame_two hargs h1 h2) ?_
  · rintro e w₁ ⟨rfl, hb⟩
    exact ⟨by simp, .of_below hb⟩
  · rintro q v v' V' S' w' ⟨rfl, hl⟩ hv hwr hle hK hS' hq
    cases hv
    exact kont q V' S' w' hle hK.grow hl ⟨hwr, fun x hx => hx.elim (fun h => Nat.lt_of_lt_of_le (hV.lt x (.inl h)) hK.size) (hS' x), hq⟩

theorem qEqq (hC : Cq C) (ho : ops[ix]? = some o) (hw : Region.wanted o (yielded ops a.tmps) = true) (hk : b.kind ≠ .early) (hop : o.op = .call { callee := .value (.func 22), args, argTypes := ats }) (hargs : args.map a.eval = #[v1, v2])
    (hV : Vq C Rd0 S p V w) (h1 : VRel C p (.slice a1 xss.length c1) v1) (h2 : VRel C p (.slice a2 xss.length c2) v2) (hr1 : Rd2 (Value.int .i64) V a1 c1 hs xss) (hr2 : Rd2 (Value.int .i64) V a2 c2 hs2 xss)
    (kont : ∀ q V' S' w', RLe p q → (∀ b, S b → S' b) → Low V V' → Vq C Rd0 S' q V' w' → GG Try.prog true RL (GL Rd0) Stop S' (G (b.at (a.put o.dst (.bool true)) (.inRegion ops rest :: k)) cs) w') :
    GG Try.prog true RL (GL Rd0) Stop S (G (b.at a (.inRegion ops (ix :: rest) :: k)) cs) w := by
  refine callQ (xv := #[.slice a1 xss.length c1, .slice a2 xss.length c2]) (Rv := fun v V' => v = .bool true ∧ Low V V') hC.list (hC.fns _ (by decide)) ho hw hk hop Try.func22 nmEqq rfl hV.lt hV.rel hV.own (fun T d => (eqII_same ((Low.tp V T d).rd2 hr1) ((Low.tp V T d).rd2 hr2)).mono ?_) (asame_two hargs h1 h2) ?_
  · rintro e w₁ ⟨rfl, hb⟩
    exact ⟨rfl, .of_below hb⟩
  · rintro q v v' V' S' w' ⟨rfl, hl⟩ hv hwr hle hK hS' hq
    cases hv
    exact kont q V' S' w' hle hK.grow hl ⟨hwr, fun x hx => hx.elim (fun h => Nat.lt_of_lt_of_le (hV.lt x (.inl h)) hK.size) (hS' x), hq⟩

theorem qMkk {base hi : Nat} (hC : Cq C) (ho : ops[ix]? = some o) (hw : Region.wanted o (yielded ops a.tmps) = true) (hk : b.kind ≠ .early) (hop : o.op = .call { callee := .value (.func 23), args, argTypes := ats }) (hargs : args.map a.eval = #[v1, .int .i64 1])
    (hV : Vq C Rd0 S p V w) (h1 : VRel C p (.slice a1 xss.length c1) v1) (hr : Own2 (Value.int .i64) 2 25 V base a1 c1 hs xss) (hn : size2 xss ≤ 1048576) (kh : ∀ (i : Nat) (hd : Hd) (p : Addr), hs[i]? = some hd → hd.1 = some p → p.block < hi)
    (kont : ∀ q V' S' w' r, 0 ≤ r → RLe p q → (∀ b, S b → S' b) → LowB base hi V V' → Vq C Rd0 S' q V' w' → GG Try.prog true RL (GL Rd0) Stop S' (G (b.at (a.put o.dst (.int .i64 r)) (.inRegion ops rest :: k)) cs) w') :
    GG Try.prog true RL (GL Rd0) Stop S (G (b.at a (.inRegion ops (ix :: rest) :: k)) cs) w := by
  refine callQ (xv := #[.slice a1 xss.length c1, .int .i64 1]) (Rv := fun v V' => (∃ r : Int, v = .int .i64 r ∧ 0 ≤ r) ∧ LowB base hi V V') hC.list (hC.fns _ (by decide)) ho hw hk hop Try.func23 nmMkk rfl hV.lt hV.rel hV.own (fun T d => (markII_any ((Low.tp V T d).own2 hr) hn kh).mono ?_) (asame_two hargs h1 (.int _ _)) ?_
  · rintro e w₁ ⟨r, h0, _, rfl, hT⟩
    exact ⟨⟨r, rfl, h0⟩, hT.size, hT.block⟩
  · rintro q v v' V' S' w' ⟨⟨r, rfl, hr⟩, hl⟩ hv hwr hle hK hS' hq
    cases hv
    exact kont q V' S' w' r hr hle hK.grow hl ⟨hwr, fun x hx => hx.elim (fun h => Nat.lt_of_lt_of_le (hV.lt x (.inl h)) hK.size) (hS' x), hq⟩

theorem qMk {base : Nat} (hC : Cq C) (ho : ops[ix]? = some o) (hw : Region.wanted o (yielded ops a.tmps) = true) (hk : b.kind ≠ .early) (hop : o.op = .call { callee := .value (.func 24), args, argTypes := ats }) (hargs : args.map a.eval = #[v1, .int .i64 1])
    (hV : Vq C Rd0 S p V w) (h1 : VRel C p (.slice a1 xs.length c1) v1) (hr : Own (Value.int .i64) 2 V base a1 c1 xs) (hn : xs.length ≤ 8)
    (kont : ∀ q V' S' w', RLe p q → (∀ b, S b → S' b) → (V.heap.size ≤ V'.heap.size ∧ ∀ b, b < V.heap.size → some b ≠ a1.map (·.block) → V'.heap[b]? = V.heap[b]?) → Vq C Rd0 S' q V' w' → Own (Value.int .i64) 2 V' base a1 c1 (marks (fun k => (k : Int)) 1 xs.length) → GG Try.prog true RL (GL Rd0) Stop S' (G (b.at (a.put o.dst (.int .i64 ((1 + xs.length : Nat) : Int))) (.inRegion ops rest :: k)) cs) w') :
    GG Try.prog true RL (GL Rd0) Stop S (G (b.at a (.inRegion ops (ix :: rest) :: k)) cs) w := by
  refine callQ (xv := #[.slice a1 xs.length c1, .int .i64 1]) (Rv := fun v V' => v = .int .i64 ((1 + xs.length : Nat) : Int) ∧ Own (Value.int .i64) 2 V' base a1 c1 (marks (fun k => (k : Int)) 1 xs.length) ∧ (V.heap.size ≤ V'.heap.size ∧ ∀ b, b < V.heap.size → some b ≠ a1.map (·.block) → V'.heap[b]? = V.heap[b]?)) hC.list (hC.fns _ (by decide)) ho hw hk hop Try.func24 nmMk rfl hV.lt hV.rel hV.own (fun T d => (markI_any (k0 := 1) ((Low.tp V T d).own hr) (by omega)).mono ?_) (asame_two hargs h1 (.int _ _)) ?_
  · rintro e w₁ ⟨rfl, ho, hg⟩
    exact ⟨rfl, ho, hg.size, hg.block⟩
  · rintro q v v' V' S' w' ⟨rfl, ho, hl⟩ hv hwr hle hK hS' hq
    cases hv
    exact kont q V' S' w' hle hK.grow hl ⟨hwr, fun x hx => hx.elim (fun h => Nat.lt_of_lt_of_le (hV.lt x (.inl h)) hK.size) (hS' x), hq⟩ ho

theorem qHl {n : Nat} (hC : Cq C) (ho : ops[ix]? = some o) (hw : Region.wanted o (yielded ops a.tmps) = true) (hk : b.kind ≠ .early) (hop : o.op = .call { callee := .value (.func 25), args, argTypes := ats }) (hargs : args.map a.eval = #[v1, .int .i64 1])
    (hV : Vq C Rd0 S p V w) (h1 : VRel C p (.slice a1 n c1) v1) (hr : Rd (Value.int .i64) V a1 c1 (marks (fun k => (k : Int)) 1 n)) (hn : n ≤ 8)
    (kont : ∀ q V' S' w', RLe p q → (∀ b, S b → S' b) → Low V V' → Vq C Rd0 S' q V' w' → GG Try.prog true RL (GL Rd0) Stop S' (G (b.at (a.put o.dst (.int .i64 ((1 + n : Nat) : Int))) (.inRegion ops rest :: k)) cs) w') :
    GG Try.prog true RL (GL Rd0) Stop S (G (b.at a (.inRegion ops (ix :: rest) :: k)) cs) w := by
  refine callQ (xv := #[.slice a1 n c1, .int .i64 1]) (Rv := fun v V' => v = .int .i64 ((1 + n : Nat) : Int) ∧ Low V V') hC.list (hC.fns _ (by decide)) ho hw hk hop Try.func25 nmHl rfl hV.lt hV.rel hV.own (fun T d => (heldI_any (k0 := 1) ((Low.tp V T d).rd hr) (by omega)).mono ?_) (asame_two hargs h1 (.int _ _)) ?_
  · rintro e w₁ ⟨rfl, hb⟩
    exact ⟨rfl, .of_below hb⟩
  · rintro q v v' V' S' w' ⟨rfl, hl⟩ hv hwr hle hK hS' hq
    cases hv
    exact kont q V' S' w' hle hK.grow hl ⟨hwr, fun x hx => hx.elim (fun h => Nat.lt_of_lt_of_le (hV.lt x (.inl h)) hK.size) (hS' x), hq⟩
end
end Go.Proofs.Ytfecdmenliohhaa
