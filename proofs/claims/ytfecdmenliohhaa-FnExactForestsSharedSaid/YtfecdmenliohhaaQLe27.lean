/- Goroutine 0's calls beside leavers, by lone contracts: the list of functions, looked through; the rule. Goroutine 0's calls beside leavers whose answer is a truth value; a frame with two results leaves. -/
import Derived.Test.YtfecdmenliohhaaQLe17
import Derived.Test.YtfecdmenliohhaaQLe11
import Derived.Test.YtfecdmenliohhaaQLe1
import Derived.Test.YtfecdmenliohhaaQLe21
import Derived.Test.YtfecdmenliohhaaQLe22
set_option linter.unusedVariables false
set_option linter.unusedSimpArgs false
set_option linter.unusedSimpArgs false
set_option linter.unusedVariables false
namespace Go.Proofs.Ytfecdmenliohhaa
open Go Go.Conc Go.RowKit

def LF : List FuncId := [9, 17, 18, 19, 20, 21, 22, 23, 24, 25, 28, 29, 30, 31, 32, 33, 34, 42, 44, 45, 47, 48, 54, 55, 71]
theorem lf_ok : LF.all (fnOk Try.prog LF) = true := by decide +kernel
def badT : TypeId := 1000000
theorem bad_none : Try.prog.info? badT = none := by kernel_rfl
noncomputable def GB0 : Nat := Try.prog.globals.size

section
variable {Rd0 : Nat → Prop} {S : OwnB} {Stop : OwnB → Goroutine → World → Prop} {w : World} {la : Option Addr} {lc : Nat} {hs : List Hd} {xss : List (List Int)} {ext : List ISl}
theorem callL {f : FuncId} {fn : Func} {c : Code} (hF : LF.contains f = true) {b : Frame} {a : Act} {k : List Item} {cs : List Frame} {ops : Array Oper} {ix : Nat} {rest : List Nat} {o : Oper} {args : Array Operand} {ats : Array TypeId}
    (ho : ops[ix]? = some o) (hw : Region.wanted o (yielded ops a.tmps) = true) (hk : b.kind ≠ .early) (hop : o.op = .call { callee := .value (.func f), args, argTypes := ats })
    (hf : Try.prog.funcs[f]? = some fn) (hname : (fn.name == "runtime.NumGoroutine") = false) (hb : fn.body = some c)
    (h : LOk w la lc hs xss ext) (hin : ∀ b, inL la hs xss ext b → Rd0 b ∨ S b) (hlt : ∀ b, Rd0 b ∨ S b → b < w.heap.size) {Rv : Value → World → Prop} {xv : Array Value}
    (hcl : ∀ T d, Calls Try.prog f xv (World.tp (viwW GB0 badT (lvs GB0 la hs xss ext) w) T d) (fun | .returned v, w₁ => Rv v w₁ | _, _ => False))
    (ha : ∀ Ro, ASame (viwC LF GB0 Ro badT (lvs GB0 la hs xss ext)) (viwP GB0 (lvs GB0 la hs xss ext)) xv (args.map a.eval))
    (kont : ∀ C q v v' w₁ S' w', Rv v w₁ → VRel C q v v' → WRel C q w₁ w' → KL S S' w w' → (∀ b, S' b → b < w'.heap.size) → (∀ b c, q b = some c → Rd0 c ∨ S' c) → (∀ b, Rd0 b ∨ S b → w'.heap[b]? = w.heap[b]?) → GG Try.prog true RL (GL Rd0) Stop S' (G (b.at (a.put o.dst v') (.inRegion ops rest :: k)) cs) w') :
    GG Try.prog true RL (GL Rd0) Stop S (G (b.at a (.inRegion ops (ix :: rest) :: k)) cs) w := by
  refine .goes rfl fun w₁ h₁ => goes_call ho hw hk hop hf hname hb ⟨S, .idle S _, ?_⟩
  obtain ⟨d, rfl⟩ := h₁
  have hC : WRel (viwC LF GB0 (fun b => Rd0 b ∨ S b) badT (lvs GB0 la hs xss ext)) (viwP GB0 (lvs GB0 la hs xss ext)) (viwW GB0 badT (lvs GB0 la hs xss ext) w) (w.at d) :=
    (lvs_rel h hin hlt).draws _ _ _ _
  have hRI := mirrorC (main := true) (ct := b.at a (.inRegion ops (ix :: rest) :: k) :: cs) (viw_list (Ro := fun b => Rd0 b ∨ S b) (vs := lvs GB0 la hs xss ext) lf_ok rfl bad_none) hF hcl (ha _) hC
  rw [show rec' (Frame.enter Try.prog f (args.map a.eval) .normal) (b.at a (.inRegion ops (ix :: rest) :: k) :: cs) = G ((base f).at { tmps := args.map a.eval ++ Array.replicate (fn.ntmps - (args.map a.eval).size) undef, defers := [] } [.code c]) (b.at a (.inRegion ops (ix :: rest) :: k) :: cs) by rw [enter_at _ hf hb]; rfl] at hRI
  refine GG.of_RIL (Rd := Rd0) hRI (fun b hb => hlt b hb) (fun bb cc hbc => ?_) ?_
  · rcases hin cc (lvs_img h hbc) with hx | hx
    · exact .inl ⟨hx, .inl hx⟩
    · exact .inr hx
  rintro q S' g w' ⟨v, v', wv', f', fn', hR, hv, hwr, rfl, h1, h2, h3, h4, h5⟩ hK hS' hq hsm
  refine .ctl GL.idle RL.trans rfl (g' := G (b.at (a.put o.dst v') (.inRegion ops rest :: k)) cs) (fun w₂ => ?_) (kont _ q v v' wv' S' w' hR hv hwr ((KL.at S w d).trans hK) hS' (fun b c h => (hq b c h).imp (·.1) id) fun b hb => hsm b hb (hlt b hb))
  have hfin : (b.at a (.inRegion ops (ix :: rest) :: k)).finish v' = b.at (a.put o.dst v') (.inRegion ops rest :: k) := by rw [Frame.finish_at, ho]; rfl
  have h6 : (results fn' f'.tmps).runT Try.prog w₂ #[] = (.ok v' w₂, #[]) := h5 w₂ #[]
  have := stepG_leaving (P := Try.prog) (main := true) (cs := cs) (c := b.at a (.inRegion ops (ix :: rest) :: k)) h1 h2 h3 h4 h6
  rw [hfin] at this
  exact this
end
end Go.Proofs.Ytfecdmenliohhaa

set_option linter.unusedSimpArgs false
set_option linter.unusedVariables false
namespace Go.Proofs.Ytfecdmenliohhaa
open Go Go.Conc Go.RowKit

section
variable {w0 : World} {cl : List (Nat × Obj)} {Rd0 : Nat → Prop} {S : OwnB} {Stop : OwnB → Goroutine → World → Prop} {w : World} {la : Option Addr} {lc : Nat} {hs : List Hd} {xss : List (List Int)} {ext : List ISl}
theorem fs_lt (hF : FSt w0 cl S w) (hRl : ∀ b, Rd0 b → b < w0.heap.size) : ∀ b, Rd0 b ∨ S b → b < w.heap.size := fun b hb => hb.elim (fun h => Nat.lt_of_lt_of_le (hRl b h) hF.size) fun h => (hF.bnd b h).2

theorem callB {f : FuncId} {fn : Func} {c : Code} (hf0 : LF.contains f = true) {b : Frame} {a : Act} {k : List Item} {cs : List Frame} {ops : Array Oper} {ix : Nat} {rest : List Nat} {o : Oper} {args : Array Operand} {ats : Array TypeId}
    (ho : ops[ix]? = some o) (hw : Region.wanted o (yielded ops a.tmps) = true) (hk : b.kind ≠ .early) (hop : o.op = .call { callee := .value (.func f), args, argTypes := ats })
    (hf : Try.prog.funcs[f]? = some fn) (hname : (fn.name == "runtime.NumGoroutine") = false) (hb : fn.body = some c)
    (hF : FSt w0 cl S w) (hRl : ∀ b, Rd0 b → b < w0.heap.size) (h : LOk w la lc hs xss ext) (hin : ∀ b, inL la hs xss ext b → Rd0 b ∨ S b) {xv : Array Value} {bq : Bool}
    (hcl : ∀ T d, Calls Try.prog f xv (World.tp (viwW GB0 badT (lvs GB0 la hs xss ext) w) T d) fun e _ => e = .returned (.bool bq))
    (ha : ∀ Ro, ASame (viwC LF GB0 Ro badT (lvs GB0 la hs xss ext)) (viwP GB0 (lvs GB0 la hs xss ext)) xv (args.map a.eval))
    (kont : ∀ S' w', (∀ b, S b → S' b) → FSt w0 cl S' w' → GG Try.prog true RL (GL Rd0) Stop S' (G (b.at (a.put o.dst (.bool bq)) (.inRegion ops rest :: k)) cs) w') :
    GG Try.prog true RL (GL Rd0) Stop S (G (b.at a (.inRegion ops (ix :: rest) :: k)) cs) w := by
  refine callL hf0 ho hw hk hop hf hname hb h hin (fs_lt hF hRl) (Rv := fun v _ => v = .bool bq) (fun T d => (hcl T d).mono fun e w' he => by subst he; rfl) ha ?_
  rintro C q v v' w₁ S' w' rfl hv hwr hK hS' _ hsm
  cases hv
  refine kont S' w' hK.grow (hF.after hK hS' fun b hb => ?_)
  rcases hb with hb | hb
  · -- an old block: nobody of this goroutine's writes it
    by_cases hS : S b
    · have := (hF.bnd b hS).1; omega
    · exact hK.other b (Nat.lt_of_lt_of_le hb hF.size) hS
  · exact hsm b (.inr hb)

theorem asame_const {C : Cx} {p : Ren} {x y : Array Value} (e : y = x) (h : x.all constOk = true) : ASame C p x y := by
  subst e
  refine ⟨rfl, fun i v v' h1 h2 => ?_⟩
  rw [h1] at h2
  cases h2
  exact constOk_rel (Array.all_eq_true_iff_forall_mem.1 h v (Array.mem_of_getElem? h1))
theorem asame_two {C : Cx} {p : Ren} {x x' y y' : Value} {z : Array Value} (e : z = #[x', y']) (h : VRel C p x x') (k : VRel C p y y') : ASame C p #[x, y] z := by
  subst e
  have := (ASame.one h).push k
  simpa using this
theorem asame_three {C : Cx} {p : Ren} {x x' y y' u u' : Value} {z : Array Value} (e : z = #[x', y', u']) (h : VRel C p x x') (k : VRel C p y y') (l : VRel C p u u') : ASame C p #[x, y, u] z := by
  subst e
  have := ((ASame.one h).push k).push l
  simpa using this
theorem lok_nil (w : World) : LOk w none 0 [] [] [] := ⟨⟨⟨Nat.le_refl _, by omega, fun _ => rfl, (fun h => by simp at h), fun k hk => by simp at hk⟩, rfl, fun i hi => by simp at hi⟩, fun y hy => by simp at hy⟩
theorem inL_nil (b : Nat) : ¬ inL none [] [] [] b := by
  rintro (⟨ad, h, _⟩ | ⟨k, hd, xs, ad, h, _⟩ | ⟨y, hy, _⟩)
  · cases h
  · simp at h
  · simp at hy

/-- A frame with two results leaves. -/
theorem GG.leave2 {P : Program} {main : Bool} {R : OwnB → World → World → Prop} {D : OwnB → OwnB → World → World → Array Event → Prop} {b b₀ : Frame} {a a₀ : Act} {k todo : List Item} {cs : List Frame} {ops : Array Oper} {ix : Nat} {rest : List Nat}
    (hD : ∀ O w, D O O w w #[]) (tr : ∀ O a b c, R O a b → R O b c → R O a c) {fn : Func} {i j : Nat} (hn : b.kind = .normal) (hd : a.defers = []) (hf : P.funcs[b.fn]? = some fn) (hr : fn.results = #[.tmp i, .tmp j])
    (h : GG P main R D Stop S (G (b₀.at (a₀.put ((ops[ix]?).bind (·.dst)) (.tuple #[a.tmps.getD i undef, a.tmps.getD j undef])) (.inRegion ops rest :: k)) cs) w) :
    GG P main R D Stop S (G { b.at a todo with mode := .returning } (b₀.at a₀ (.inRegion ops (ix :: rest) :: k) :: cs)) w :=
  .ctl hD tr rfl (fun w => by
    have h5 : (results fn a.tmps).runT P w #[] = (.ok (.tuple #[a.tmps.getD i undef, a.tmps.getD j undef]) w, #[]) := by rw [Sem.runT_eq, results_tmp2 hr _ P w, Conc.events_results_tmp2 hr]
    have := stepG_leaving (P := P) (main := main) (cs := cs) (c := b₀.at a₀ (.inRegion ops (ix :: rest) :: k)) (f := { b.at a todo with mode := .returning }) rfl hd hn hf h5
    rw [Frame.finish_at] at this
    exact this) h

theorem rd2_old {w0 w : World} {la : Option Addr} {lc : Nat} {hs : List Hd} {xss : List (List Int)} (h : Rd2 (Value.int .i64) w0 la lc hs xss) (hs' : w0.heap.size ≤ w.heap.size) (ho : ∀ b, b < w0.heap.size → w.heap[b]? = w0.heap[b]?) : Rd2 (Value.int .i64) w la lc hs xss :=
  ⟨rd_old h.top hs' ho, h.len, fun i hi => let ⟨hd, xs, h1, h2, h3, h4⟩ := h.row i hi; ⟨hd, xs, h1, h2, h3, rd_old h4 hs' ho⟩⟩
theorem lvs_cell0 (h : LOk w la lc hs xss ext) {w₀ : World} {T : Nat → Question → Nat} {d i nb : Nat} {n : Int} {GB : Nat} {bad : TypeId} (hx : ext[i]? = some (some ⟨nb, 0, none⟩, 1, [n])) : (World.tp (viwW GB bad (lvs GB la hs xss ext) w₀) T d).cell? ⟨GB + (1 + hs.length + i), 0, none⟩ = some (.int .i64 n) :=
  (lvs_rdx h hx).cell 0 (by simp)
/-- The lists and one box. -/
theorem lok_box {w0 w : World} {cl : List (Nat × Obj)} {S : OwnB} {la : Option Addr} {lc : Nat} {hs : List Hd} {xss : List (List Int)} (h0 : Rd2 (Value.int .i64) w0 la lc hs xss) (hF : FSt w0 cl S w) {nb : Nat} {n : Int} {e : TypeId} (hx : (nb, Obj.cells #[.int .i64 n] e (0, 0)) ∈ cl) : LOk w la lc hs xss [(some ⟨nb, 0, none⟩, 1, [n])] := by
  refine ⟨rd2_old h0 hF.size hF.old, fun y hy => ?_⟩
  simp only [List.mem_cons, List.not_mem_nil, or_false] at hy
  subst hy
  obtain ⟨h1, _, h3⟩ := hF.cell hx
  refine ⟨Nat.le_refl _, by simp, (fun e => by cases e), fun _ => ⟨nb, 0, rfl, (hF.bnd _ h3).2⟩, fun k hk => ?_⟩
  obtain rfl : k = 0 := by simp at hk; exact hk
  exact h1
theorem inL_box {la : Option Addr} {hs : List Hd} {xss : List (List Int)} {nb : Nat} {n : Int} {b : Nat} (h : inL la hs xss [(some ⟨nb, 0, none⟩, 1, [n])] b) : inL la hs xss [] b ∨ b = nb := by
  rcases h with h | h | ⟨y, hy, ad, h1, h2, _⟩
  · exact .inl (.inl h)
  · exact .inl (.inr (.inl h))
  · simp only [List.mem_cons, List.not_mem_nil, or_false] at hy
    subst hy
    cases h1
    exact .inr h2.symm

/-- A box among the windows: a pointer to it. -/
theorem lvs_ptr {L : List FuncId} {GB : Nat} {Ro : Nat → Prop} {bad : TypeId} (h : LOk w la lc hs xss ext) {i nb : Nat} {n : Int} (hx : ext[i]? = some (some ⟨nb, 0, none⟩, 1, [n])) :
    VRel (viwC L GB Ro bad (lvs GB la hs xss ext)) (viwP GB (lvs GB la hs xss ext)) (.pointer (some ⟨GB + (1 + hs.length + i), 0, none⟩)) (.pointer (some ⟨nb, 0, none⟩)) := by
  have h1 := atV_of (GB := GB) (lvs_ext (GB := GB) (a := la) h.l.len hx)
  refine .ptr ⟨?_, ?_, rfl, by show GB ≤ GB + _; omega⟩
  · show (atV GB _ (GB + (1 + hs.length + i))).bind VB.tgt = some nb
    rw [h1]
    simp [winA, VB.tgt]
  · show 0 = 0 + ((atV GB _ (GB + (1 + hs.length + i))).bind VB.sh).getD 0
    rw [h1]
    simp [winA, VB.sh]
end
/-! ### a row of up to eight numbers is made -/
theorem mk8 {m : Nat} (h : m ≤ 8) (w : World) : (Instr.makeSlice 25 (.int .i64 (m : Int)) (.int .i64 (m : Int))).run Try.prog w = .ok (.slice (some ⟨w.heap.size, 0, none⟩) m m) (w.alloc (.cells (madeCells #[.int .i64 0] m) 2)) := by
  obtain ⟨i0, hi, hz0, hz1, hz2⟩ := info_parts info_i
  have h := run_make (P := Try.prog) w 25 2 i0 _ und_ise hi hz0 .i64 .i64 m m (by omega) (Int.le_refl _) (by rw [hz2]; omega) (by omega)
  rw [h, hz1]
  simp [Value.cells]
theorem mkE0 (w : World) : ((Instr.makeSlice 25 (.int .i64 ((0 : Nat) : Int)) (.int .i64 ((0 : Nat) : Int))).runT Try.prog w #[]).2 = #[] := by kernel_rfl
theorem mkE1 (w : World) : ((Instr.makeSlice 25 (.int .i64 ((1 : Nat) : Int)) (.int .i64 ((1 : Nat) : Int))).runT Try.prog w #[]).2 = #[] := by kernel_rfl
theorem mkE2 (w : World) : ((Instr.makeSlice 25 (.int .i64 ((2 : Nat) : Int)) (.int .i64 ((2 : Nat) : Int))).runT Try.prog w #[]).2 = #[] := by kernel_rfl
theorem mkE3 (w : World) : ((Instr.makeSlice 25 (.int .i64 ((3 : Nat) : Int)) (.int .i64 ((3 : Nat) : Int))).runT Try.prog w #[]).2 = #[] := by kernel_rfl
theorem mkE4 (w : World) : ((Instr.makeSlice 25 (.int .i64 ((4 : Nat) : Int)) (.int .i64 ((4 : Nat) : Int))).runT Try.prog w #[]).2 = #[] := by kernel_rfl
theorem mkE5 (w : World) : ((Instr.makeSlice 25 (.int .i64 ((5 : Nat) : Int)) (.int .i64 ((5 : Nat) : Int))).runT Try.prog w #[]).2 = #[] := by kernel_rfl
theorem mkE6 (w : World) : ((Instr.makeSlice 25 (.int .i64 ((6 : Nat) : Int)) (.int .i64 ((6 : Nat) : Int))).runT Try.prog w #[]).2 = #[] := by kernel_rfl
theorem mkE7 (w : World) : ((Instr.makeSlice 25 (.int .i64 ((7 : Nat) : Int)) (.int .i64 ((7 : Nat) : Int))).runT Try.prog w #[]).2 = #[] := by kernel_rfl
theorem mkE8 (w : World) : ((Instr.makeSlice 25 (.int .i64 ((8 : Nat) : Int)) (.int .i64 ((8 : Nat) : Int))).runT Try.prog w #[]).2 = #[] := by kernel_rfl
theorem mk8e {m : Nat} (h : m ≤ 8) (w : World) : (Instr.makeSlice 25 (.int .i64 (m : Int)) (.int .i64 (m : Int))).events Try.prog w #[] = #[] := by
  have h9 : m = 0 ∨ m = 1 ∨ m = 2 ∨ m = 3 ∨ m = 4 ∨ m = 5 ∨ m = 6 ∨ m = 7 ∨ m = 8 := by omega
  rcases h9 with rfl | rfl | rfl | rfl | rfl | rfl | rfl | rfl | rfl
  · exact mkE0 w
  · exact mkE1 w
  · exact mkE2 w
  · exact mkE3 w
  · exact mkE4 w
  · exact mkE5 w
  · exact mkE6 w
  · exact mkE7 w
  · exact mkE8 w
/-- Some cells of a block of its own are written. -/
theorem GL.putB {Rd : Nat → Prop} {S : OwnB} {w w' : World} {es : Array Event} {n : Nat} (hS : S n) (hA : Aside n w w') (he : ∀ e ∈ es, ∃ j, e = ⟨.cell ⟨n, j, none⟩, true, false⟩) : GL Rd S S w w' es :=
  ⟨hA.tape, hA.os, hA.output, Nat.le_of_eq hA.size.symm, fun b _ hn => hA.block b fun e => hn (e ▸ hS), fun _ h => h, fun _ h => .inl h, fun e h => by
    obtain ⟨j, rfl⟩ := he e h
    exact .inl ⟨rfl, .inl (.inl ⟨_, rfl, hS⟩)⟩⟩
theorem GL.new' {Rd : Nat → Prop} {S : OwnB} {w : World} {es : Array Event} (o : Obj) (h : es = #[]) : GL Rd S (fun b => S b ∨ b = w.heap.size) w (w.alloc o) es := by subst h; exact GL.new o
end Go.Proofs.Ytfecdmenliohhaa
