/- The laws' calls beside leavers: the reference, the comparison of rows. -/
import Derived.Test.YtfecdmenliohhaaQLa31
set_option linter.unusedVariables false
set_option linter.unusedSimpArgs false
set_option linter.unusedSimpArgs false
set_option linter.unusedVariables false
namespace Go.Proofs.Ytfecdmenliohhaa
open Go Go.Conc Go.RowKit

section
variable {w0 : World} {cl : List (Nat × Obj)} {Rd0 : Nat → Prop} {S : OwnB} {Stop : OwnB → Goroutine → World → Prop} {w : World} {b : Frame} {a : Act} {k : List Item} {cs : List Frame} {ops : Array Oper} {ix : Nat} {rest : List Nat} {o : Oper} {args : Array Operand} {ats : Array TypeId}
/-- A slice that may be read. -/
def MayRd (Rd0 : Nat → Prop) (S : OwnB) (w : World) (a : Option Addr) (c : Nat) (xs : List Int) : Prop := Rd (Value.int .i64) w a c xs ∧ (xs ≠ [] → ∃ ad, a = some ad ∧ (Rd0 ad.block ∨ S ad.block))
theorem MayRd.fs {S' : OwnB} {w' : World} {a : Option Addr} {c : Nat} {xs : List Int} (h : MayRd Rd0 S w a c xs) (hS : ∀ b, S b → S' b) (hs : w.heap.size ≤ w'.heap.size) (hsm : ∀ b, Rd0 b ∨ S b → w'.heap[b]? = w.heap[b]?) : MayRd Rd0 S' w' a c xs := by
  obtain ⟨h1, h2⟩ := h
  refine ⟨⟨h1.cap, h1.max, h1.nil, fun h0 => let ⟨b, o, e, hlt⟩ := h1.here h0; ⟨b, o, e, Nat.lt_of_lt_of_le hlt hs⟩, fun k hk => ?_⟩, fun hne => let ⟨ad, e, hb⟩ := h2 hne; ⟨ad, e, hb.imp id (hS _)⟩⟩
  obtain ⟨b, o, e, _⟩ := h1.here (by omega)
  obtain ⟨ad, e', hb⟩ := h2 (fun e => by rw [e] at hk; simp at hk)
  rw [e] at e'
  cases e'
  have hc := h1.cell k hk
  rw [e, elt_some] at hc ⊢
  rw [← hc]
  unfold World.cell?
  simp only [hsm b hb]

theorem nmSp : (Try.f17.name == "runtime.NumGoroutine") = false := by kernel_rfl
theorem nmSI : (Try.f18.name == "runtime.NumGoroutine") = false := by kernel_rfl

theorem callSpecFS {la : Option Addr} {lc : Nat} {hs : List Hd} {xss : List (List Int)} {n workers : Int} (ho : ops[ix]? = some o) (hw : Region.wanted o (yielded ops a.tmps) = true) (hk : b.kind ≠ .early) (hop : o.op = .call { callee := .value (.func 17), args, argTypes := ats }) (hargs : args.map a.eval = #[.int .i64 n, .slice la xss.length lc, .int .i64 workers])
    (hF : FSt w0 cl S w) (hRl : ∀ b, Rd0 b → b < w0.heap.size) (h0 : Rd2 (Value.int .i64) w0 la lc hs xss) (hin : ∀ b, inL la hs xss [] b → Rd0 b)
    (kont : ∀ S' w' a' c', (∀ b, S b → S' b) → FSt w0 cl S' w' → (∀ b, Rd0 b ∨ S b → w'.heap[b]? = w.heap[b]?) → w.heap.size ≤ w'.heap.size → MayRd Rd0 S' w' a' c' (if fsOk n xss workers then fsN n xss else []) → GG Try.prog true RL (GL Rd0) Stop S' (G (b.at (a.put o.dst (.tuple #[.slice a' (if fsOk n xss workers then fsN n xss else []).length c', .bool (fsOk n xss workers)])) (.inRegion ops rest :: k)) cs) w') :
    GG Try.prog true RL (GL Rd0) Stop S (G (b.at a (.inRegion ops (ix :: rest) :: k)) cs) w := by
  have hL : LOk w la lc hs xss [] := ⟨rd2_old h0 hF.size hF.old, fun y hy => by simp at hy⟩
  obtain ⟨R, hR⟩ : ∃ R, R = (if fsOk n xss workers then fsN n xss else []) := ⟨_, rfl⟩
  rw [← hR] at kont
  refine callL (xv := #[.int .i64 n, .slice (seenA GB0 0 la) xss.length lc, .int .i64 workers]) (Rv := fun v w₁ => ∃ a c, v = .tuple #[.slice a R.length c, .bool (fsOk n xss workers)] ∧ Rd (Value.int .i64) w₁ a c R) (by decide) ho hw hk hop Try.func17 nmSp rfl hL (fun c hc => .inl (hin c hc)) (fs_lt hF hRl) (fun T d => ?_) (fun Ro => asame_three hargs (.int _ _) (lvs_arg hL) (.int _ _)) ?_
  · refine (specFS_any (n := n) (workers := workers) (lvs_rd2 hL)).mono ?_
    rintro e w₁ ⟨a, c, rfl, ho, _⟩
    rw [← hR] at ho ⊢
    exact ⟨a, c, rfl, ho.rd⟩
  · rintro C q v v' w₁ S' w' ⟨a2, c2, rfl, hrd⟩ hv hwr hK hS' hq hsm
    cases hv with
    | @tuple _ x' hsz hat =>
      obtain ⟨y0, y1, rfl⟩ : ∃ y0 y1, x' = #[y0, y1] := by
        obtain ⟨l⟩ := x'
        match l, hsz with
        | [y0, y1], _ => exact ⟨y0, y1, rfl⟩
      have e0 := hat 0 _ y0 rfl rfl
      have e1 := hat 1 _ y1 rfl rfl
      cases e1
      obtain ⟨a', rfl, h1, h2⟩ := rd_true hrd e0 hwr
      refine kont S' w' a' c2 hK.grow (hF.after hK hS' fun b hb => ?_) hsm hK.size ⟨h1, fun hne => ?_⟩
      · rcases hb with hb | hb
        · by_cases hS : S b
          · have := (hF.bnd b hS).1; omega
          · exact hK.other b (Nat.lt_of_lt_of_le hb hF.size) hS
        · exact hsm b (.inr hb)
      · obtain ⟨bb, ad, rfl, hb⟩ := h2 hne
        exact ⟨ad, rfl, hq _ _ hb⟩

theorem callSame {a1 a2 : Option Addr} {c1 c2 : Nat} {R : List Int} (ho : ops[ix]? = some o) (hw : Region.wanted o (yielded ops a.tmps) = true) (hk : b.kind ≠ .early) (hop : o.op = .call { callee := .value (.func 18), args, argTypes := ats }) (hargs : args.map a.eval = #[.slice a1 R.length c1, .slice a2 R.length c2])
    (hF : FSt w0 cl S w) (hRl : ∀ b, Rd0 b → b < w0.heap.size) (hx : MayRd Rd0 S w a1 c1 R) (hy : MayRd Rd0 S w a2 c2 R)
    (kont : ∀ S' w', (∀ b, S b → S' b) → FSt w0 cl S' w' → (∀ b, Rd0 b ∨ S b → w'.heap[b]? = w.heap[b]?) → w.heap.size ≤ w'.heap.size → GG Try.prog true RL (GL Rd0) Stop S' (G (b.at (a.put o.dst (.bool true)) (.inRegion ops rest :: k)) cs) w') :
    GG Try.prog true RL (GL Rd0) Stop S (G (b.at a (.inRegion ops (ix :: rest) :: k)) cs) w := by
  have hL : LOk w none 0 [] [] [(a1, c1, R), (a2, c2, R)] := by
    refine ⟨(lok_nil w).l, fun y hy' => ?_⟩
    simp only [List.mem_cons, List.not_mem_nil, or_false] at hy'
    rcases hy' with rfl | rfl
    · exact hx.1
    · exact hy.1
  have hin : ∀ c, inL none [] [] [(a1, c1, R), (a2, c2, R)] c → Rd0 c ∨ S c := by
    rintro c (⟨ad, h, _⟩ | ⟨k, hd, xs, ad, h, _⟩ | ⟨y, hy', ad, h1, h2, h3⟩)
    · cases h
    · simp at h
    · simp only [List.mem_cons, List.not_mem_nil, or_false] at hy'
      rcases hy' with rfl | rfl
      · obtain ⟨ad', e, hb⟩ := hx.2 h3
        have e2 := (show _ = some ad from h1).symm.trans e; cases e2; exact (show ad.block = c from h2) ▸ hb
      · obtain ⟨ad', e, hb⟩ := hy.2 h3
        have e2 := (show _ = some ad from h1).symm.trans e; cases e2; exact (show ad.block = c from h2) ▸ hb
  have ha : ∀ Ro, ASame (viwC LF GB0 Ro badT (lvs GB0 none [] [] [(a1, c1, R), (a2, c2, R)])) (viwP GB0 (lvs GB0 none [] [] [(a1, c1, R), (a2, c2, R)])) #[.slice (seenA GB0 (1 + ([] : List Hd).length + 0) a1) R.length c1, .slice (seenA GB0 (1 + ([] : List Hd).length + 1) a2) R.length c2] (args.map a.eval) := by
    intro Ro
    exact asame_two hargs (lvs_argx hL (i := 0) rfl) (lvs_argx hL (i := 1) rfl)
  refine callL (xv := #[.slice (seenA GB0 (1 + ([] : List Hd).length + 0) a1) R.length c1, .slice (seenA GB0 (1 + ([] : List Hd).length + 1) a2) R.length c2]) (Rv := fun v _ => v = .bool true) (by decide) ho hw hk hop Try.func18 nmSI rfl hL hin (fs_lt hF hRl) (fun T d => ?_) ha ?_
  · refine Calls.mono (sameInts_any (xs := R) (lvs_rdx hL (i := 0) (x := (a1, c1, R)) rfl) (lvs_rdx hL (i := 1) (x := (a2, c2, R)) rfl)) ?_
    rintro e w₁ ⟨rfl, _⟩
    rfl
  · rintro C q v v' w₁ S' w' rfl hv hwr hK hS' hq hsm
    cases hv
    refine kont S' w' hK.grow (hF.after hK hS' fun b hb => ?_) hsm hK.size
    rcases hb with hb | hb
    · by_cases hS : S b
      · have := (hF.bnd b hS).1; omega
      · exact hK.other b (Nat.lt_of_lt_of_le hb hF.size) hS
    · exact hsm b (.inr hb)
end
end Go.Proofs.Ytfecdmenliohhaa
