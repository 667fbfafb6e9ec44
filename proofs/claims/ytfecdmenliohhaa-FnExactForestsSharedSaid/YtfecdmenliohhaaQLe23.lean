/- The worker's piece of work: ForestsShared$2: one drawn region, in company. The worker's piece of work: ForestsShared$2: one drawn region, in company: the walk. (Printed by mkPoolN.py.). -/
import Derived.Test.YtfecdmenliohhaaQLe1
import Derived.Test.YtfecdmenliohhaaQLe11
import Derived.Test.YtfecdmenliohhaaQLe19
import Derived.Test.YtfecdmenliohhaaQLe6
set_option linter.unusedVariables false
set_option linter.unusedSimpArgs false
set_option linter.unusedSimpArgs false
set_option linter.unusedVariables false
namespace Go.Proofs.Ytfecdmenliohhaa
open Go Go.Conc Go.ConcN Go.RowKit
open Go.ConcR (Payload DC0)

noncomputable def opsW : Array Oper := match Try.f36.body with | some (.region _ ops _) => ops | _ => #[]
theorem bodyW : Try.f36.body = some (.region 0 opsW true) := rfl

/-- What is kept since world w₀, but for cell i of the payload. -/
structure Sn (X : PX) (j i : Nat) (O : OwnB) (w w₁ : World) : Prop where
  tape : w₁.tape = w.tape
  size : w.heap.size ≤ w₁.heap.size
  held : ∀ b, X.Ro b ∨ O b → w₁.heap[b]? = w.heap[b]?
  live : WgLive X.ty X.Wg w → WgLive X.ty X.Wg w₁
  pay : X.Pay w → X.Pay w₁
  cell : ∀ k, k ≠ i → X.mine j k → w₁.cell? ⟨X.C, k, none⟩ = w.cell? ⟨X.C, k, none⟩
theorem Sn.refl {X : PX} {j i : Nat} (O : OwnB) (w : World) : Sn X j i O w w := ⟨rfl, Nat.le_refl _, fun _ _ => rfl, id, id, fun _ _ _ => rfl⟩
theorem Sn.trans {X : PX} {j i : Nat} {O : OwnB} {a b c : World} (h : Sn X j i O a b) (k : Sn X j i O b c) : Sn X j i O a c :=
  ⟨k.tape.trans h.tape, Nat.le_trans h.size k.size, fun b hb => (k.held b hb).trans (h.held b hb), k.live ∘ h.live, k.pay ∘ h.pay, fun x hx hm => (k.cell x hx hm).trans (h.cell x hx hm)⟩
theorem RWk.sn {X : PX} {j : Nat} {O : OwnB} {w w₁ : World} (h : RWk X j O w w₁) (i : Nat) : Sn X j i O w w₁ := ⟨h.tape, h.size, h.held, h.live, h.pay, fun k _ hm => h.cell k hm⟩
theorem Sn.cellRo {X : PX} {j i : Nat} {O : OwnB} {w w₁ : World} (h : Sn X j i O w w₁) {a : Addr} {v : Value} (hb : X.Ro a.block ∨ O a.block) (hc : w.cell? a = some v) : w₁.cell? a = some v := by
  rw [← hc]; unfold World.cell?; rw [h.held _ hb]

/-- Where a worker's own blocks lie. -/
structure Bnd (X : PX) (O : OwnB) (w : World) : Prop where
  on : ∀ b, O b → ¬ X.Ro b
  oC : ¬ O X.C
  oW : ¬ O X.Wg
  lt : ∀ b, X.Ro b ∨ O b → b < w.heap.size
  cl : X.C < w.heap.size
  wl : X.Wg < w.heap.size
theorem Bnd.grow {X : PX} {O : OwnB} {w w₁ : World} (h : Bnd X O w) (hs : w.heap.size ≤ w₁.heap.size) : Bnd X O w₁ := ⟨h.on, h.oC, h.oW, fun b hb => Nat.lt_of_lt_of_le (h.lt b hb) hs, Nat.lt_of_lt_of_le h.cl hs, Nat.lt_of_lt_of_le h.wl hs⟩

/-- What the shared blocks hold. -/
structure WF (X : PX) (GB n2 lB oB : Nat) (N : Int) (la : Option Addr) (lc oc : Nat) (rows : Nat → Option Addr × Nat × List Int) (w : World) : Prop where
  roN : X.Ro n2
  roL : X.Ro lB
  roO : X.Ro oB
  roA : 0 < X.n → ∃ b o, la = some ⟨b, o, none⟩ ∧ X.Ro b
  roR : ∀ k, k < X.n → ∀ a, (rows k).1 = some a → 0 < (rows k).2.2.length → X.Ro a.block
  n2 : w.cell? ⟨n2, 0, none⟩ = some (.int .i64 N)
  l : w.cell? ⟨lB, 0, none⟩ = some (.slice la X.n lc)
  o : w.cell? ⟨oB, 0, none⟩ = some (.slice (some ⟨X.C, 0, none⟩) X.n oc)
  row : ∀ k, k < X.n → w.cell? (elt la k) = some (.slice (rows k).1 (rows k).2.2.length (rows k).2.1)
  rd : ∀ k, k < X.n → Rd (Value.int .i64) w (rows k).1 (rows k).2.1 (rows k).2.2

def dstW : Nat → Option Nat
  | 0 => some 6 | 1 => some 7 | 2 => some 8 | 3 => some 9 | 4 => some 10 | 5 => some 11 | 6 => some 12 | 7 => some 13 | 8 => some 5 | 9 => some 14 | 10 => some 15 | 11 => some 16 | 12 => some 17 | _ => none
def valW (X : PX) (i : Nat) (N : Int) (la : Option Addr) (lc oc : Nat) (rows : Nat → Option Addr × Nat × List Int) (r : Value × Value × Value) : Nat → Value
  | 0 => .slice (some ⟨X.C, 0, none⟩) X.n oc | 1 => .int .i64 i | 2 => .int .i64 N | 3 => .slice la X.n lc | 4 => .int .i64 i | 5 => .pointer (some (elt la i))
  | 6 => .slice (rows i).1 (rows i).2.2.length (rows i).2.1 | 7 => .tuple #[r.1, r.2.1, r.2.2] | 8 => .tuple #[r.1, r.2.1, r.2.2] | 9 => r.1 | 10 => r.2.1 | 11 => r.2.2 | 12 => .pointer (some ⟨X.C, i, none⟩) | _ => undef

/-- The slots while the region is under way. -/
structure SlW (n2 lB oB i : Nat) (V : Nat → Value) (L : Array Bool) (a : Act) : Prop where
  size : a.tmps.size = 18
  dfr : a.defers = []
  p0 : a.tmps[0]? = some (.int .i64 i)
  p1 : a.tmps[1]? = some (.pointer (some ⟨n2, 0, none⟩))
  p2 : a.tmps[2]? = some (.pointer (some ⟨lB, 0, none⟩))
  p3 : a.tmps[3]? = some (.pointer (some ⟨oB, 0, none⟩))
  at_ : ∀ k d, dstW k = some d → L.getD k false = true → a.tmps[d]? = some (V k)
theorem dstW_ge {k d : Nat} (h : dstW k = some d) : 4 ≤ d ∧ d < 18 ∧ k < 13 := by
  unfold dstW at h
  split at h <;> simp at h <;> subst h <;> decide
theorem dstW_inj {k k' d : Nat} (h : dstW k = some d) (h' : dstW k' = some d) : k = k' := by
  have h1 := (dstW_ge h).2.2
  have h2 := (dstW_ge h').2.2
  have : ∀ k < 13, ∀ k' < 13, dstW k = dstW k' → k = k' := by decide
  exact this k h1 k' h2 (h.trans h'.symm)
theorem getD_set_self {L : Array Bool} {i j : Nat} (h : (L.setIfInBounds i true).getD j false = true) : j = i ∨ L.getD j false = true := by
  by_cases e : i = j
  · exact .inl e.symm
  · rw [getD_set_ne false e] at h; exact .inr h
theorem SlW.put {n2 lB oB i : Nat} {V : Nat → Value} {L : Array Bool} {a : Act} (h : SlW n2 lB oB i V L a) {k d : Nat} (hd : dstW k = some d) : SlW n2 lB oB i V (L.setIfInBounds k true) (a.put (some d) (V k)) := by
  obtain ⟨h4, h18, hk13⟩ := dstW_ge hd
  have hne : ∀ s, s < 4 → (a.put (some d) (V k)).tmps[s]? = a.tmps[s]? := fun s hs => by
    show (a.tmps.setIfInBounds d (V k))[s]? = _
    rw [Array.getElem?_setIfInBounds_ne (by omega)]
  refine ⟨by show (a.tmps.setIfInBounds d (V k)).size = 18; simp [h.size], h.dfr, by rw [hne 0 (by omega)]; exact h.p0, by rw [hne 1 (by omega)]; exact h.p1, by rw [hne 2 (by omega)]; exact h.p2, by rw [hne 3 (by omega)]; exact h.p3, fun k' d' hd' hl => ?_⟩
  show (a.tmps.setIfInBounds d (V k))[d']? = _
  by_cases e : k' = k
  · subst e
    rw [hd] at hd'; cases hd'
    rw [Array.getElem?_setIfInBounds_self_of_lt (by rw [h.size]; exact h18)]
  · have hdd : d ≠ d' := fun x => e (dstW_inj hd' (x ▸ hd))
    rw [Array.getElem?_setIfInBounds_ne hdd]
    rcases getD_set_self hl with h1 | h1
    · exact absurd h1 e
    · exact h.at_ k' d' hd' h1
theorem SlW.mark {n2 lB oB i : Nat} {V : Nat → Value} {L : Array Bool} {a : Act} (h : SlW n2 lB oB i V L a) {k : Nat} (hd : dstW k = none) : SlW n2 lB oB i V (L.setIfInBounds k true) a :=
  ⟨h.size, h.dfr, h.p0, h.p1, h.p2, h.p3, fun k' d' hd' hl => by
    rcases getD_set_self hl with h1 | h1
    · subst h1; rw [hd] at hd'; cases hd'
    · exact h.at_ k' d' hd' h1⟩
theorem SlW.congr {n2 lB oB i : Nat} {V V' : Nat → Value} {L : Array Bool} {a : Act} (h : SlW n2 lB oB i V L a) (e : ∀ k d, dstW k = some d → L.getD k false = true → V' k = V k) : SlW n2 lB oB i V' L a :=
  ⟨h.size, h.dfr, h.p0, h.p1, h.p2, h.p3, fun k d hd hl => by rw [h.at_ k d hd hl, e k d hd hl]⟩
end Go.Proofs.Ytfecdmenliohhaa

set_option linter.unusedSimpArgs false
set_option linter.unusedVariables false
namespace Go.Proofs.Ytfecdmenliohhaa
open Go Go.Conc Go.ConcN Go.RowKit
open Go.ConcR (Payload DC0 WgAt)

theorem opsW_size : opsW.size = 14 := rfl
theorem dep_of {L : Array Bool} {o : Oper} {k : Nat} {g : Ground} (hall : ∀ e ∈ o.after, Region.binds .any e = true → L.getD e.on false = true) (h : ({ on := k, ground := g } : Edge) ∈ o.after) (hb : Region.binds .any { on := k, ground := g } = true) : L.getD k false = true := hall _ h hb

section
variable {X : PX} {j i GB n2 lB oB : Nat} {N : Int} {la : Option Addr} {lc oc : Nat} {rows : Nat → Option Addr × Nat × List Int} {parts : Nat → Int} {O₀ : OwnB} {w₀ : World} {Stop : OwnB → Goroutine → World → Prop}

/-- What is held when these operations have come up. -/
def InvW (X : PX) (j i n2 lB oB : Nat) (N : Int) (la : Option Addr) (lc oc : Nat) (rows : Nat → Option Addr × Nat × List Int) (parts : Nat → Int) (O₀ : OwnB) (w₀ : World) (L : Array Bool) (O : OwnB) (a : Act) (w : World) : Prop :=
  (∃ r : Value × Value × Value, SlW n2 lB oB i (valW X i N la lc oc rows r) L a ∧ (L.getD 7 false = true → r.2.1 = .int .i64 (parts i))) ∧
  (∀ k, k = 8 ∨ k = 9 ∨ k = 10 ∨ k = 11 → L.getD k false = true → L.getD 7 false = true) ∧ L.size = 14 ∧
  Sn X j i O₀ w₀ w ∧ (∀ b, O₀ b → O b) ∧ Bnd X O w ∧ (L.getD 13 false = true → w.cell? ⟨X.C, i, none⟩ = some (.int .i64 (parts i)))

theorem InvW.rely {L : Array Bool} {O : OwnB} {a : Act} {w w₁ : World} (hm : X.mine j i) (h : InvW X j i n2 lB oB N la lc oc rows parts O₀ w₀ L O a w) (hr : RWk X j O w w₁) : InvW X j i n2 lB oB N la lc oc rows parts O₀ w₀ L O a w₁ :=
  ⟨h.1, h.2.1, h.2.2.1, h.2.2.2.1.trans ((hr.sub h.2.2.2.2.1).sn i), h.2.2.2.2.1, h.2.2.2.2.2.1.grow hr.size, fun hl => (hr.cell i hm).trans (h.2.2.2.2.2.2 hl)⟩

/-- A quiet operation: one slot is laid. -/
theorem InvW.step {L : Array Bool} {O : OwnB} {a : Act} {w : World} {k d : Nat} (hd : dstW k = some d) (h7 : k ≠ 7) (hk : k = 8 ∨ k = 9 ∨ k = 10 ∨ k = 11 → L.getD 7 false = true) (h : InvW X j i n2 lB oB N la lc oc rows parts O₀ w₀ L O a w)
    {v : Value} (hv : ∀ r, SlW n2 lB oB i (valW X i N la lc oc rows r) L a → v = valW X i N la lc oc rows r k) : InvW X j i n2 lB oB N la lc oc rows parts O₀ w₀ (L.setIfInBounds k true) O (a.put (some d) v) w := by
  obtain ⟨⟨r, hs, hr⟩, h1, h2, h3, h4, h5, h6⟩ := h
  have k13 := (dstW_ge hd).2.2
  refine ⟨⟨r, by rw [hv r hs]; exact hs.put hd, fun h => hr ?_⟩, fun k' hk' h => ?_, by simp [h2], h3, h4, h5, fun h => h6 ?_⟩
  · exact (getD_set_self h).resolve_left (Ne.symm h7)
  · rcases getD_set_self h with e | e
    · rw [getD_set_ne false h7]; exact hk (e ▸ hk')
    · rw [getD_set_ne false h7]; exact h1 k' hk' e
  · exact (getD_set_self h).resolve_left (by omega)

set_option maxRecDepth 100000 in
set_option maxHeartbeats 4000000 in
/-- Each operation leads on. -/
theorem opsW_step {b : Frame} {k : List Item} {cs : List Frame} (hb : b.fn = 36) (hbk : b.kind ≠ .early) (hF : WF X GB n2 lB oB N la lc oc rows w₀) (hi : i < X.n) (hm : X.mine j i) (hmax : i < 9223372036854775808) (hpay : X.Pay w₀) (hroC : ∀ b, X.Ro b → b ≠ X.C ∧ b ≠ X.Wg) (hCW : X.Wg ≠ X.C) (ety : X.ety = 2)
    (hcall : ∀ (L : Array Bool) (ix : Nat) (rest : List Nat) (O : OwnB) (a : Act) (w : World) (o : Oper), InvW X j i n2 lB oB N la lc oc rows parts O₀ w₀ L O a w → ix = 7 → opsW[ix]? = some o → o.dst = some 13 → L.getD 2 false = true → L.getD 6 false = true → L.getD 7 true = false →
      (∀ O' a' w', InvW X j i n2 lB oB N la lc oc rows parts O₀ w₀ (L.setIfInBounds ix true) O' a' w' → GG Try.prog false (RWk X j) (GWk X j) Stop O' (G (b.at a' (.inRegion opsW rest :: k)) cs) w') → GG Try.prog false (RWk X j) (GWk X j) Stop O (G (b.at a (.inRegion opsW (ix :: rest) :: k)) cs) w)
    (L : Array Bool) (ix : Nat) (rest : List Nat) (O : OwnB) (a : Act) (w : World) (hI : InvW X j i n2 lB oB N la lc oc rows parts O₀ w₀ L O a w) (hr : ix ∈ Region.ready .any opsW L)
    (hk : ∀ O' a' w', InvW X j i n2 lB oB N la lc oc rows parts O₀ w₀ (L.setIfInBounds ix true) O' a' w' → GG Try.prog false (RWk X j) (GWk X j) Stop O' (G (b.at a' (.inRegion opsW rest :: k)) cs) w') : GG Try.prog false (RWk X j) (GWk X j) Stop O (G (b.at a (.inRegion opsW (ix :: rest) :: k)) cs) w := by
  obtain ⟨hun, o, ho, hall⟩ := mem_ready.1 hr
  have hlt : ix < 14 := by have := (Array.getElem?_eq_some_iff.1 ho).1; rwa [opsW_size] at this
  obtain ⟨r, hs, hr7⟩ := hI.1
  match ix, hlt with
  | 0, _ =>
    have ho' := ho
    simp [opsW, Try.f36] at ho'
    have hw : Region.wanted o (yielded opsW a.tmps) = true := by rw [← ho']; rfl
    have hdst : o.dst = some 6 := by rw [← ho']
    have e0 := hs.p3
    refine .mk rfl fun w₁ h₁ => ?_
    have hI₁ := hI.rely hm h₁
    have hc := hI₁.2.2.2.1.cellRo (.inl hF.roO) hF.o
    have hrun : (execOp a.eval o).run Try.prog w₁ = .ok (.value (valW X i N la lc oc rows r 0)) w₁ := by rw [← ho']; simp [go_sem, e0, hc, valW]
    refine ⟨_, _, _, O, (stepG_value ho hw hbk hrun).trans (by rw [hdst]; rfl), .read fun e he => ?_, hk _ _ _ (hI₁.step (k := 0) rfl (by omega) (by omega) fun r' hs' => rfl)⟩
    have hm' := mem_listed he
    rw [← ho'] at hm'
    simp [go_sem, e0, hc] at hm'
    subst hm'
    exact .inl ⟨rfl, .inr (.inl ⟨.inl ⟨_, rfl, hF.roO⟩, rfl⟩)⟩
  | 1, _ =>
    have ho' := ho
    simp [opsW, Try.f36] at ho'
    have hw : Region.wanted o (yielded opsW a.tmps) = true := by rw [← ho']; rfl
    have hdst : o.dst = some 7 := by rw [← ho']
    have e0 := hs.p0
    refine .mk rfl fun w₁ h₁ => ?_
    have hI₁ := hI.rely hm h₁
    have hrun : (execOp a.eval o).run Try.prog w₁ = .ok (.value (valW X i N la lc oc rows r 1)) w₁ := by rw [← ho']; simp [go_sem, e0, valW, hi]
    refine ⟨_, _, _, O, (stepG_value ho hw hbk hrun).trans (by rw [hdst]; rfl), .read fun e he => ?_, hk _ _ _ (hI₁.step (k := 1) rfl (by omega) (by omega) fun r' hs' => rfl)⟩
    have hm' := mem_listed he
    rw [← ho'] at hm'
    simp [go_sem, e0, valW, hi] at hm'
  | 2, _ =>
    have ho' := ho
    simp [opsW, Try.f36] at ho'
    have hw : Region.wanted o (yielded opsW a.tmps) = true := by rw [← ho']; rfl
    have hdst : o.dst = some 8 := by rw [← ho']
    have e0 := hs.p1
    refine .mk rfl fun w₁ h₁ => ?_
    have hI₁ := hI.rely hm h₁
    have hc := hI₁.2.2.2.1.cellRo (.inl hF.roN) hF.n2
    have hrun : (execOp a.eval o).run Try.prog w₁ = .ok (.value (valW X i N la lc oc rows r 2)) w₁ := by rw [← ho']; simp [go_sem, e0, hc, valW]
    refine ⟨_, _, _, O, (stepG_value ho hw hbk hrun).trans (by rw [hdst]; rfl), .read fun e he => ?_, hk _ _ _ (hI₁.step (k := 2) rfl (by omega) (by omega) fun r' hs' => rfl)⟩
    have hm' := mem_listed he
    rw [← ho'] at hm'
    simp [go_sem, e0, hc] at hm'
    subst hm'
    exact .inl ⟨rfl, .inr (.inl ⟨.inl ⟨_, rfl, hF.roN⟩, rfl⟩)⟩
  | 3, _ =>
    have ho' := ho
    simp [opsW, Try.f36] at ho'
    have hw : Region.wanted o (yielded opsW a.tmps) = true := by rw [← ho']; rfl
    have hdst : o.dst = some 9 := by rw [← ho']
    have e0 := hs.p2
    refine .mk rfl fun w₁ h₁ => ?_
    have hI₁ := hI.rely hm h₁
    have hc := hI₁.2.2.2.1.cellRo (.inl hF.roL) hF.l
    have hrun : (execOp a.eval o).run Try.prog w₁ = .ok (.value (valW X i N la lc oc rows r 3)) w₁ := by rw [← ho']; simp [go_sem, e0, hc, valW]
    refine ⟨_, _, _, O, (stepG_value ho hw hbk hrun).trans (by rw [hdst]; rfl), .read fun e he => ?_, hk _ _ _ (hI₁.step (k := 3) rfl (by omega) (by omega) fun r' hs' => rfl)⟩
    have hm' := mem_listed he
    rw [← ho'] at hm'
    simp [go_sem, e0, hc] at hm'
    subst hm'
    exact .inl ⟨rfl, .inr (.inl ⟨.inl ⟨_, rfl, hF.roL⟩, rfl⟩)⟩
  | 4, _ =>
    have ho' := ho
    simp [opsW, Try.f36] at ho'
    have hw : Region.wanted o (yielded opsW a.tmps) = true := by rw [← ho']; rfl
    have hdst : o.dst = some 10 := by rw [← ho']
    have e0 := hs.p0
    refine .mk rfl fun w₁ h₁ => ?_
    have hI₁ := hI.rely hm h₁
    have hrun : (execOp a.eval o).run Try.prog w₁ = .ok (.value (valW X i N la lc oc rows r 4)) w₁ := by rw [← ho']; simp [go_sem, e0, valW, hi]
    refine ⟨_, _, _, O, (stepG_value ho hw hbk hrun).trans (by rw [hdst]; rfl), .read fun e he => ?_, hk _ _ _ (hI₁.step (k := 4) rfl (by omega) (by omega) fun r' hs' => rfl)⟩
    have hm' := mem_listed he
    rw [← ho'] at hm'
    simp [go_sem, e0, valW, hi] at hm'
  | 5, _ =>
    have ho' := ho
    simp [opsW, Try.f36] at ho'
    have hw : Region.wanted o (yielded opsW a.tmps) = true := by rw [← ho']; rfl
    have hdst : o.dst = some 11 := by rw [← ho']
    have d0 := hs.at_ 3 9 rfl (dep_of (k := 3) (g := .data) hall (by rw [← ho']; simp) rfl)
    have e0 := d0
    have d1 := hs.at_ 4 10 rfl (dep_of (k := 4) (g := .data) hall (by rw [← ho']; simp) rfl)
    have e1 := d1
    simp only [valW] at e0
    simp only [valW] at e1
    obtain ⟨bA, oA, rfl, hroA⟩ := hF.roA (by omega)
    refine .mk rfl fun w₁ h₁ => ?_
    have hI₁ := hI.rely hm h₁
    have hrun : (execOp a.eval o).run Try.prog w₁ = .ok (.value (valW X i N (some ⟨bA, oA, none⟩) lc oc rows r 5)) w₁ := by rw [← ho']; simp [go_sem, e0, e1, valW, elt_some, add_elt, hi]
    refine ⟨_, _, _, O, (stepG_value ho hw hbk hrun).trans (by rw [hdst]; rfl), .read fun e he => ?_, hk _ _ _ (hI₁.step (k := 5) rfl (by omega) (by omega) fun r' hs' => rfl)⟩
    have hm' := mem_listed he
    rw [← ho'] at hm'
    simp [go_sem, e0, e1, valW, elt_some, add_elt, hi] at hm'
  | 6, _ =>
    have ho' := ho
    simp [opsW, Try.f36] at ho'
    have hw : Region.wanted o (yielded opsW a.tmps) = true := by rw [← ho']; rfl
    have hdst : o.dst = some 12 := by rw [← ho']
    have d0 := hs.at_ 5 11 rfl (dep_of (k := 5) (g := .data) hall (by rw [← ho']; simp) rfl)
    have e0 := d0
    simp only [valW] at e0
    refine .mk rfl fun w₁ h₁ => ?_
    have hI₁ := hI.rely hm h₁
    obtain ⟨bA, oA, rfl, hroA⟩ := hF.roA (by omega)
    have hc := hI₁.2.2.2.1.cellRo (a := elt (some ⟨bA, oA, none⟩) i) (.inl (by simpa [elt_some] using hroA)) (hF.row i hi)
    have hrun : (execOp a.eval o).run Try.prog w₁ = .ok (.value (valW X i N (some ⟨bA, oA, none⟩) lc oc rows r 6)) w₁ := by rw [← ho']; simp [go_sem, e0, hc, valW]
    refine ⟨_, _, _, O, (stepG_value ho hw hbk hrun).trans (by rw [hdst]; rfl), .read fun e he => ?_, hk _ _ _ (hI₁.step (k := 6) rfl (by omega) (by omega) fun r' hs' => rfl)⟩
    have hm' := mem_listed he
    rw [← ho'] at hm'
    simp [go_sem, e0, valW, hc] at hm'
    subst hm'
    exact .inl ⟨rfl, .inr (.inl ⟨.inl ⟨_, rfl, by simpa [elt_some] using hroA⟩, rfl⟩)⟩
  | 7, _ =>
    have ho' := ho
    simp [opsW, Try.f36] at ho'
    have hw : Region.wanted o (yielded opsW a.tmps) = true := by rw [← ho']; rfl
    have hdst : o.dst = some 13 := by rw [← ho']
    exact hcall L 7 rest O a w o hI rfl ho hdst (dep_of (k := 2) (g := .data) hall (by rw [← ho']; simp) rfl) (dep_of (k := 6) (g := .data) hall (by rw [← ho']; simp) rfl) hun hk
  | 8, _ =>
    have ho' := ho
    simp [opsW, Try.f36] at ho'
    have hw : Region.wanted o (yielded opsW a.tmps) = true := by rw [← ho']; rfl
    have hdst : o.dst = some 5 := by rw [← ho']
    have d0 := hs.at_ 7 13 rfl (dep_of (k := 7) (g := .data) hall (by rw [← ho']; simp) rfl)
    have e0 := d0
    simp only [valW] at e0
    refine .mk rfl fun w₁ h₁ => ?_
    have hI₁ := hI.rely hm h₁
    have hrun : (execOp a.eval o).run Try.prog w₁ = .ok (.value (valW X i N la lc oc rows r 8)) w₁ := by rw [← ho']; simp [go_sem, e0, valW]
    refine ⟨_, _, _, O, (stepG_value ho hw hbk hrun).trans (by rw [hdst]), .read fun e he => ?_, hk _ _ _ (hI₁.step (k := 8) rfl (by omega) (fun _ => dep_of (k := 7) (g := .data) hall (by rw [← ho']; simp) rfl) fun r' hs' => ?_)⟩
    · have hm' := mem_listed he
      rw [← ho'] at hm'
      simp [go_sem, e0, valW] at hm'
    · have d' := hs'.at_ 7 13 rfl (dep_of (k := 7) (g := .data) hall (by rw [← ho']; simp) rfl)
      rw [d0] at d'
      simp [valW] at d' ⊢
      simp [d']
  | 9, _ =>
    have ho' := ho
    simp [opsW, Try.f36] at ho'
    have hw : Region.wanted o (yielded opsW a.tmps) = true := by rw [← ho']; rfl
    have hdst : o.dst = some 14 := by rw [← ho']
    have d0 := hs.at_ 8 5 rfl (dep_of (k := 8) (g := .data) hall (by rw [← ho']; simp) rfl)
    have e0 := d0
    simp only [valW] at e0
    refine .mk rfl fun w₁ h₁ => ?_
    have hI₁ := hI.rely hm h₁
    have hrun : (execOp a.eval o).run Try.prog w₁ = .ok (.value (valW X i N la lc oc rows r 9)) w₁ := by rw [← ho']; simp [go_sem, e0, valW]
    refine ⟨_, _, _, O, (stepG_value ho hw hbk hrun).trans (by rw [hdst]), .read fun e he => ?_, hk _ _ _ (hI₁.step (k := 9) rfl (by omega) (fun _ => hI.2.1 8 (.inl rfl) (dep_of (k := 8) (g := .data) hall (by rw [← ho']; simp) rfl)) fun r' hs' => ?_)⟩
    · have hm' := mem_listed he
      rw [← ho'] at hm'
      simp [go_sem, e0, valW] at hm'
    · have d' := hs'.at_ 8 5 rfl (dep_of (k := 8) (g := .data) hall (by rw [← ho']; simp) rfl)
      rw [d0] at d'
      simp [valW] at d' ⊢
      simp [d']
  | 10, _ =>
    have ho' := ho
    simp [opsW, Try.f36] at ho'
    have hw : Region.wanted o (yielded opsW a.tmps) = true := by rw [← ho']; rfl
    have hdst : o.dst = some 15 := by rw [← ho']
    have d0 := hs.at_ 8 5 rfl (dep_of (k := 8) (g := .data) hall (by rw [← ho']; simp) rfl)
    have e0 := d0
    simp only [valW] at e0
    refine .mk rfl fun w₁ h₁ => ?_
    have hI₁ := hI.rely hm h₁
    have hrun : (execOp a.eval o).run Try.prog w₁ = .ok (.value (valW X i N la lc oc rows r 10)) w₁ := by rw [← ho']; simp [go_sem, e0, valW]
    refine ⟨_, _, _, O, (stepG_value ho hw hbk hrun).trans (by rw [hdst]), .read fun e he => ?_, hk _ _ _ (hI₁.step (k := 10) rfl (by omega) (fun _ => hI.2.1 8 (.inl rfl) (dep_of (k := 8) (g := .data) hall (by rw [← ho']; simp) rfl)) fun r' hs' => ?_)⟩
    · have hm' := mem_listed he
      rw [← ho'] at hm'
      simp [go_sem, e0, valW] at hm'
    · have d' := hs'.at_ 8 5 rfl (dep_of (k := 8) (g := .data) hall (by rw [← ho']; simp) rfl)
      rw [d0] at d'
      simp [valW] at d' ⊢
      simp [d']
  | 11, _ =>
    have ho' := ho
    simp [opsW, Try.f36] at ho'
    have hw : Region.wanted o (yielded opsW a.tmps) = true := by rw [← ho']; rfl
    have hdst : o.dst = some 16 := by rw [← ho']
    have d0 := hs.at_ 8 5 rfl (dep_of (k := 8) (g := .data) hall (by rw [← ho']; simp) rfl)
    have e0 := d0
    simp only [valW] at e0
    refine .mk rfl fun w₁ h₁ => ?_
    have hI₁ := hI.rely hm h₁
    have hrun : (execOp a.eval o).run Try.prog w₁ = .ok (.value (valW X i N la lc oc rows r 11)) w₁ := by rw [← ho']; simp [go_sem, e0, valW]
    refine ⟨_, _, _, O, (stepG_value ho hw hbk hrun).trans (by rw [hdst]), .read fun e he => ?_, hk _ _ _ (hI₁.step (k := 11) rfl (by omega) (fun _ => hI.2.1 8 (.inl rfl) (dep_of (k := 8) (g := .data) hall (by rw [← ho']; simp) rfl)) fun r' hs' => ?_)⟩
    · have hm' := mem_listed he
      rw [← ho'] at hm'
      simp [go_sem, e0, valW] at hm'
    · have d' := hs'.at_ 8 5 rfl (dep_of (k := 8) (g := .data) hall (by rw [← ho']; simp) rfl)
      rw [d0] at d'
      simp [valW] at d' ⊢
      simp [d']
  | 12, _ =>
    have ho' := ho
    simp [opsW, Try.f36] at ho'
    have hw : Region.wanted o (yielded opsW a.tmps) = true := by rw [← ho']; rfl
    have hdst : o.dst = some 17 := by rw [← ho']
    have d0 := hs.at_ 0 6 rfl (dep_of (k := 0) (g := .data) hall (by rw [← ho']; simp) rfl)
    have e0 := d0
    have d1 := hs.at_ 1 7 rfl (dep_of (k := 1) (g := .data) hall (by rw [← ho']; simp) rfl)
    have e1 := d1
    simp only [valW] at e0
    simp only [valW] at e1
    refine .mk rfl fun w₁ h₁ => ?_
    have hI₁ := hI.rely hm h₁
    have hrun : (execOp a.eval o).run Try.prog w₁ = .ok (.value (valW X i N la lc oc rows r 12)) w₁ := by rw [← ho']; simp [go_sem, e0, e1, valW, add_elt, hi]
    refine ⟨_, _, _, O, (stepG_value ho hw hbk hrun).trans (by rw [hdst]; rfl), .read fun e he => ?_, hk _ _ _ (hI₁.step (k := 12) rfl (by omega) (by omega) fun r' hs' => rfl)⟩
    have hm' := mem_listed he
    rw [← ho'] at hm'
    simp [go_sem, e0, e1, valW, add_elt, hi] at hm'
  | 13, _ =>
    have ho' := ho
    simp [opsW, Try.f36] at ho'
    have hw : Region.wanted o (yielded opsW a.tmps) = true := by rw [← ho']; rfl
    have hdst : o.dst = none := by rw [← ho']
    have d0 := hs.at_ 12 17 rfl (dep_of (k := 12) (g := .data) hall (by rw [← ho']; simp) rfl)
    have e0 := d0
    have d1 := hs.at_ 10 15 rfl (dep_of (k := 10) (g := .data) hall (by rw [← ho']; simp) rfl)
    have e1 := d1
    simp only [valW] at e0
    simp only [valW] at e1
    have h7 : L.getD 7 false = true := hI.2.1 10 (by simp) (dep_of (k := 10) (g := .data) hall (by rw [← ho']; simp) rfl)
    have hr2 := hr7 h7
    rw [hr2] at e1
    refine .mk rfl fun w₁ h₁ => ?_
    have hI₁ := hI.rely hm h₁
    obtain ⟨cs', hcs, hn⟩ := hI₁.2.2.2.1.pay hpay
    have hcell : w₁.cell? ⟨X.C, i, none⟩ = some (cs'[i]'(by omega)) := by simp [World.cell?, hcs, hn, hi]
    have hfr : w₁.frozen? ⟨X.C, i, none⟩ = false := by simp [World.frozen?, hcs]
    have hrow : (w₁.setCell ⟨X.C, i, none⟩ (.int .i64 (parts i))).heap[X.C]? = some (.cells (cs'.setIfInBounds i (.int .i64 (parts i))) X.ety) := by
      rw [setCell_eq_setRow w₁ X.C i _ X.ety (0, 0) _ hcs, setRow_heap w₁ X.C _ _ X.ety _ hcs]
    have hrun : (execOp a.eval o).run Try.prog w₁ = .ok .skip (w₁.setCell ⟨X.C, i, none⟩ (.int .i64 (parts i))) := by rw [← ho']; simp [go_sem, e0, e1, hcell, hfr]
    have hasd := aside_setCell w₁ ⟨X.C, i, none⟩ (.int .i64 (parts i))
    have hoth : ∀ kk, kk ≠ i → (w₁.setCell ⟨X.C, i, none⟩ (.int .i64 (parts i))).cell? ⟨X.C, kk, none⟩ = w₁.cell? ⟨X.C, kk, none⟩ := fun kk hkk => by
      simp only [World.cell?, hrow, hcs]
      simp [Array.getElem?_setIfInBounds_ne (Ne.symm hkk)]
    have hpay' : X.Pay (w₁.setCell ⟨X.C, i, none⟩ (.int .i64 (parts i))) := ⟨_, hrow, by simp [hn]⟩
    have hg : GWk X j O O w₁ (w₁.setCell ⟨X.C, i, none⟩ (.int .i64 (parts i))) (listed Try.prog b.fn a o w₁) := by
      refine ⟨hasd.tape, hasd.os, hasd.output, Nat.le_of_eq hasd.size.symm, fun bb _ _ hC => hasd.block bb hC, fun _ => hpay', fun kk hkk => hoth kk fun e => hkk (e ▸ hm), fun _ h => h, fun _ h => .inl h, fun e he => ?_⟩
      have hm' := mem_listed he
      rw [← ho'] at hm'
      simp [go_sem, e0, e1, hcell, hfr] at hm'
      subst hm'
      exact .inl ⟨rfl, .inr (.inr ⟨_, rfl, rfl, hm⟩)⟩
    refine ⟨_, _, _, O, (stepG_none ho hw hbk hrun).trans (by rw [hdst]; rfl), hg, hk _ _ _ ⟨⟨r, hs.mark rfl, fun h => hr7 ((getD_set_self h).resolve_left (by omega))⟩, fun kk hkk h => ?_, by simp [hI.2.2.1], hI₁.2.2.2.1.trans ⟨hasd.tape, Nat.le_of_eq hasd.size.symm, fun bb hbb => hasd.block bb ?_, fun ⟨st, sm, h⟩ => ⟨st, sm, h.of_block (hasd.block _ ?_)⟩, fun _ => hpay', fun kk hkk _ => hoth kk hkk⟩, hI₁.2.2.2.2.1, hI₁.2.2.2.2.2.1.grow (Nat.le_of_eq hasd.size.symm), fun _ => ?_⟩⟩
    · rw [getD_set_ne false (by omega)]
      exact hI.2.1 kk hkk ((getD_set_self h).resolve_left (by omega))
    · rcases hbb with h | h
      · exact (hroC _ h).1
      · exact fun e => hI₁.2.2.2.2.2.1.oC (by have := hI₁.2.2.2.2.1 _ h; rwa [show bb = X.C from e] at this)
    · exact hCW
    · simp only [World.cell?, hrow]
      simp [hn, hi]
end
end Go.Proofs.Ytfecdmenliohhaa
