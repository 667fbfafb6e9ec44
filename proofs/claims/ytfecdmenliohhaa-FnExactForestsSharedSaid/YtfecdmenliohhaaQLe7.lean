/- The trace's law of a pool: goroutine 0, c - 1 leavers, workers c, c + 1, ..: who may touch what; who knows what. Plain. -/
import Derived.Test.YtfecdmenliohhaaQLe5
import Derived.Conc.CrowdTrace
import Derived.Conc.CrowdCom2
set_option linter.unusedVariables false
set_option linter.unusedSimpArgs false
set_option linter.unusedSimpArgs false
set_option linter.unusedVariables false
namespace Go.Proofs.Ytfecdmenliohhaa
open Go Go.Conc
open Go.ConcN (PermW fork_knows RelBy Deaf_absent Deaf_still)

def Live (c j g : Nat) : Prop := g = 0 ∨ ∃ k, k < j ∧ g = c + k
theorem Live.mono {c j j' g : Nat} (h : Live c j g) (hj : j ≤ j') : Live c j' g := h.imp id fun ⟨k, h1, h2⟩ => ⟨k, by omega, h2⟩

/-- Sh: the group's cells; Ro: places that nobody writes; Shun: the old shunned places; M g: what goroutine g alone touches. -/
structure TL (Sh Ro Shun : Loc → Prop) (c j : Nat) (M : Nat → Loc → Prop) (B : Nat) (t : Trace) : Prop where
  sh : ∀ i x, touchAt t i = some x → Sh x.loc → (x.kind ≠ .plain ∧ (x.kind = .said → t.g? i = some 0)) ∨ ∀ g, Live c j g → Knows t g i
  own : ∀ g, Live c j g → ∀ l, M g l → Perm t g l
  rd : ∀ g, Live c j g → ∀ l, Ro l → PermW t g l
  nr : ∀ said, ¬ Race said t
  cov : ∀ i x, touchAt t i = some x → x.loc.isMemory = true → Knows t 0 i ∨ (Shun x.loc ∧ x.kind = .atomic) ∨ ∃ k, k < j ∧ t.g? i = some (c + k) ∧ (x.kind = .atomic → Sh x.loc)
  ho : ∀ i g, t.g? i = some g → g ≠ 0 → t.counts i → (∃ q, t.g? q = some 0 ∧ HappensBefore t i q) ∨ ∃ k, k < j ∧ g = c + k
  seen : ∀ op ∈ t, op.act.low B

structure TApart (Sh Ro : Loc → Prop) (c j : Nat) (M : Nat → Loc → Prop) : Prop where
  two : ∀ g g' l, Live c j g → Live c j g' → M g l → M g' l → g = g'
  sh : ∀ g l, Live c j g → M g l → ¬ Sh l
  ro : ∀ g l, Live c j g → M g l → ¬ Ro l
  roSh : ∀ l, Ro l → ¬ Sh l

/-- What an operation of g's may be. -/
def OkP (Sh Ro : Loc → Prop) (Mg : Loc → Prop) (g B : Nat) (op : MemOp) : Prop :=
  op.g = g ∧ op.act.low B ∧ ∀ x, op.act.touch? = some x → (Sh x.loc ∧ x.kind ≠ .plain ∧ (x.kind = .said → g = 0)) ∨ (Mg x.loc ∧ x.kind = .plain) ∨ (Ro x.loc ∧ x.write = false ∧ x.kind = .plain)

section
variable {Sh Ro Shun : Loc → Prop} {c j : Nat} {M M' : Nat → Loc → Prop} {B B' : Nat} {t u : Trace}

theorem touchAt_cases {i : Nat} {x : Touch} (h : touchAt (t ++ u) i = some x) : (i < t.size ∧ touchAt t i = some x) ∨ (t.size ≤ i ∧ ∃ op ∈ u, (t ++ u)[i]? = some op ∧ op.act.touch? = some x) := by
  obtain ⟨z, hz, hzx⟩ := touch_of h
  rcases getElem?_append_cases hz with ⟨hi, hz'⟩ | ⟨hi, hzu⟩
  · exact .inl ⟨hi, by rw [touchAt_of hz']; exact hzx⟩
  · exact .inr ⟨hi, z, hzu, hz, hzx⟩

theorem touchAt_lt {i : Nat} {x : Touch} (h : touchAt t i = some x) : i < t.size := by
  obtain ⟨z, hz, _⟩ := touch_of h
  exact lt_size_of_getElem? hz

theorem g?_lt {i g : Nat} (h : t.g? i = some g) : i < t.size := by
  unfold Trace.g? at h
  obtain ⟨op, ho, _⟩ := Option.map_eq_some_iff.1 h
  exact lt_size_of_getElem? ho

theorem TL.mono (h : TL Sh Ro Shun c j M B t) (hB : B ≤ B') : TL Sh Ro Shun c j M B' t :=
  ⟨h.sh, h.own, h.rd, h.nr, h.cov, h.ho, fun op hop => MemAct.low_mono hB (h.seen op hop)⟩

/-- Grown by operations of one goroutine's; what it has made since is its own. -/
theorem TL.app {g : Nat} (A : TApart Sh Ro c j M') (h : TL Sh Ro Shun c j M B t) (hg : Live c j g) (hB : B ≤ B') (hu : ∀ op ∈ u, OkP Sh Ro (M' g) g B' op)
    (hM : ∀ g', Live c j g' → g' ≠ g → ∀ l, M' g' l → M g' l) (hMg : ∀ l, M' g l → M g l ∨ ∀ i a, touchAt t i = some a → a.loc ≠ l) : TL Sh Ro Shun c j M' B' (t ++ u) := by
  have hgu : ∀ op ∈ u, op.g = g := fun op hop => (hu op hop).1
  have newg : ∀ {i : Nat} {op : MemOp}, (t ++ u)[i]? = some op → op ∈ u → (t ++ u).g? i = some g := fun {i op} ho hop => by simp [Trace.g?, ho, hgu op hop]
  have newk : ∀ {i : Nat} {op : MemOp}, (t ++ u)[i]? = some op → op ∈ u → Knows (t ++ u) g i := fun {i op} ho hop => by have := knows_own ho; rwa [hgu op hop] at this
  refine ⟨fun i x hx hs => ?_, fun g' hl' l hl => ?_, fun g' hl' l hl => ?_, fun said => ?_, fun i x hx hm => ?_, fun i g' hi hne hc => ?_, fun op hop => ?_⟩
  · rcases touchAt_cases hx with ⟨hi, hx'⟩ | ⟨_, op, hop, ho, hox⟩
    · rcases h.sh i x hx' hs with ⟨h1, h2⟩ | h1
      · exact .inl ⟨h1, fun e => by rw [g?_old hi]; exact h2 e⟩
      · exact .inr fun g' hl => (h1 g' hl).app u
    · rcases (hu op hop).2.2 x hox with ⟨_, h1, h2⟩ | ⟨h1, _⟩ | ⟨h1, _⟩
      · exact .inl ⟨h1, fun e => by rw [newg ho hop, h2 e]⟩
      · exact absurd hs (A.sh g _ hg h1)
      · exact absurd hs (A.roSh _ h1)
  · by_cases e : g' = g
    · subst e
      rcases hMg l hl with h1 | h1
      · exact (h.own g' hl' l h1).app fun op hop _ _ _ => hgu op hop
      · exact Perm.app (fun i a ha hal => absurd hal (h1 i a ha)) fun op hop _ _ _ => hgu op hop
    · refine (h.own g' hl' l (hM g' hl' e l hl)).app fun op hop b hb hbl => ?_
      rcases (hu op hop).2.2 b hb with ⟨h1, _⟩ | ⟨h1, _⟩ | ⟨h1, _⟩
      · exact absurd (hbl ▸ h1) (A.sh g' l hl' hl)
      · exact absurd (A.two g' g l hl' hg hl (hbl ▸ h1)) e
      · exact absurd (hbl ▸ h1) (A.ro g' l hl' hl)
  · refine (h.rd g' hl' l hl).app fun op hop b hb hbl hw => ?_
    rcases (hu op hop).2.2 b hb with ⟨h1, _⟩ | ⟨h1, _⟩ | ⟨_, h2, _⟩
    · exact absurd (hbl ▸ h1) (A.roSh l hl)
    · exact absurd hl (A.ro g l hg (hbl ▸ h1))
    · rw [h2] at hw; cases hw
  · refine noRace_append (h.nr said) hgu fun i a ha op hop b hb hc => ?_
    rcases (hu op hop).2.2 b hb with ⟨h1, h2, h3⟩ | ⟨h1, h2⟩ | ⟨h1, h2, h3⟩
    · rcases h.sh i a ha (hc.1 ▸ h1) with ⟨k1, k2⟩ | k1
      · rcases hc.2.2.2 with e | e | ⟨_, e1, e2⟩
        · exact absurd e k1
        · exact absurd e h2
        · obtain ⟨z, hz, hzg⟩ := Option.map_eq_some_iff.1 (k2 e1)
          have := knows_own hz
          rwa [hzg, ← h3 e2] at this
      · exact k1 g hg
    · rcases hMg b.loc h1 with h4 | h4
      · exact h.own g hg _ h4 i a ha hc.1
      · exact absurd hc.1 (h4 i a ha)
    · exact h.rd g hg _ h1 i a ha hc.1 (hc.2.2.1.resolve_right (by simp [h2]))
  · rcases touchAt_cases hx with ⟨hi, hx'⟩ | ⟨_, op, hop, ho, hox⟩
    · rcases h.cov i x hx' hm with h1 | h1 | ⟨k, hk, h1, h2⟩
      · exact .inl (h1.app u)
      · exact .inr (.inl h1)
      · exact .inr (.inr ⟨k, hk, by rw [g?_old hi]; exact h1, h2⟩)
    · rcases hg with rfl | ⟨k, hk, rfl⟩
      · exact .inl (newk ho hop)
      · refine .inr (.inr ⟨k, hk, newg ho hop, fun ha => ?_⟩)
        rcases (hu op hop).2.2 x hox with ⟨h1, _⟩ | ⟨_, h1⟩ | ⟨_, _, h1⟩
        · exact h1
        · rw [h1] at ha; cases ha
        · rw [h1] at ha; cases ha
  · rcases Nat.lt_or_ge i t.size with hlt | hge
    · rcases h.ho i g' (by rw [← g?_old (u := u) hlt]; exact hi) hne ((counts_old hlt).1 hc) with ⟨q, h1, h2⟩ | h1
      · exact .inl ⟨q, by rw [g?_old (g?_lt h1)]; exact h1, hb_app u h2⟩
      · exact .inr h1
    · obtain ⟨op, ho, hog⟩ := Option.map_eq_some_iff.1 hi
      rcases getElem?_append_cases ho with ⟨h1, _⟩ | ⟨_, hou⟩
      · omega
      · have e : g' = g := by rw [← hog, hgu op hou]
        subst e
        rcases hg with rfl | hk
        · exact absurd rfl hne
        · exact .inr hk
  · rcases Array.mem_append.1 hop with h1 | h1
    · exact MemAct.low_mono hB (h.seen op h1)
    · exact (hu op h1).2.1

/-- Grown by operations of a leaver's: they touch nothing. -/
theorem TL.mute {g : Nat} (h : TL Sh Ro Shun c j M B t) (hu : ∀ op ∈ u, op.g = g ∧ op.act.touch? = none ∧ op.act.low B) : TL Sh Ro Shun c j M B (t ++ u) := by
  have old : ∀ {i : Nat} {x : Touch}, touchAt (t ++ u) i = some x → i < t.size ∧ touchAt t i = some x := fun {i x} hx => by
    rcases touchAt_cases hx with h1 | ⟨_, op, hop, _, hox⟩
    · exact h1
    · rw [(hu op hop).2.1] at hox; cases hox
  have nt : ∀ op ∈ u, ∀ b, op.act.touch? = some b → False := fun op hop b hb => by rw [(hu op hop).2.1] at hb; cases hb
  refine ⟨fun i x hx hs => ?_, fun g' hl' l hl => (h.own g' hl' l hl).app fun op hop b hb _ => (nt op hop b hb).elim, fun g' hl' l hl => (h.rd g' hl' l hl).app fun op hop b hb _ _ => (nt op hop b hb).elim,
    fun said => noRace_append (h.nr said) (fun op hop => (hu op hop).1) fun i a _ op hop b hb _ => (nt op hop b hb).elim, fun i x hx hm => ?_, fun i g' hi hne hc => ?_, fun op hop => ?_⟩
  · obtain ⟨hi, hx'⟩ := old hx
    rcases h.sh i x hx' hs with ⟨h1, h2⟩ | h1
    · exact .inl ⟨h1, fun e => by rw [g?_old hi]; exact h2 e⟩
    · exact .inr fun g' hl => (h1 g' hl).app u
  · obtain ⟨hi, hx'⟩ := old hx
    rcases h.cov i x hx' hm with h1 | h1 | ⟨k, hk, h1, h2⟩
    · exact .inl (h1.app u)
    · exact .inr (.inl h1)
    · exact .inr (.inr ⟨k, hk, by rw [g?_old hi]; exact h1, h2⟩)
  · obtain ⟨x, hx, hx2⟩ := hc
    obtain ⟨hlt, hx'⟩ := old hx
    rcases h.ho i g' (by rw [← g?_old (u := u) hlt]; exact hi) hne ((counts_old hlt).1 ⟨x, hx, hx2⟩) with ⟨q, h1, h2⟩ | h1
    · exact .inl ⟨q, by rw [g?_old (g?_lt h1)]; exact h1, hb_app u h2⟩
    · exact .inr h1
  · rcases Array.mem_append.1 hop with h1 | h1
    · exact h.seen op h1
    · exact (hu op h1).2.2

/-- A go statement of goroutine 0's: it hands over some of its own. -/
theorem TL.fork (h : TL Sh Ro Shun c j M B t) {x y : MemOp} (hx : x.g = 0 ∧ x.act = .go (c + j)) (hy : y.g = c + j ∧ y.act = .start) (hc : 0 < c) (h0 : Deaf t 0 = 0) (hk : Deaf t (c + j) = 0)
    (hM : ∀ g, Live c j g → ∀ l, M' g l → M g l) (hMn : ∀ l, M' (c + j) l → M 0 l) : TL Sh Ro Shun c (j + 1) M' B (t ++ #[x, y]) := by
  have hnt : ∀ op ∈ #[x, y], ∀ b, op.act.touch? = some b → False := by
    intro op hop b hb
    simp only [List.mem_toArray, List.mem_cons, List.not_mem_nil, or_false] at hop
    rcases hop with rfl | rfl
    · rw [hx.2] at hb; cases hb
    · rw [hy.2] at hb; cases hb
  have old : ∀ {i : Nat} {a : Touch}, touchAt (t ++ #[x, y]) i = some a → i < t.size ∧ touchAt t i = some a := fun {i a} ha => by
    rcases touchAt_cases ha with h1 | ⟨_, op, hop, _, hox⟩
    · exact h1
    · exact (hnt op hop a hox).elim
  have hl : ∀ g, Live c (j + 1) g → Live c j g ∨ g = c + j := fun g hg => by
    rcases hg with rfl | ⟨k, hk, rfl⟩
    · exact .inl (.inl rfl)
    · rcases Nat.lt_or_ge k j with h1 | h1
      · exact .inl (.inr ⟨k, h1, rfl⟩)
      · exact .inr (by omega)
  have fk : ∀ {i : Nat}, Knows t 0 i → Knows (t ++ #[x, y]) (c + j) i := fun hi => fork_knows hx hy h0 hk hi
  refine ⟨fun i a ha hs => ?_, fun g hg l hm => ?_, fun g hg l hm => ?_, fun said => ?_, fun i a ha hm => ?_, fun i g hi hne hct => ?_, fun op hop => ?_⟩
  · obtain ⟨hi, ha'⟩ := old ha
    rcases h.sh i a ha' hs with ⟨h1, h2⟩ | h1
    · exact .inl ⟨h1, fun e => by rw [g?_old hi]; exact h2 e⟩
    · refine .inr fun g hg => ?_
      rcases hl g hg with h2 | rfl
      · exact (h1 g h2).app _
      · exact fk (h1 0 (.inl rfl))
  · rcases hl g hg with h2 | rfl
    · exact (h.own g h2 l (hM g h2 l hm)).app fun op hop b hb _ => (hnt op hop b hb).elim
    · exact fun i a ha e => fk (h.own 0 (.inl rfl) l (hMn l hm) i a (old ha).2 e)
  · rcases hl g hg with h2 | rfl
    · exact (h.rd g h2 l hm).app fun op hop b hb _ _ => (hnt op hop b hb).elim
    · exact fun i a ha e hw => fk (h.rd 0 (.inl rfl) l hm i a (old ha).2 e hw)
  · have e : t ++ #[x, y] = (t ++ #[x]) ++ #[y] := by apply Array.ext'; simp
    rw [e]
    refine noRace_append (g := c + j) (noRace_append (g := 0) (h.nr said) (fun op hop => by simp at hop; rw [hop]; exact hx.1) (fun i a _ op hop b hb _ => (hnt op (by simp at hop ⊢; exact .inl hop) b hb).elim))
      (fun op hop => by simp at hop; rw [hop]; exact hy.1) (fun i a _ op hop b hb _ => (hnt op (by simp at hop ⊢; exact .inr hop) b hb).elim)
  · obtain ⟨hi, ha'⟩ := old ha
    rcases h.cov i a ha' hm with h1 | h1 | ⟨k, hk, h1, h2⟩
    · exact .inl (h1.app _)
    · exact .inr (.inl h1)
    · exact .inr (.inr ⟨k, by omega, by rw [g?_old hi]; exact h1, h2⟩)
  · obtain ⟨a, ha, ha2⟩ := hct
    obtain ⟨hlt, ha'⟩ := old ha
    rcases h.ho i g (by rw [← g?_old (u := #[x, y]) hlt]; exact hi) hne ((counts_old hlt).1 ⟨a, ha, ha2⟩) with ⟨q, h1, h2⟩ | ⟨k, hk, h1⟩
    · exact .inl ⟨q, by rw [g?_old (g?_lt h1)]; exact h1, hb_app _ h2⟩
    · exact .inr ⟨k, by omega, h1⟩
  · rcases Array.mem_append.1 hop with h1 | h1
    · exact h.seen op h1
    · simp only [List.mem_toArray, List.mem_cons, List.not_mem_nil, or_false] at h1
      rcases h1 with rfl | rfl
      · rw [hx.2]; trivial
      · rw [hy.2]; trivial

/-- The beginning: a frame. -/
theorem TL.init (hP : Past Shun B t) (hM : ∀ l, M 0 l → ¬ Shun l ∧ l.isMemory = true) (hRo : ∀ l, Ro l → ¬ Shun l ∧ l.isMemory = true) (hSh : ∀ l, Sh l → ¬ Shun l ∧ l.isMemory = true) : TL Sh Ro Shun c 0 M B t := by
  have kn : ∀ i a, touchAt t i = some a → ¬ Shun a.loc ∧ a.loc.isMemory = true → Knows t 0 i := fun i a ha h => (hP.known i a ha h.2).resolve_right fun h' => h.1 h'.1
  have l0 : ∀ g, Live c 0 g → g = 0 := fun g hg => hg.elim id fun ⟨k, hk, _⟩ => by omega
  refine ⟨fun i x hx hs => .inr fun g hg => ?_, fun g hg l hl i a ha e => ?_, fun g hg l hl i a ha e _ => ?_, hP.clean, fun i x hx hm => ?_, fun i g hi hne hc => .inl ?_, hP.seen⟩
  · rw [l0 g hg]; exact kn i x hx (hSh _ hs)
  · obtain rfl := l0 g hg; exact kn i a ha (e ▸ hM l hl)
  · rw [l0 g hg]; exact kn i a ha (e ▸ hRo l hl)
  · exact (hP.known i x hx hm).imp id .inl
  · exact hP.over i g hi hne hc

/-- The end: a frame; the group's cells shunned from now on. -/
theorem TL.past {a : Addr} {q : Nat} (h : TL Sh Ro Shun c j M B t) (hd : Deaf t 0 = 0) (hn : NoRelease a t) (hq : t.act? q = some (.mark (.acquire a))) (hg : t.g? q = some 0) (hh : t.heard q)
    (hr : ∀ k, k < j → ∃ r, RelBy a t (c + k) r ∧ r < q) : Past (fun l => Shun l ∨ Sh l) B t := by
  have edge : ∀ k, k < j → ∀ i, t.g? i = some (c + k) → (∃ r, RelBy a t (c + k) r ∧ r < q ∧ r < i) ∨ HappensBefore t i q := fun k hk i hi => by
    obtain ⟨r, hr, hrq⟩ := hr k hk
    have e : HappensBefore t r q := .single (.inr ⟨.marked hrq (.inr hr.act) hq (fun k _ _ => hn k), hr.heard, hh⟩)
    rcases Nat.lt_trichotomy i r with hlt | rfl | hgt
    · exact .inr (.trans (.single (.inl ⟨hlt, c + k, hi, hr.g⟩)) e)
    · exact .inr e
    · exact .inl ⟨r, hr, hrq, hgt⟩
  obtain ⟨z, hz, hzg⟩ := Option.map_eq_some_iff.1 hg
  refine ⟨h.nr, fun i x hx hm => ?_, fun i g hi hne hc => ?_, hd, h.seen⟩
  · rcases h.cov i x hx hm with h1 | ⟨h1, h2⟩ | ⟨k, hk, hi, h1⟩
    · exact .inl h1
    · exact .inr ⟨.inl h1, h2⟩
    · rcases edge k hk i hi with ⟨r, hr, _, hlt⟩ | e
      · have hnc := hr.after i hlt hi
        have hkind : x.kind = .atomic := by
          by_cases hk : x.kind = .atomic
          · exact hk
          · exact absurd ⟨x, hx, hm, .inl hk⟩ hnc
        exact .inr ⟨.inr (h1 hkind), hkind⟩
      · exact .inl ⟨q, z, hz, hzg, .inr e⟩
  · rcases h.ho i g hi hne hc with h1 | ⟨k, hk, rfl⟩
    · exact h1
    · rcases edge k hk i hi with ⟨r, hr, _, hlt⟩ | e
      · exact absurd hc (hr.after i hlt hi)
      · exact ⟨q, hg, e⟩
end
end Go.Proofs.Ytfecdmenliohhaa
