/- From a call of ForestsShared to the head of sharedWork's loop, or back where it fails. (Printed by mkFsA.py.). -/
import Derived.Test.YtfecdmenliohhaaQLe27
import Derived.Test.YtfecdmenliohhaaQLe10
import Derived.Test.YtfecdmenliohhaaQLe29
set_option linter.unusedVariables false
set_option linter.unusedSimpArgs false
set_option linter.unusedSimpArgs false
set_option linter.unusedVariables false
namespace Go.Proofs.Ytfecdmenliohhaa
open Go Go.Conc Go.ConcN Go.RowKit Go.Conc.Lib Go.ConcR.Gen Go.ConcN.Gen
open Go.ConcR (Payload DC0 WgAt)

theorem nmFS : (Try.f11.name == "runtime.NumGoroutine") = false := by kernel_rfl
theorem nmSW : (Try.f35.name == "runtime.NumGoroutine") = false := by kernel_rfl

noncomputable def opsF : Array Oper := match Try.f11.body with | some (.seq _ (.seq _ (.seq _ (.seq (.region _ ops _) _)))) => ops | _ => #[]
noncomputable def restF : Code := match Try.f11.body with | some (.seq _ (.seq _ (.seq _ (.seq _ c)))) => c | _ => .skip
abbrev cellsFS (la : Option Addr) (lc m : Nat) (n workers : Int) (nb lb ob Cb nB wB dB Wg : Nat) : List (Nat × Obj) :=
  [(Wg, .cells #[.int .u64 0, .int .u32 0] 73 (0, 0)), (dB, .cells #[.func (.func 36) #[] #[.pointer (some ⟨nb, 0, none⟩), .pointer (some ⟨lb, 0, none⟩), .pointer (some ⟨ob, 0, none⟩)]] 54 (0, 0)), (wB, .cells #[.int .i64 workers] 2 (0, 0)), (nB, .cells #[.int .i64 (m : Int)] 3 (0, 0)),
   (ob, .cells #[.slice (some ⟨Cb, 0, none⟩) m m] 25 (0, 0)), (Cb, .cells (madeCells #[.int .i64 0] m) 2 (0, 0)), (lb, .cells #[.slice la m lc] 31 (0, 0)), (nb, .cells #[.int .i64 n] 2 (0, 0))]
/-- At the head of sharedWork's loop. -/
structure FsAt (w0 : World) (la : Option Addr) (lc m : Nat) (n workers : Int) (S : OwnB) (w : World) (T TF : Array Value) (nb lb ob Cb nB wB dB Wg : Nat) : Prop where
  t17 : T.size = 17
  t3 : T[3]? = some (.pointer (some ⟨nB, 0, none⟩))
  t4 : T[4]? = some (.pointer (some ⟨wB, 0, none⟩))
  t5 : T[5]? = some (.pointer (some ⟨dB, 0, none⟩))
  t6 : T[6]? = some (.pointer (some ⟨Wg, 0, none⟩))
  t9 : T[9]? = some (.int .i64 workers)
  t10 : T[10]? = some (.int .i64 0)
  tf : TF.size = 36
  tf8 : TF[8]? = some (.pointer (some ⟨ob, 0, none⟩))
  fs : FSt w0 (cellsFS la lc m n workers nb lb ob Cb nB wB dB Wg) S w
  ord : w0.heap.size ≤ nb ∧ nb < lb ∧ lb < Cb ∧ Cb < ob ∧ ob < nB ∧ nB < wB ∧ wB < dB ∧ dB < Wg

section
variable {w0 : World} {Rd0 : Nat → Prop} {S : OwnB} {Stop : OwnB → Goroutine → World → Prop} {la : Option Addr} {lc : Nat} {hs : List Hd} {xss : List (List Int)} {n workers : Int} {b : Frame} {cs : List Frame} {k : List Item} {ops : Array Oper} {ix : Nat} {rest : List Nat} {o : Oper} {a : Act}

set_option maxRecDepth 100000 in
set_option maxHeartbeats 8000000 in
theorem fsHead (h0 : Rd2 (Value.int .i64) w0 la lc hs xss) (hrd : ∀ b, inL la hs xss [] b → Rd0 b) (hRl : ∀ b, Rd0 b → b < w0.heap.size) {args : Array Operand} {ats : Array TypeId}
    (ho : ops[ix]? = some o) (hw : Region.wanted o (yielded ops a.tmps) = true) (hk : b.kind ≠ .early) (hop : o.op = .call { callee := .value (.func 11), args, argTypes := ats }) (hargs : args.map a.eval = #[.int .i64 n, .slice la xss.length lc, .int .i64 workers])
    {w : World} (hF : FSt w0 [] S w)
    (hYes : ∀ S' w' T TF nb lb ob Cb nB wB dB Wg, fsOk n xss workers = true → (∀ b, S b → S' b) → FsAt w0 la lc xss.length n workers S' w' T TF nb lb ob Cb nB wB dB Wg → GG Try.prog true RL (GL Rd0) Stop S' (G ((base 35).at ⟨T, []⟩ [.code loopS, .inLoop loopS, .inBlock 0, .code lastS]) ((base 11).at ⟨TF, []⟩ [.inRegion opsF [4], .code restF] :: b.at a (.inRegion ops (ix :: rest) :: k) :: cs)) w')
    (hNo : ∀ S' w', fsOk n xss workers = false → (∀ b, S b → S' b) → FSt w0 [] S' w' → GG Try.prog true RL (GL Rd0) Stop S' (G (b.at (a.put o.dst (.tuple #[.slice none 0 0, .bool false])) (.inRegion ops rest :: k)) cs) w')
    : GG Try.prog true RL (GL Rd0) Stop S (G (b.at a (.inRegion ops (ix :: rest) :: k)) cs) w := by
  obtain ⟨bo, ebo⟩ : ∃ B, B = fsOk n xss workers := ⟨_, rfl⟩
  refine .goes rfl fun w₁ h₁ => goes_call ho hw hk hop Try.func11 nmFS rfl ⟨S, .idle S _, ?_⟩
  replace hF := hF.rl h₁
  clear h₁
  rw [hargs]
  have hnt : (Try.f11).ntmps = 36 := rfl
  simp only [hnt]
  walk_nrm
  refine stretchL (F := FSt w0 [] S) (n := 60) (fun _ d h => h.at d) ?_
  u_c stepG_seq fl4 hF
  u_reg fl4 hF
  refine Goes.stop fun w₂ h₁ => ?_
  replace hF := fl4 hF h₁
  clear h₁
  refine GG.goes rfl fun w₃ h₁ => ?_
  replace hF := hF.rl h₁
  clear h₁
  refine goes_oper_k rfl rfl (by decide) (fun K hK => ?_)
  go_simp
  refine hK _ _ ⟨_, GL.new _, ?_⟩
  clear hK K
  have hlnb : ∀ x ∈ ([] : List (Nat × Obj)), x.1 < w₃.heap.size := fun x hx => (hF.bnd _ (hF.blk x hx).2.2).2
  replace hF := hF.alloc (.cells #[.int .i64 n] 2 (0, 0))
  obtain ⟨nb, enb⟩ : ∃ n, n = w₃.heap.size := ⟨_, rfl⟩
  rw [← enb] at hF hlnb ⊢
  have hnb : w0.heap.size ≤ nb := (hF.blk _ (List.mem_cons_self ..)).2.1
  clear enb
  obtain ⟨S₁, eS₁⟩ : ∃ s : OwnB, s = (fun b => S b ∨ b = nb) := ⟨_, rfl⟩
  rw [← eS₁] at hF ⊢
  refine GG.goes rfl fun w₄ h₁ => ?_
  replace hF := hF.rl h₁
  clear h₁
  refine goes_oper_k rfl rfl (by decide) (fun K hK => ?_)
  go_simp
  refine hK _ _ ⟨_, GL.new _, ?_⟩
  clear hK K
  have hllb : ∀ x ∈ [(nb, Obj.cells #[.int .i64 n] 2 (0, 0))], x.1 < w₄.heap.size := fun x hx => (hF.bnd _ (hF.blk x hx).2.2).2
  replace hF := hF.alloc (.cells #[.slice la xss.length lc] 31 (0, 0))
  obtain ⟨lb, elb⟩ : ∃ n, n = w₄.heap.size := ⟨_, rfl⟩
  rw [← elb] at hF hllb ⊢
  have hlb : w0.heap.size ≤ lb := (hF.blk _ (List.mem_cons_self ..)).2.1
  clear elb
  obtain ⟨S₂, eS₂⟩ : ∃ s : OwnB, s = (fun b => S₁ b ∨ b = lb) := ⟨_, rfl⟩
  rw [← eS₂] at hF ⊢
  refine stretchL (F := FSt w0 [(lb, .cells #[.slice la xss.length lc] 31 (0, 0)), (nb, .cells #[.int .i64 n] 2 (0, 0))] S₂) (n := 60) (fun _ d h => h.at d) ?_
  u_op fl4 hF
  u_op fl4 hF
  u_c stepG_region_end fl4 hF
  u_c stepG_seq fl4 hF
  u_c stepG_seq fl4 hF
  u_reg fl4 hF
  refine Goes.stop fun w₅ h₁ => ?_
  replace hF := fl4 hF h₁
  clear h₁
  refine GG.goes rfl fun w₆ h₁ => ?_
  replace hF := hF.rl h₁
  clear h₁
  refine goes_oper_k rfl rfl (by decide) (fun K hK => ?_)
  obtain ⟨hc, hfr, hown⟩ := hF.cell (n := lb) (v := .slice la xss.length lc) (e := 31) (by simp)
  go_simp
  refine hK _ _ ⟨_, GL.readAt (a := ⟨lb, 0, none⟩) (.inr hown) fun e he => ?_, ?_⟩
  · have hm' := mem_listed he
    simp [go_sem, hc] at hm'
    exact hm'
  clear hK K hc hfr hown
  refine stretchL (F := FSt w0 [(lb, .cells #[.slice la xss.length lc] 31 (0, 0)), (nb, .cells #[.int .i64 n] 2 (0, 0))] S₂) (n := 60) (fun _ d h => h.at d) ?_
  u_op fl4 hF
  refine Goes.stop fun w₇ h₁ => ?_
  replace hF := fl4 hF h₁
  clear h₁
  have hmono : ∀ b, S b → S₂ b := fun b hb => by rw [eS₂, eS₁]; exact .inl (.inl hb)
  by_cases h8 : xss.length ≤ 8
  case neg =>
    have q1 : decide ((8 : Int) < (xss.length : Int)) = true := decide_eq_true (by omega)
    refine stretchL (F := FSt w0 [(lb, .cells #[.slice la xss.length lc] 31 (0, 0)), (nb, .cells #[.int .i64 n] 2 (0, 0))] S₂) (n := 60) (fun _ d h => h.at d) ?_
    u_op fl4 hF
    u_op fl4 hF
    u_skip fl4 hF
    u_skip fl4 hF
    u_skip fl4 hF
    u_op fl4 hF
    u_op fl4 hF
    u_skip fl4 hF
    u_skip fl4 hF
    u_skip fl4 hF
    u_op fl4 hF
    u_op fl4 hF
    u_skip fl4 hF
    u_skip fl4 hF
    u_skip fl4 hF
    u_op fl4 hF
    refine Goes.stop fun w₈ h₁ => ?_
    replace hF := fl4 hF h₁
    clear h₁
    refine stretchL (F := FSt w0 [(lb, .cells #[.slice la xss.length lc] 31 (0, 0)), (nb, .cells #[.int .i64 n] 2 (0, 0))] S₂) (n := 60) (fun _ d h => h.at d) ?_
    u_c stepG_region_end fl4 hF
    u_cond true fl4 hF
    u_c stepG_seq fl4 hF
    u_reg fl4 hF
    u_op fl4 hF
    u_op fl4 hF
    u_c stepG_region_end fl4 hF
    u_c stepG_ret' fl4 hF
    refine Goes.stop fun wt h₁ => ?_
    replace hF := fl4 hF h₁
    clear h₁
    refine GG.leave2 GL.idle RL.trans rfl rfl Try.func11 rfl ?_
    simp only [ho, Option.bind_some]
    exact hNo _ _ (by simp [fsOk, *]) (by first | exact hmono | exact fun b hb => hm2 b (hmono b hb) | exact fun b hb => hm3 b (hm2 b (hmono b hb)) | exact fun b hb => hm4 b (hm3 b (hm2 b (hmono b hb)))) (hF.sub (fun x hx => by simp at hx))
  case pos =>
    have q1 : decide ((8 : Int) < (xss.length : Int)) = false := decide_eq_false (by omega)
    refine stretchL (F := FSt w0 [(lb, .cells #[.slice la xss.length lc] 31 (0, 0)), (nb, .cells #[.int .i64 n] 2 (0, 0))] S₂) (n := 60) (fun _ d h => h.at d) ?_
    u_op fl4 hF
    u_op fl4 hF
    refine Goes.stop fun w₈ h₁ => ?_
    replace hF := fl4 hF h₁
    clear h₁
    refine GG.goes rfl fun w₉ h₁ => ?_
    replace hF := hF.rl h₁
    clear h₁
    refine goes_oper_k rfl rfl (by decide) (fun K hK => ?_)
    obtain ⟨hc, hfr, hown⟩ := hF.cell (n := nb) (v := .int .i64 n) (e := 2) (by simp)
    go_simp
    refine hK _ _ ⟨_, GL.readAt (a := ⟨nb, 0, none⟩) (.inr hown) fun e he => ?_, ?_⟩
    · have hm' := mem_listed he
      simp [go_sem, hc] at hm'
      exact hm'
    clear hK K hc hfr hown
    cases hn : inR n 2 32 with
    | false =>
      refine callB (bq := false) (xv := #[.int .i64 n, .int .i64 2, .int .i64 32]) (by decide) rfl rfl (by decide) rfl Try.func31 (by kernel_rfl) rfl hF hRl (lok_nil _) (fun b hb => (inL_nil b hb).elim) (fun T d => (within_any n 2 32 _).mono fun _ _ h => h.1.trans (by rw [hn])) (fun Ro => asame_const (by simp [Act.eval]) (by simp [constOk])) ?_
      clear hF
      intro S₃ wa hm2 hF
      walk_nrm
      refine stretchL (F := FSt w0 [(lb, .cells #[.slice la xss.length lc] 31 (0, 0)), (nb, .cells #[.int .i64 n] 2 (0, 0))] S₃) (n := 60) (fun _ d h => h.at d) ?_
      u_op fl4 hF
      u_op fl4 hF
      u_op fl4 hF
      u_skip fl4 hF
      u_skip fl4 hF
      u_skip fl4 hF
      u_op fl4 hF
      u_op fl4 hF
      u_skip fl4 hF
      u_skip fl4 hF
      u_skip fl4 hF
      u_op fl4 hF
      refine Goes.stop fun wb h₁ => ?_
      replace hF := fl4 hF h₁
      clear h₁
      refine stretchL (F := FSt w0 [(lb, .cells #[.slice la xss.length lc] 31 (0, 0)), (nb, .cells #[.int .i64 n] 2 (0, 0))] S₃) (n := 60) (fun _ d h => h.at d) ?_
      u_c stepG_region_end fl4 hF
      u_cond true fl4 hF
      u_c stepG_seq fl4 hF
      u_reg fl4 hF
      u_op fl4 hF
      u_op fl4 hF
      u_c stepG_region_end fl4 hF
      u_c stepG_ret' fl4 hF
      refine Goes.stop fun wt h₁ => ?_
      replace hF := fl4 hF h₁
      clear h₁
      refine GG.leave2 GL.idle RL.trans rfl rfl Try.func11 rfl ?_
      simp only [ho, Option.bind_some]
      exact hNo _ _ (by simp [fsOk, *]) (by first | exact hmono | exact fun b hb => hm2 b (hmono b hb) | exact fun b hb => hm3 b (hm2 b (hmono b hb)) | exact fun b hb => hm4 b (hm3 b (hm2 b (hmono b hb)))) (hF.sub (fun x hx => by simp at hx))
    | true =>
      refine callB (bq := true) (xv := #[.int .i64 n, .int .i64 2, .int .i64 32]) (by decide) rfl rfl (by decide) rfl Try.func31 (by kernel_rfl) rfl hF hRl (lok_nil _) (fun b hb => (inL_nil b hb).elim) (fun T d => (within_any n 2 32 _).mono fun _ _ h => h.1.trans (by rw [hn])) (fun Ro => asame_const (by simp [Act.eval]) (by simp [constOk])) ?_
      clear hF
      intro S₃ wa hm2 hF
      walk_nrm
      refine stretchL (F := FSt w0 [(lb, .cells #[.slice la xss.length lc] 31 (0, 0)), (nb, .cells #[.int .i64 n] 2 (0, 0))] S₃) (n := 60) (fun _ d h => h.at d) ?_
      u_op fl4 hF
      u_op fl4 hF
      u_op fl4 hF
      u_op fl4 hF
      refine Goes.stop fun wb h₁ => ?_
      replace hF := fl4 hF h₁
      clear h₁
      cases hwk : inR workers 1 8 with
      | false =>
        refine callB (bq := false) (xv := #[.int .i64 workers]) (by decide) rfl rfl (by decide) rfl Try.func32 (by kernel_rfl) rfl hF hRl (lok_nil _) (fun b hb => (inL_nil b hb).elim) (fun T d => (areWorkers_any workers _).mono fun _ _ h => h.1.trans (by rw [hwk])) (fun Ro => asame_const (by simp [Act.eval]) (by simp [constOk])) ?_
        clear hF
        intro S₄ wc hm3 hF
        walk_nrm
        refine stretchL (F := FSt w0 [(lb, .cells #[.slice la xss.length lc] 31 (0, 0)), (nb, .cells #[.int .i64 n] 2 (0, 0))] S₄) (n := 60) (fun _ d h => h.at d) ?_
        u_op fl4 hF
        u_op fl4 hF
        u_op fl4 hF
        u_skip fl4 hF
        u_skip fl4 hF
        u_skip fl4 hF
        u_op fl4 hF
        refine Goes.stop fun wd h₁ => ?_
        replace hF := fl4 hF h₁
        clear h₁
        refine stretchL (F := FSt w0 [(lb, .cells #[.slice la xss.length lc] 31 (0, 0)), (nb, .cells #[.int .i64 n] 2 (0, 0))] S₄) (n := 60) (fun _ d h => h.at d) ?_
        u_c stepG_region_end fl4 hF
        u_cond true fl4 hF
        u_c stepG_seq fl4 hF
        u_reg fl4 hF
        u_op fl4 hF
        u_op fl4 hF
        u_c stepG_region_end fl4 hF
        u_c stepG_ret' fl4 hF
        refine Goes.stop fun wt h₁ => ?_
        replace hF := fl4 hF h₁
        clear h₁
        refine GG.leave2 GL.idle RL.trans rfl rfl Try.func11 rfl ?_
        simp only [ho, Option.bind_some]
        exact hNo _ _ (by simp [fsOk, *]) (by first | exact hmono | exact fun b hb => hm2 b (hmono b hb) | exact fun b hb => hm3 b (hm2 b (hmono b hb)) | exact fun b hb => hm4 b (hm3 b (hm2 b (hmono b hb)))) (hF.sub (fun x hx => by simp at hx))
      | true =>
        refine callB (bq := true) (xv := #[.int .i64 workers]) (by decide) rfl rfl (by decide) rfl Try.func32 (by kernel_rfl) rfl hF hRl (lok_nil _) (fun b hb => (inL_nil b hb).elim) (fun T d => (areWorkers_any workers _).mono fun _ _ h => h.1.trans (by rw [hwk])) (fun Ro => asame_const (by simp [Act.eval]) (by simp [constOk])) ?_
        clear hF
        intro S₄ wc hm3 hF
        walk_nrm
        refine stretchL (F := FSt w0 [(lb, .cells #[.slice la xss.length lc] 31 (0, 0)), (nb, .cells #[.int .i64 n] 2 (0, 0))] S₄) (n := 60) (fun _ d h => h.at d) ?_
        u_op fl4 hF
        u_op fl4 hF
        u_op fl4 hF
        refine Goes.stop fun wd h₁ => ?_
        replace hF := fl4 hF h₁
        clear h₁
        refine GG.goes rfl fun we h₁ => ?_
        replace hF := hF.rl h₁
        clear h₁
        refine goes_oper_k rfl rfl (by decide) (fun K hK => ?_)
        obtain ⟨hc, hfr, hown⟩ := hF.cell (n := lb) (v := .slice la xss.length lc) (e := 31) (by simp)
        go_simp
        refine hK _ _ ⟨_, GL.readAt (a := ⟨lb, 0, none⟩) (.inr hown) fun e he => ?_, ?_⟩
        · have hm' := mem_listed he
          simp [go_sem, hc] at hm'
          exact hm'
        clear hK K hc hfr hown
        refine stretchL (F := FSt w0 [(lb, .cells #[.slice la xss.length lc] 31 (0, 0)), (nb, .cells #[.int .i64 n] 2 (0, 0))] S₄) (n := 60) (fun _ d h => h.at d) ?_
        u_op fl4 hF
        refine Goes.stop fun wf h₁ => ?_
        replace hF := fl4 hF h₁
        clear h₁
        have hL := lok_box h0 hF (nb := nb) (n := n) (e := 2) (by simp)
        have hown := (hF.cell (n := nb) (v := .int .i64 n) (e := 2) (by simp)).2.2
        cases hbe : badE n xss with
        | false =>
          skip
          refine callB (bq := false) (xv := #[.slice (seenA GB0 0 la) xss.length lc, .func (.func 34) #[] #[.pointer (some ⟨GB0 + (1 + hs.length + 0), 0, none⟩)]]) (by decide) rfl rfl (by decide) rfl Try.func33 (by kernel_rfl) rfl hF hRl hL (fun b hb => (inL_box hb).elim (fun h => .inl (hrd b h)) fun e => .inr (by rw [e]; exact hown)) (fun T d => (containsFS_any (n := n) (lvs_rd2 hL) (lvs_cell0 hL (i := 0) rfl)).mono fun _ _ h => h.1.trans (by rw [hbe])) (fun Ro => asame_two (by simp [Act.eval]) (lvs_arg hL) (ASame.func (show LF.contains 34 = true by decide) .empty (.one (lvs_ptr hL (i := 0) rfl)))) ?_
          clear hF
          intro S₅ wg hm4 hF
          walk_nrm
          refine stretchL (F := FSt w0 [(lb, .cells #[.slice la xss.length lc] 31 (0, 0)), (nb, .cells #[.int .i64 n] 2 (0, 0))] S₅) (n := 60) (fun _ d h => h.at d) ?_
          u_op fl4 hF
          u_c stepG_region_end fl4 hF
          u_cond false fl4 hF
          u_c stepG_skip fl4 hF
          u_c stepG_seq fl4 hF
          u_reg fl4 hF
          refine Goes.stop fun wh h₁ => ?_
          replace hF := fl4 hF h₁
          clear h₁
          refine GG.goes rfl fun wi h₁ => ?_
          replace hF := hF.rl h₁
          clear h₁
          refine goes_oper_k rfl rfl (by decide) (fun K hK => ?_)
          obtain ⟨hc, hfr, hown⟩ := hF.cell (n := lb) (v := .slice la xss.length lc) (e := 31) (by simp)
          go_simp
          refine hK _ _ ⟨_, GL.readAt (a := ⟨lb, 0, none⟩) (.inr hown) fun e he => ?_, ?_⟩
          · have hm' := mem_listed he
            simp [go_sem, hc] at hm'
            exact hm'
          clear hK K hc hfr hown
          refine stretchL (F := FSt w0 [(lb, .cells #[.slice la xss.length lc] 31 (0, 0)), (nb, .cells #[.int .i64 n] 2 (0, 0))] S₅) (n := 60) (fun _ d h => h.at d) ?_
          u_op fl4 hF
          refine Goes.stop fun wj h₁ => ?_
          replace hF := fl4 hF h₁
          clear h₁
          refine GG.goes rfl fun wk h₁ => ?_
          replace hF := hF.rl h₁
          clear h₁
          refine goes_oper_k rfl rfl (by decide) (fun K hK => ?_)
          have hms := mk8 h8 wk
          have hme := mk8e h8 wk
          go_simp
          refine hK _ _ ⟨_, GL.new' _ ?_, ?_⟩
          · unfold listed
            simp [go_sem, execOp, hme, Act.eval]
            exact seen_none _ _
          clear hK K hms hme
          have hlCb : ∀ x ∈ ([(lb, .cells #[.slice la xss.length lc] 31 (0, 0)), (nb, .cells #[.int .i64 n] 2 (0, 0))] : List (Nat × Obj)), x.1 < wk.heap.size := fun x hx => (hF.bnd _ (hF.blk x hx).2.2).2
          replace hF := hF.alloc (.cells (madeCells #[.int .i64 0] xss.length) 2 (0, 0))
          obtain ⟨Cb, eCb⟩ : ∃ n, n = wk.heap.size := ⟨_, rfl⟩
          rw [← eCb] at hF hlCb ⊢
          obtain ⟨S₆, eS₆⟩ : ∃ s : OwnB, s = (fun b => S₅ b ∨ b = Cb) := ⟨_, rfl⟩
          rw [← eS₆] at hF ⊢
          clear eCb
          refine GG.goes rfl fun wl h₁ => ?_
          replace hF := hF.rl h₁
          clear h₁
          refine goes_oper_k rfl rfl (by decide) (fun K hK => ?_)
          go_simp
          refine hK _ _ ⟨_, GL.new _, ?_⟩
          clear hK K
          have hlob : ∀ x ∈ ([(Cb, .cells (madeCells #[.int .i64 0] xss.length) 2 (0, 0)), (lb, .cells #[.slice la xss.length lc] 31 (0, 0)), (nb, .cells #[.int .i64 n] 2 (0, 0))] : List (Nat × Obj)), x.1 < wl.heap.size := fun x hx => (hF.bnd _ (hF.blk x hx).2.2).2
          replace hF := hF.alloc (.cells #[.slice none 0 0] 25 (0, 0))
          obtain ⟨ob, eob⟩ : ∃ n, n = wl.heap.size := ⟨_, rfl⟩
          rw [← eob] at hF hlob ⊢
          have hob : w0.heap.size ≤ ob := (hF.blk _ (List.mem_cons_self ..)).2.1
          clear eob
          obtain ⟨S₇, eS₇⟩ : ∃ s : OwnB, s = (fun b => S₆ b ∨ b = ob) := ⟨_, rfl⟩
          rw [← eS₇] at hF ⊢
          refine GG.goes rfl fun wm h₁ => ?_
          replace hF := hF.rl h₁
          clear h₁
          refine goes_oper_k rfl rfl (by decide) (fun K hK => ?_)
          obtain ⟨hc, hfr, hown2⟩ := hF.cell (n := ob) (v := .slice none 0 0) (e := 25) (by simp)
          go_simp
          refine hK _ _ ⟨_, GL.put hown2 fun e he => ?_, ?_⟩
          · have hm' := mem_listed he
            simp [go_sem, storedEv, hc, hfr] at hm'
            exact hm'
          clear hK K hc hfr hown2
          replace hF := hF.put1 (v' := .slice (some ⟨Cb, 0, none⟩) xss.length xss.length) (fun x hx => Nat.ne_of_lt (hlob x hx))
          refine stretchL (F := FSt w0 [(ob, .cells #[.slice (some ⟨Cb, 0, none⟩) xss.length xss.length] 25 (0, 0)), (Cb, .cells (madeCells #[.int .i64 0] xss.length) 2 (0, 0)), (lb, .cells #[.slice la xss.length lc] 31 (0, 0)), (nb, .cells #[.int .i64 n] 2 (0, 0))] S₇) (n := 60) (fun _ d h => h.at d) ?_
          u_c stepG_region_end fl4 hF
          u_c stepG_seq fl4 hF
          u_reg fl4 hF
          refine Goes.stop fun wn h₁ => ?_
          replace hF := fl4 hF h₁
          clear h₁
          refine GG.goes rfl fun wo h₁ => ?_
          replace hF := hF.rl h₁
          clear h₁
          refine goes_oper_k rfl rfl (by decide) (fun K hK => ?_)
          obtain ⟨hc, hfr, hown⟩ := hF.cell (n := lb) (v := .slice la xss.length lc) (e := 31) (by simp)
          go_simp
          refine hK _ _ ⟨_, GL.readAt (a := ⟨lb, 0, none⟩) (.inr hown) fun e he => ?_, ?_⟩
          · have hm' := mem_listed he
            simp [go_sem, hc] at hm'
            exact hm'
          clear hK K hc hfr hown
          refine stretchL (F := FSt w0 [(ob, .cells #[.slice (some ⟨Cb, 0, none⟩) xss.length xss.length] 25 (0, 0)), (Cb, .cells (madeCells #[.int .i64 0] xss.length) 2 (0, 0)), (lb, .cells #[.slice la xss.length lc] 31 (0, 0)), (nb, .cells #[.int .i64 n] 2 (0, 0))] S₇) (n := 60) (fun _ d h => h.at d) ?_
          u_op fl4 hF
          u_op fl4 hF
          u_op fl4 hF
          u_call Try.func35 nmSW Try.f35 fl4 hF
          u_c stepG_seq fl4 hF
          u_reg fl4 hF
          refine Goes.stop fun wp h₁ => ?_
          replace hF := fl4 hF h₁
          clear h₁
          refine GG.goes rfl fun wq h₁ => ?_
          replace hF := hF.rl h₁
          clear h₁
          refine goes_oper_k rfl rfl (by decide) (fun K hK => ?_)
          go_simp
          refine hK _ _ ⟨_, GL.new _, ?_⟩
          clear hK K
          have hlnB : ∀ x ∈ ([(ob, .cells #[.slice (some ⟨Cb, 0, none⟩) xss.length xss.length] 25 (0, 0)), (Cb, .cells (madeCells #[.int .i64 0] xss.length) 2 (0, 0)), (lb, .cells #[.slice la xss.length lc] 31 (0, 0)), (nb, .cells #[.int .i64 n] 2 (0, 0))] : List (Nat × Obj)), x.1 < wq.heap.size := fun x hx => (hF.bnd _ (hF.blk x hx).2.2).2
          replace hF := hF.alloc (.cells #[.int .i64 (xss.length : Int)] 3 (0, 0))
          obtain ⟨nB, enB⟩ : ∃ n, n = wq.heap.size := ⟨_, rfl⟩
          rw [← enB] at hF hlnB ⊢
          have hnB : w0.heap.size ≤ nB := (hF.blk _ (List.mem_cons_self ..)).2.1
          clear enB
          obtain ⟨S₈, eS₈⟩ : ∃ s : OwnB, s = (fun b => S₇ b ∨ b = nB) := ⟨_, rfl⟩
          rw [← eS₈] at hF ⊢
          refine GG.goes rfl fun wr h₁ => ?_
          replace hF := hF.rl h₁
          clear h₁
          refine goes_oper_k rfl rfl (by decide) (fun K hK => ?_)
          go_simp
          refine hK _ _ ⟨_, GL.new _, ?_⟩
          clear hK K
          have hlwB : ∀ x ∈ ([(nB, .cells #[.int .i64 (xss.length : Int)] 3 (0, 0)), (ob, .cells #[.slice (some ⟨Cb, 0, none⟩) xss.length xss.length] 25 (0, 0)), (Cb, .cells (madeCells #[.int .i64 0] xss.length) 2 (0, 0)), (lb, .cells #[.slice la xss.length lc] 31 (0, 0)), (nb, .cells #[.int .i64 n] 2 (0, 0))] : List (Nat × Obj)), x.1 < wr.heap.size := fun x hx => (hF.bnd _ (hF.blk x hx).2.2).2
          replace hF := hF.alloc (.cells #[.int .i64 workers] 2 (0, 0))
          obtain ⟨wB, ewB⟩ : ∃ n, n = wr.heap.size := ⟨_, rfl⟩
          rw [← ewB] at hF hlwB ⊢
          have hwB : w0.heap.size ≤ wB := (hF.blk _ (List.mem_cons_self ..)).2.1
          clear ewB
          obtain ⟨S₉, eS₉⟩ : ∃ s : OwnB, s = (fun b => S₈ b ∨ b = wB) := ⟨_, rfl⟩
          rw [← eS₉] at hF ⊢
          refine GG.goes rfl fun ws h₁ => ?_
          replace hF := hF.rl h₁
          clear h₁
          refine goes_oper_k rfl rfl (by decide) (fun K hK => ?_)
          go_simp
          refine hK _ _ ⟨_, GL.new _, ?_⟩
          clear hK K
          have hldB : ∀ x ∈ ([(wB, .cells #[.int .i64 workers] 2 (0, 0)), (nB, .cells #[.int .i64 (xss.length : Int)] 3 (0, 0)), (ob, .cells #[.slice (some ⟨Cb, 0, none⟩) xss.length xss.length] 25 (0, 0)), (Cb, .cells (madeCells #[.int .i64 0] xss.length) 2 (0, 0)), (lb, .cells #[.slice la xss.length lc] 31 (0, 0)), (nb, .cells #[.int .i64 n] 2 (0, 0))] : List (Nat × Obj)), x.1 < ws.heap.size := fun x hx => (hF.bnd _ (hF.blk x hx).2.2).2
          replace hF := hF.alloc (.cells #[.func (.func 36) #[] #[.pointer (some ⟨nb, 0, none⟩), .pointer (some ⟨lb, 0, none⟩), .pointer (some ⟨ob, 0, none⟩)]] 54 (0, 0))
          obtain ⟨dB, edB⟩ : ∃ n, n = ws.heap.size := ⟨_, rfl⟩
          rw [← edB] at hF hldB ⊢
          have hdB : w0.heap.size ≤ dB := (hF.blk _ (List.mem_cons_self ..)).2.1
          clear edB
          obtain ⟨S₁₀, eS₁₀⟩ : ∃ s : OwnB, s = (fun b => S₉ b ∨ b = dB) := ⟨_, rfl⟩
          rw [← eS₁₀] at hF ⊢
          refine stretchL (F := FSt w0 [(dB, .cells #[.func (.func 36) #[] #[.pointer (some ⟨nb, 0, none⟩), .pointer (some ⟨lb, 0, none⟩), .pointer (some ⟨ob, 0, none⟩)]] 54 (0, 0)), (wB, .cells #[.int .i64 workers] 2 (0, 0)), (nB, .cells #[.int .i64 (xss.length : Int)] 3 (0, 0)), (ob, .cells #[.slice (some ⟨Cb, 0, none⟩) xss.length xss.length] 25 (0, 0)), (Cb, .cells (madeCells #[.int .i64 0] xss.length) 2 (0, 0)), (lb, .cells #[.slice la xss.length lc] 31 (0, 0)), (nb, .cells #[.int .i64 n] 2 (0, 0))] S₁₀) (n := 60) (fun _ d h => h.at d) ?_
          u_c stepG_region_end fl4 hF
          u_c stepG_seq fl4 hF
          u_reg fl4 hF
          u_op fl4 hF
          refine Goes.stop fun wt h₁ => ?_
          replace hF := fl4 hF h₁
          clear h₁
          refine GG.goes rfl fun wu h₁ => ?_
          replace hF := hF.rl h₁
          clear h₁
          refine goes_oper_k rfl rfl (by decide) (fun K hK => ?_)
          go_simp
          refine hK _ _ ⟨_, GL.new _, ?_⟩
          clear hK K
          have hlWg : ∀ x ∈ ([(dB, .cells #[.func (.func 36) #[] #[.pointer (some ⟨nb, 0, none⟩), .pointer (some ⟨lb, 0, none⟩), .pointer (some ⟨ob, 0, none⟩)]] 54 (0, 0)), (wB, .cells #[.int .i64 workers] 2 (0, 0)), (nB, .cells #[.int .i64 (xss.length : Int)] 3 (0, 0)), (ob, .cells #[.slice (some ⟨Cb, 0, none⟩) xss.length xss.length] 25 (0, 0)), (Cb, .cells (madeCells #[.int .i64 0] xss.length) 2 (0, 0)), (lb, .cells #[.slice la xss.length lc] 31 (0, 0)), (nb, .cells #[.int .i64 n] 2 (0, 0))] : List (Nat × Obj)), x.1 < wu.heap.size := fun x hx => (hF.bnd _ (hF.blk x hx).2.2).2
          replace hF := hF.alloc (.cells #[.int .u64 0, .int .u32 0] 73 (0, 0))
          obtain ⟨Wg, eWg⟩ : ∃ n, n = wu.heap.size := ⟨_, rfl⟩
          rw [← eWg] at hF hlWg ⊢
          have hWg : w0.heap.size ≤ Wg := (hF.blk _ (List.mem_cons_self ..)).2.1
          clear eWg
          obtain ⟨S₁₁, eS₁₁⟩ : ∃ s : OwnB, s = (fun b => S₁₀ b ∨ b = Wg) := ⟨_, rfl⟩
          rw [← eS₁₁] at hF ⊢
          refine GG.goes rfl fun wv h₁ => ?_
          replace hF := hF.rl h₁
          clear h₁
          refine goes_oper_k rfl rfl (by decide) (fun K hK => ?_)
          have hWb := (hF.blk _ (List.mem_cons_self ..)).1
          have hWo := (hF.blk _ (List.mem_cons_self ..)).2.2
          simp only at hWb hWo
          have c0 : wv.cell? ⟨Wg, 0, none⟩ = some (.int .u64 0) := by simp [World.cell?, hWb]
          have c1 : wv.cell? ⟨Wg, 1, none⟩ = some (.int .u32 0) := by simp [World.cell?, hWb]
          have f0 : ∀ j, wv.frozen? ⟨Wg, j, none⟩ = false := fun j => by simp [World.frozen?, hWb]
          go_simp
          have hA2 : Aside Wg wv ((wv.setCell ⟨Wg, 0, none⟩ (.int .u64 0)).setCell ⟨Wg, 1, none⟩ (.int .u32 0)) := (aside_setCell wv ⟨Wg, 0, none⟩ _).trans (aside_setCell _ ⟨Wg, 1, none⟩ _)
          refine hK _ _ ⟨_, GL.putB hWo hA2 fun e he => ?_, ?_⟩
          · have hm' := mem_listed he
            simp [go_sem, storedEv, c0, c1, f0] at hm'
            exact hm'.elim (fun h => ⟨_, h⟩) fun h => ⟨_, h⟩
          replace hF := hF.write (o' := .cells #[.int .u64 0, .int .u32 0] 73 (0, 0)) (fun x hx => Nat.ne_of_lt (hlWg x hx)) (fun b hb => hA2.block b hb) (by rw [heap_setCell, if_pos rfl, heap_setCell, if_pos rfl, hWb]; rfl) hA2.size
          clear hK K c0 c1 f0 hWb hA2
          generalize (wv.setCell ⟨Wg, 0, none⟩ (.int .u64 0)).setCell ⟨Wg, 1, none⟩ (.int .u32 0) = ww at hF ⊢
          refine stretchL (F := FSt w0 [(Wg, .cells #[.int .u64 0, .int .u32 0] 73 (0, 0)), (dB, .cells #[.func (.func 36) #[] #[.pointer (some ⟨nb, 0, none⟩), .pointer (some ⟨lb, 0, none⟩), .pointer (some ⟨ob, 0, none⟩)]] 54 (0, 0)), (wB, .cells #[.int .i64 workers] 2 (0, 0)), (nB, .cells #[.int .i64 (xss.length : Int)] 3 (0, 0)), (ob, .cells #[.slice (some ⟨Cb, 0, none⟩) xss.length xss.length] 25 (0, 0)), (Cb, .cells (madeCells #[.int .i64 0] xss.length) 2 (0, 0)), (lb, .cells #[.slice la xss.length lc] 31 (0, 0)), (nb, .cells #[.int .i64 n] 2 (0, 0))] S₁₁) (n := 60) (fun _ d h => h.at d) ?_
          u_c stepG_region_end fl4 hF
          u_c stepG_seq fl4 hF
          u_c stepG_seq fl4 hF
          u_reg fl4 hF
          refine Goes.stop fun wx h₁ => ?_
          replace hF := fl4 hF h₁
          clear h₁
          refine GG.goes rfl fun wy h₁ => ?_
          replace hF := hF.rl h₁
          clear h₁
          refine goes_oper_k rfl rfl (by decide) (fun K hK => ?_)
          obtain ⟨hc, hfr, hown⟩ := hF.cell (n := wB) (v := .int .i64 workers) (e := 2) (by simp)
          go_simp
          refine hK _ _ ⟨_, GL.readAt (a := ⟨wB, 0, none⟩) (.inr hown) fun e he => ?_, ?_⟩
          · have hm' := mem_listed he
            simp [go_sem, hc] at hm'
            exact hm'
          clear hK K hc hfr hown
          refine stretchL (F := FSt w0 [(Wg, .cells #[.int .u64 0, .int .u32 0] 73 (0, 0)), (dB, .cells #[.func (.func 36) #[] #[.pointer (some ⟨nb, 0, none⟩), .pointer (some ⟨lb, 0, none⟩), .pointer (some ⟨ob, 0, none⟩)]] 54 (0, 0)), (wB, .cells #[.int .i64 workers] 2 (0, 0)), (nB, .cells #[.int .i64 (xss.length : Int)] 3 (0, 0)), (ob, .cells #[.slice (some ⟨Cb, 0, none⟩) xss.length xss.length] 25 (0, 0)), (Cb, .cells (madeCells #[.int .i64 0] xss.length) 2 (0, 0)), (lb, .cells #[.slice la xss.length lc] 31 (0, 0)), (nb, .cells #[.int .i64 n] 2 (0, 0))] S₁₁) (n := 60) (fun _ d h => h.at d) ?_
          u_op fl4 hF
          u_c stepG_region_end fl4 hF
          u_c stepG_block fl4 hF
          u_c stepG_loop fl4 hF
          refine Goes.stop fun wz h₁ => ?_
          replace hF := fl4 hF h₁
          clear h₁
          have o1 := hllb (nb, .cells #[.int .i64 n] 2 (0, 0)) (by simp)
          have o2 := hlCb (lb, .cells #[.slice la xss.length lc] 31 (0, 0)) (by simp)
          have o3 := hlob (Cb, .cells (madeCells #[.int .i64 0] xss.length) 2 (0, 0)) (by simp)
          have o4 := hlnB (ob, .cells #[.slice (some ⟨Cb, 0, none⟩) xss.length xss.length] 25 (0, 0)) (by simp)
          have o5 := hlwB (nB, .cells #[.int .i64 (xss.length : Int)] 3 (0, 0)) (by simp)
          have o6 := hldB (wB, .cells #[.int .i64 workers] 2 (0, 0)) (by simp)
          have o7 := hlWg (dB, .cells #[.func (.func 36) #[] #[.pointer (some ⟨nb, 0, none⟩), .pointer (some ⟨lb, 0, none⟩), .pointer (some ⟨ob, 0, none⟩)]] 54 (0, 0)) (by simp)
          simp only at o1 o2 o3 o4 o5 o6 o7
          refine hYes _ _ _ _ nb lb ob Cb nB wB dB Wg (by simp [fsOk, *]) (fun b hb => ?_) ⟨rfl, rfl, rfl, rfl, rfl, rfl, rfl, rfl, rfl, hF, hnb, o1, o2, o3, o4, o5, o6, o7⟩
          have := hm4 b (hm3 b (hm2 b (hmono b hb)))
          rw [eS₁₁, eS₁₀, eS₉, eS₈, eS₇, eS₆]
          exact .inl (.inl (.inl (.inl (.inl (.inl this)))))
        | true =>
          refine callB (bq := true) (xv := #[.slice (seenA GB0 0 la) xss.length lc, .func (.func 34) #[] #[.pointer (some ⟨GB0 + (1 + hs.length + 0), 0, none⟩)]]) (by decide) rfl rfl (by decide) rfl Try.func33 (by kernel_rfl) rfl hF hRl hL (fun b hb => (inL_box hb).elim (fun h => .inl (hrd b h)) fun e => .inr (by rw [e]; exact hown)) (fun T d => (containsFS_any (n := n) (lvs_rd2 hL) (lvs_cell0 hL (i := 0) rfl)).mono fun _ _ h => h.1.trans (by rw [hbe])) (fun Ro => asame_two (by simp [Act.eval]) (lvs_arg hL) (ASame.func (show LF.contains 34 = true by decide) .empty (.one (lvs_ptr hL (i := 0) rfl)))) ?_
          clear hF
          intro S₅ wg hm4 hF
          walk_nrm
          refine stretchL (F := FSt w0 [(lb, .cells #[.slice la xss.length lc] 31 (0, 0)), (nb, .cells #[.int .i64 n] 2 (0, 0))] S₅) (n := 60) (fun _ d h => h.at d) ?_
          u_op fl4 hF
          refine Goes.stop fun wh h₁ => ?_
          replace hF := fl4 hF h₁
          clear h₁
          refine stretchL (F := FSt w0 [(lb, .cells #[.slice la xss.length lc] 31 (0, 0)), (nb, .cells #[.int .i64 n] 2 (0, 0))] S₅) (n := 60) (fun _ d h => h.at d) ?_
          u_c stepG_region_end fl4 hF
          u_cond true fl4 hF
          u_c stepG_seq fl4 hF
          u_reg fl4 hF
          u_op fl4 hF
          u_op fl4 hF
          u_c stepG_region_end fl4 hF
          u_c stepG_ret' fl4 hF
          refine Goes.stop fun wt h₁ => ?_
          replace hF := fl4 hF h₁
          clear h₁
          refine GG.leave2 GL.idle RL.trans rfl rfl Try.func11 rfl ?_
          simp only [ho, Option.bind_some]
          exact hNo _ _ (by simp [fsOk, *]) (by first | exact hmono | exact fun b hb => hm2 b (hmono b hb) | exact fun b hb => hm3 b (hm2 b (hmono b hb)) | exact fun b hb => hm4 b (hm3 b (hm2 b (hmono b hb)))) (hF.sub (fun x hx => by simp at hx))
end
end Go.Proofs.Ytfecdmenliohhaa
