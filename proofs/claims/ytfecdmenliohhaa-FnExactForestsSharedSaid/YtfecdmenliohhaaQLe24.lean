/- The worker's piece of work: the call of ForestOf, by its lone contract; the whole region. -/
import Derived.Test.YtfecdmenliohhaaQLe23
import Derived.Test.YtfecdmenliohhaaQLe10
set_option linter.unusedVariables false
set_option linter.unusedSimpArgs false
set_option linter.unusedSimpArgs false
set_option linter.unusedVariables false
namespace Go.Proofs.Ytfecdmenliohhaa
open Go Go.Conc Go.ConcN Go.RowKit
open Go.ConcR (Payload DC0 WgAt)

section
variable {X : PX} {j i GB n2 lB oB : Nat} {N : Int} {la : Option Addr} {lc oc : Nat} {rows : Nat → Option Addr × Nat × List Int} {O₀ : OwnB} {w₀ : World} {Stop : OwnB → Goroutine → World → Prop} {LL : List FuncId} {bad : TypeId}

/-- The view of the call: one window. -/
theorem row_rel (hF : WF X GB n2 lB oB N la lc oc rows w₀) (hi : i < X.n) {w₁ : World} (hro : ∀ b, X.Ro b → w₁.heap[b]? = w₀.heap[b]?) (hlt : ∀ b, X.Ro b → b < w₁.heap.size) :
    WRel (viwC LL GB X.Ro bad [winA (Value.int .i64) (rows i).1 (rows i).2.2]) (viwP GB [winA (Value.int .i64) (rows i).1 (rows i).2.2]) (viwW GB bad [winA (Value.int .i64) (rows i).1 (rows i).2.2] w₀) w₁ := by
  have one : ∀ {k : Nat} {x : VB}, [winA (Value.int .i64) (rows i).1 (rows i).2.2][k]? = some x → k = 0 ∧ x = winA (Value.int .i64) (rows i).1 (rows i).2.2 := fun {k x} h => by
    match k, h with
    | 0, h => exact ⟨rfl, by simpa using h.symm⟩
    | k + 1, h => simp at h
  have hrd := hF.rd i hi
  refine viw_rel (fun k blk off xs h hne => ?_) (fun k k' x y c h h' _ _ => .inl ((one h).1.trans (one h').1.symm)) (fun k blk o h => ?_) (fun k blk off xs h m v hv => ?_) hlt
  · obtain ⟨_, e⟩ := one h
    cases e
    have hpos : 0 < (rows i).2.2.length := List.length_pos_iff.2 fun e => hne (by simp [e])
    obtain ⟨b, o, ea, _⟩ := hrd.here hpos
    rw [ea]
    exact hF.roR i hi _ ea hpos
  · obtain ⟨_, e⟩ := one h
    cases e
  · obtain ⟨_, e⟩ := one h
    cases e
    have hm : m < (rows i).2.2.length := by simpa using (List.getElem?_eq_some_iff.1 hv).1
    obtain ⟨b, o, ea, _⟩ := hrd.here (by omega)
    have hc := rd_cell hrd hm
    have hro' : X.Ro b := hF.roR i hi _ ea (by omega)
    rw [ea] at hc ⊢
    refine ⟨v, ?_, ?_⟩
    · rw [← hc.trans (?_ : _ = some v)]
      · simp only [World.cell?, Option.getD_some, hro b hro']
      · rw [← hv]; simp [hm]
    · simp [hm] at hv
      rw [← hv]
      exact .int _ _

set_option maxRecDepth 100000 in
/-- The call, by its lone contract. -/
theorem callW (hL : LL.all (fnOk Try.prog LL) = true) (hC9 : LL.contains 9 = true) (hG : GB = Try.prog.globals.size) (hbad : Try.prog.info? bad = none) (hF : WF X GB n2 lB oB N la lc oc rows w₀) (hi : i < X.n) (hm : X.mine j i) (hroC : ∀ b, X.Ro b → b ≠ X.C ∧ b ≠ X.Wg)
    {b : Frame} {k : List Item} {cs : List Frame} (hbk : b.kind ≠ .early) (L : Array Bool) (ix : Nat) (rest : List Nat) (O : OwnB) (a : Act) (w : World) (o : Oper) (hI : InvW X j i n2 lB oB N la lc oc rows (fun i => forestN N (rows i).2.2) O₀ w₀ L O a w) (hix : ix = 7) (ho : opsW[ix]? = some o) (hdst : o.dst = some 13)
    (h2 : L.getD 2 false = true) (h6 : L.getD 6 false = true) (hun : L.getD 7 true = false)
    (hk : ∀ O' a' w', InvW X j i n2 lB oB N la lc oc rows (fun i => forestN N (rows i).2.2) O₀ w₀ (L.setIfInBounds ix true) O' a' w' → GG Try.prog false (RWk X j) (GWk X j) Stop O' (G (b.at a' (.inRegion opsW rest :: k)) cs) w') :
    GG Try.prog false (RWk X j) (GWk X j) Stop O (G (b.at a (.inRegion opsW (ix :: rest) :: k)) cs) w := by
  subst hix
  obtain ⟨⟨r, hs, hr7⟩, hdc, hLs, hSn, hOO, hBnd, h13⟩ := hI
  have ho' := ho
  simp [opsW, Try.f36] at ho'
  have hw : Region.wanted o (yielded opsW a.tmps) = true := by rw [← ho']; rfl
  have e8 := hs.at_ 2 8 rfl h2
  have e12 := hs.at_ 6 12 rfl h6
  simp only [valW] at e8 e12
  have h7 : L.getD 7 false = false := by
    have h7' : 7 < L.size := by omega
    simpa [Array.getD, h7'] using hun
  obtain ⟨args, ats, hop, hargs⟩ : ∃ args ats, o.op = .call { callee := .value (.func 9), args := args, argTypes := ats } ∧ args.map a.eval = #[.int .i64 N, .slice (rows i).1 (rows i).2.2.length (rows i).2.1] := by
    rw [← ho']
    exact ⟨_, _, rfl, by simp [Act.eval, e8, e12]⟩
  refine GG.callM (viw_list (Ro := X.Ro) (vs := [winA (Value.int .i64) (rows i).1 (rows i).2.2]) hL hG hbad) hC9 ho hw hbk hop Try.func9 (by kernel_rfl) rfl (wv := viwW GB bad [winA (Value.int .i64) (rows i).1 (rows i).2.2] w₀) (p := viwP GB [winA (Value.int .i64) (rows i).1 (rows i).2.2]) (xv := #[.int .i64 N, .slice (seenA GB 0 (rows i).1) (rows i).2.2.length (rows i).2.1])
    (Rv := fun v _ => ∃ s bl, v = .tuple #[s, .int .i64 (forestN N (rows i).2.2), .bool bl]) (fun T d => ?_) ?_ (fun w₁ h₁ => row_rel hF hi (fun bb hbb => (hSn.trans ((h₁.sub hOO).sn i)).held bb (.inl hbb)) fun bb hbb => Nat.lt_of_lt_of_le (hBnd.lt bb (.inl hbb)) h₁.size)
    hroC hBnd.on hBnd.oC hBnd.oW hBnd.lt hBnd.cl hBnd.wl (fun bb cc h => ?_) ?_
  · have hrd : Rd (Value.int .i64) (World.tp (viwW GB bad [winA (Value.int .i64) (rows i).1 (rows i).2.2] w₀) T d) (seenA GB 0 (rows i).1) (rows i).2.1 (rows i).2.2 := by
      have h := viw_rdA (GB := GB) (bad := bad) (w := w₀) (i := 0) (vs := [winA (Value.int .i64) (rows i).1 (rows i).2.2]) (hF.rd i hi) rfl
      exact ⟨h.cap, h.max, h.nil, h.here, h.cell⟩
    refine (implForest_any (n := N) hrd).mono fun e w₁ h => ?_
    obtain ⟨aa, cc, rfl, _⟩ := h
    exact ⟨_, _, rfl⟩
  · refine ⟨by rw [hargs]; rfl, fun kk v v' h1 h3 => ?_⟩
    rw [hargs] at h3
    match kk, h1, h3 with
    | 0, h1, h3 => simp at h1 h3; subst h1; subst h3; exact .int _ _
    | 1, h1, h3 => simp at h1 h3; subst h1; subst h3; exact viw_sliceA (hF.rd i hi) rfl rfl
    | kk + 2, h1, h3 => simp at h1
  · obtain ⟨x, h1, h2⟩ := Option.bind_eq_some_iff.1 h
    obtain ⟨h3, h4⟩ := atV_some h1
    have hk0 : bb - GB = 0 ∧ x = winA (Value.int .i64) (rows i).1 (rows i).2.2 := by
      generalize bb - GB = m at h4
      match m, h4 with
      | 0, h4 => exact ⟨rfl, by simpa using h4.symm⟩
      | m + 1, h4 => simp at h4
    obtain ⟨_, rfl⟩ := hk0
    have hpos : 0 < (rows i).2.2.length := by
      refine List.length_pos_iff.2 fun e => ?_
      simp [winA, VB.tgt, e] at h2
    obtain ⟨b', o', ea, _⟩ := (hF.rd i hi).here hpos
    have hr := hF.roR i hi _ ea hpos
    have : cc = b' := by
      simp only [winA, VB.tgt, ea, Option.getD_some] at h2
      split at h2
      · cases h2
      · exact (Option.some.inj h2).symm
    subst this
    exact ⟨hr, hr⟩
  · rintro q v v' w₁ O' w' ⟨s, bl, rfl⟩ hv hrw hO' hO2 hO3
    rw [hdst]
    cases hv with
    | @tuple _ x' hsz hat =>
      obtain ⟨y0, y1, y2, rfl⟩ : ∃ y0 y1 y2, x' = #[y0, y1, y2] := by
        obtain ⟨l⟩ := x'
        match l, hsz with
        | [y0, y1, y2], _ => exact ⟨y0, y1, y2, rfl⟩
      have h1 := hat 1 _ y1 rfl rfl
      cases h1
      have hsz' := hrw.size
      refine hk O' _ w' ⟨⟨(y0, .int .i64 (forestN N (rows i).2.2), y2), (hs.congr fun kk d hd hl => ?_).put (k := 7) rfl, fun _ => rfl⟩, fun kk hkk h => ?_, by simp [hLs], hSn.trans ((hrw.sub hOO).sn i), fun bb hbb => hO' bb (hOO bb hbb),
        ⟨fun bb hbb hro => ?_, fun hc => (hO2 _ hc).elim hBnd.oC fun x => by have := hBnd.cl; omega, fun hc => (hO2 _ hc).elim hBnd.oW fun x => by have := hBnd.wl; omega, fun bb hbb => hbb.elim (fun x => Nat.lt_of_lt_of_le (hBnd.lt bb (.inl x)) hsz') fun x => hO3 bb x, Nat.lt_of_lt_of_le hBnd.cl hsz', Nat.lt_of_lt_of_le hBnd.wl hsz'⟩,
        fun h => (hrw.cell i hm).trans (h13 ((getD_set_self h).resolve_left (by omega)))⟩
      · have h13' := (dstW_ge hd).2.2
        have hne : kk ≠ 7 := fun e => by rw [e, h7] at hl; cases hl
        have hne2 : ¬ (kk = 8 ∨ kk = 9 ∨ kk = 10 ∨ kk = 11) := fun e => by rw [hdc kk e hl] at h7; cases h7
        match kk with
        | 0 | 1 | 2 | 3 | 4 | 5 | 6 | 12 => rfl
        | 7 => exact absurd rfl hne
        | 8 | 9 | 10 | 11 => simp at hne2
        | n + 13 => omega
      · have h78 : L.getD 7 false = true := hdc kk hkk ((getD_set_self h).resolve_left (by omega))
        rw [h78] at h7; cases h7
      · rcases hO2 bb hbb with x | x
        · exact hBnd.on bb x hro
        · have := hBnd.lt bb (.inl hro); omega
end
end Go.Proofs.Ytfecdmenliohhaa
