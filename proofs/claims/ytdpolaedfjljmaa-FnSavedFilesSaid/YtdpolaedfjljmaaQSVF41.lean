/- Tops as they are counted: plain. A key counted among the tops, in the reference's text. The source begun; one of some texts. What can be saved, drawn: the reference's text. -/
import Derived.Test.YtdpolaedfjljmaaQSVF37
import Derived.Test.YtdpolaedfjljmaaQSVF28
import Derived.Deep.Cut
import Derived.Deep.DeepCutAuto
import Derived.Deep.CutBlock
import Derived.Deep.RegionLaw
import Derived.Test.YtdpolaedfjljmaaQSVF3
import Derived.Test.YtdpolaedfjljmaaQSVF4
namespace Go.Proofs.Ytdpolaedfjljmaa
open Go.RowKit

/-- The tops are in order, no count above M. -/
structure TopOk (R M : Int) (ks ts es : List Int) : Prop where
  room : (ks.length : Int) ≤ R
  lt : ts.length = ks.length
  le : es.length = ks.length
  dif : ∀ i j, i < j → j < ks.length → at0 ks i ≠ at0 ks j
  key : ∀ x ∈ ks, 0 ≤ x ∧ x ≤ 4294967295
  ce : ∀ i, i < ks.length → 0 ≤ at0 es i ∧ at0 es i < at0 ts i ∧ at0 ts i ≤ M
theorem at0_setG {xs : List Int} {k i : Nat} {x : Int} (hk : k < xs.length) : at0 (xs.set k x) i = if i = k then x else at0 xs i := by
  unfold at0
  rw [List.getElem?_set]
  by_cases h : k = i
  · subst h; simp [hk]
  · rw [if_neg h, if_neg (fun e => h e.symm)]
theorem at0_appG {xs : List Int} {x : Int} {i : Nat} : at0 (xs ++ [x]) i = if i = xs.length then x else at0 xs i := by
  unfold at0
  by_cases h : i < xs.length
  · rw [List.getElem?_append_left h, if_neg (by omega)]
  · rw [List.getElem?_append_right (by omega)]
    by_cases h2 : i = xs.length
    · subst h2; simp
    · rw [if_neg h2, List.getElem?_eq_none (by simp; omega), List.getElem?_eq_none (by omega)]
theorem at0_memG {xs : List Int} {i : Nat} (h : i < xs.length) : at0 xs i ∈ xs := by
  unfold at0; rw [List.getElem?_eq_getElem h]; exact List.getElem_mem h
section
variable {R M : Int} {ks ts es : List Int}
theorem TopOk.nil (hR : 0 ≤ R) : TopOk R M [] [] [] := ⟨by simpa using hR, rfl, rfl, fun i j _ h => by simp at h, fun x h => by simp at h, fun i h => by simp at h⟩
theorem TopOk.bump (t : TopOk R M ks ts es) {i : Nat} (hi : i < ks.length) : TopOk R (M + 1) ks (ts.set i (at0 ts i + 1)) es := by
  refine ⟨t.room, by rw [List.length_set]; exact t.lt, t.le, t.dif, t.key, fun j hj => ?_⟩
  rw [at0_setG (by rw [t.lt]; exact hi)]
  have h1 := t.ce j hj
  split
  · rename_i e; subst e; omega
  · omega
theorem TopOk.push (t : TopOk R M ks ts es) {key : Int} (hk : ¬ key ∈ ks) (k0 : 0 ≤ key) (k1 : key ≤ 4294967295) (hR : (ks.length : Int) < R) (hM : 0 ≤ M) : TopOk R (M + 1) (ks ++ [key]) (ts ++ [1]) (es ++ [0]) := by
  refine ⟨by simp; omega, by simp [t.lt], by simp [t.le], fun i j hij hj => ?_, fun x hx => ?_, fun i hi => ?_⟩
  · simp only [List.length_append, List.length_cons, List.length_nil] at hj
    rw [at0_appG, at0_appG, if_neg (by omega : ¬ i = ks.length)]
    split
    · intro e; exact hk (e ▸ at0_memG (by omega))
    · exact t.dif i j hij (by omega)
  · rcases List.mem_append.1 hx with h | h
    · exact t.key x h
    · simp at h; omega
  · simp only [List.length_append, List.length_cons, List.length_nil] at hi
    rw [at0_appG, at0_appG, t.lt, t.le]
    split
    · omega
    · have := t.ce i (by omega); omega
theorem TopOk.swap (t : TopOk R M ks ts es) {key : Int} (hk : ¬ key ∈ ks) (k0 : 0 ≤ key) (k1 : key ≤ 4294967295) {i : Nat} (hi : i < ks.length) : TopOk R (M + 1) (ks.set i key) (ts.set i (at0 ts i + 1)) (es.set i (at0 ts i)) := by
  refine ⟨by rw [List.length_set]; exact t.room, by simp [t.lt], by simp [t.le], fun a b hab hb => ?_, fun x hx => ?_, fun j hj => ?_⟩
  · rw [List.length_set] at hb
    rw [at0_setG hi, at0_setG hi]
    by_cases h1 : a = i
    · rw [if_pos h1, if_neg (by omega)]
      intro e; exact hk (e ▸ at0_memG hb)
    · rw [if_neg h1]
      split
      · intro e; exact hk (e ▸ at0_memG (by omega))
      · exact t.dif a b hab hb
  · rcases List.mem_or_eq_of_mem_set hx with h | h
    · exact t.key x h
    · omega
  · rw [List.length_set] at hj
    rw [at0_setG (by rw [t.le]; exact hi), at0_setG (by rw [t.lt]; exact hi)]
    have h1 := t.ce j hj
    split
    · rename_i e; subst e; omega
    · omega
theorem TopOk.topsB (t : TopOk R M ks ts es) (h0 : 1 ≤ R) (h1 : R ≤ 32) (hM : M ≤ 4294967295) : topsB R ks ts es = true ∧ keysB ts = true := by
  refine ⟨?_, ?_⟩
  · unfold Proofs.Ytdpolaedfjljmaa.topsB
    have a1 : inR R 1 32 = true := by unfold inR; exact decide_eq_true ⟨h0, h1⟩
    have a2 : ceB ts es = true := ceB_yes (fun k hk => by
      have := t.ce k (by rw [← t.lt]; exact hk)
      unfold ceR inR
      rw [decide_eq_true (by omega), decide_eq_true (by omega)]; rfl)
    have a3 : keysB ks = true := by
      unfold keysB; rw [List.all_eq_true]
      intro x hx
      have := t.key x hx
      unfold isKey inR; exact decide_eq_true (by omega)
    have a4 : diffB ks = true := diff_yes (fun i hi hm => by
      obtain ⟨j, hj, e⟩ := List.mem_iff_getElem.1 hm
      rw [List.length_take] at hj
      rw [List.getElem_take] at e
      refine t.dif j i (by omega) hi ?_
      rw [← e]; unfold at0; rw [List.getElem?_eq_getElem (by omega)]; rfl)
    rw [a1, a2, a3, a4, decide_eq_true t.room, decide_eq_true t.lt, decide_eq_true t.le]; rfl
  · unfold keysB; rw [List.all_eq_true]
    intro x hx
    obtain ⟨i, hi, rfl⟩ := List.mem_iff_getElem.1 hx
    have := t.ce i (by rw [← t.lt]; exact hi)
    have e : at0 ts i = ts[i] := by unfold at0; rw [List.getElem?_eq_getElem hi]; rfl
    rw [e] at this
    unfold isKey inR; exact decide_eq_true (by omega)
end
/-- What the generator makes can be saved. -/
theorem gen_saved {nm : ByteArray} {W D : Nat} {R M M2 : Int} {cs ks ts es : List Int} (hn : nameB nm = true) (w0 : 2 ≤ W) (w1 : W ≤ 64) (d0 : 1 ≤ D) (d1 : D ≤ 6) (hl : cs.length = D * W) (hc : ∀ x ∈ cs, 0 ≤ x ∧ x ≤ M2) (hM2 : M2 ≤ 1000000)
    (t : TopOk R M ks ts es) (r0 : 1 ≤ R) (r1 : R ≤ 32) (hM : M ≤ 1000000) : savedV ⟨nm, W, D, 7, cs, R, ks, ts, es⟩ = true := by
  unfold savedV savedB
  obtain ⟨t1, t2⟩ := t.topsB r0 r1 (by omega)
  have c1 : cellsB W D 7 cs = true := by
    unfold cellsB
    have a1 : inR (W : Int) 2 64 = true := by unfold inR; exact decide_eq_true (by omega)
    have a2 : inR (D : Int) 1 6 = true := by unfold inR; exact decide_eq_true (by omega)
    have a3 : isKey 7 = true := by decide
    have a4 : decide ((cs.length : Int) = (W : Int) * (D : Int)) = true := decide_eq_true (by rw [hl, Nat.mul_comm]; exact Int.natCast_mul _ _)
    have a5 : cs.all cellR = true := by rw [List.all_eq_true]; intro x hx; have := hc x hx; unfold cellR inR; exact decide_eq_true (by omega)
    rw [a1, a2, a3, a4, a5]; rfl
  have c2 : keysB cs = true := by
    unfold keysB; rw [List.all_eq_true]; intro x hx; have := hc x hx; unfold isKey inR; exact decide_eq_true (by omega)
  show (nameB nm && cellsB (W : Int) (D : Int) 7 cs && keysB cs && topsB R ks ts es && keysB ts) = true
  rw [hn, c1, c2, t1, t2]; rfl

end Go.Proofs.Ytdpolaedfjljmaa

namespace Go.Proofs.Ytdpolaedfjljmaa
open Go.RowKit
attribute [local go_sem ↓] Go.wp_at_zero Go.wp_at_succ

/-- What a counted key leaves. -/
def RetTop (w : World) (b : Nat) (nm : ByteArray) (W D S : Int) (cs : List Int) (R M : Int) (e : Ending) (w' : World) : Prop :=
  e = .returned (.tuple #[]) ∧ ∃ h ks ts es, SvBx w' b h ⟨nm, W, D, S, cs, R, ks, ts, es⟩ ∧ TopOk R M ks ts es ∧ Below b w w'
theorem at0_is {xs : List Int} {i : Nat} (h : i < xs.length) : xs[i] = at0 xs i := by unfold at0; rw [List.getElem?_eq_getElem h]; rfl

set_option maxRecDepth 8000 in
set_option maxHeartbeats 4000000 in
theorem l03Top_any {w : World} {b : Nat} {h : SvH} {nm : ByteArray} {W D S : Int} {R key M : Int} {cs ks ts es : List Int} (q : SvBx w b h ⟨nm, W, D, S, cs, R, ks, ts, es⟩) (t : TopOk R M ks ts es) (r0 : 1 ≤ R) (r1 : R ≤ 32) (k0 : 0 ≤ key) (k1 : key ≤ 4294967295)
    (m0 : 0 ≤ M) (m1 : M ≤ 1000000) :
    Calls Try.prog 69 #[.pointer (some ⟨b, 5, none⟩), .int .i64 key] w (RetTop w b nm W D S cs R (M + 1)) := by
  have HX := Lib.hid q
  have HT := Lib.hid t
  have HLT := Lib.hid t.lt
  have HLE := Lib.hid t.le
  have hroom := t.room
  have n1 : ks.length ≤ 32 := by omega
  have n2 : ts.length ≤ 32 := by rw [HLT.out]; exact n1
  have n3 : es.length ≤ 32 := by rw [HLE.out]; exact n1
  clear q t
  have ok : Own (Value.int .i64) 2 w (b + 1) h.a1 h.c1 ks := HX.out.own.ks
  have HC := Lib.hid (l03Find_any (key := key) ok.rd)
  clear ok
  have c6 := HX.out.blk.cell (i := 6) (v := .slice h.a1 ks.length h.c1) rfl
  go_enter Try.func69, Try.ntmps69
  go_wp2_with fail
  refine HC.out.mono ?_
  rintro e w1 ⟨hres, rfl⟩
  clear HC
  rcases hres with ⟨rfl, hnk⟩ | ⟨i, rfl, hi, _⟩
  · have HNK := Lib.hid hnk
    clear hnk
    have c5 := HX.out.blk.cell (i := 5) (v := .int .i64 R) rfl
    by_cases hr : (ks.length : Int) < R
    · go_wp2_with fail
      go_quiet (fail)
      have HX3 := Lib.hid (HX.out.drewN nq)
      have HB3 := Lib.hid (below_of_drewN w nq b)
      clear HX c5 c6
      generalize w.drewN nq = w3 at HX3 HB3 ⊢
      have c6 := HX3.out.blk.cell (i := 6) (v := .slice h.a1 ks.length h.c1) rfl
      have o6 : Own (Value.int .i64) 2 w3 (b + 1) h.a1 h.c1 ks := HX3.out.own.ks
      have z6 : b + 1 ≤ w3.heap.size := HX3.out.blk.lt
      go_upto_region 5 with (at_builtin; refine wpl_append1L (f := Value.int .i64) (d := 0) (base := b + 1) (xs := ks) und_ise info_i (fun _ => rfl) key o6 rfl _ _ rfl rfl rfl (by omega) (by omega) z6 ?_; intro a4 c4 w4 ho4 hg4 hl4; have HP4 := Lib.hid (HX3.out.pushK ho4 hg4 hl4); have HG4 := Lib.hid (((HB3.out.trans (grown_belowOwn o6 hg4 (Nat.le_succ b) (Nat.le_of_succ_le z6))).setCell (p := ⟨b, 6, none⟩) (Nat.le_refl _) (.slice a4 (ks.length + 1) c4))); have f4 := (blk_grown_own HX3.out.blk o6 hg4).free 6; obtain ⟨v4, d4⟩ : ∃ v, w4.cell? ⟨b, 6, none⟩ = some v := ⟨_, (blk_grown_own HX3.out.blk o6 hg4).cell (i := 6) rfl⟩; clear ho4 hg4 hl4)
      clear c6 o6 z6 f4 d4 HX3 HB3
      generalize w4.setCell ⟨b, 6, none⟩ (.slice a4 (ks.length + 1) c4) = w5 at HP4 HG4 ⊢
      have c7 := HP4.out.blk.cell (i := 7) (v := .slice h.a2 ts.length h.c2) rfl
      have o7 : Own (Value.int .i64) 2 w5 (b + 1) h.a2 h.c2 ts := HP4.out.own.ts
      have z7 : b + 1 ≤ w5.heap.size := HP4.out.blk.lt
      go_upto_region 6 with (at_builtin; refine wpl_append1L (f := Value.int .i64) (d := 0) (base := b + 1) (xs := ts) und_ise info_i (fun _ => rfl) 1 o7 rfl _ _ rfl rfl rfl (by omega) (by omega) z7 ?_; intro a5 c5 w6 ho4 hg4 hl4; have HP5 := Lib.hid (HP4.out.pushT ho4 hg4 hl4); have HG5 := Lib.hid (((HG4.out.trans (grown_belowOwn o7 hg4 (Nat.le_succ b) (Nat.le_of_succ_le z7))).setCell (p := ⟨b, 7, none⟩) (Nat.le_refl _) (.slice a5 (ts.length + 1) c5))); have f5 := (blk_grown_own HP4.out.blk o7 hg4).free 7; obtain ⟨v5, d5⟩ : ∃ v, w6.cell? ⟨b, 7, none⟩ = some v := ⟨_, (blk_grown_own HP4.out.blk o7 hg4).cell (i := 7) rfl⟩; clear ho4 hg4 hl4)
      clear c7 o7 z7 f5 d5 HP4 HG4
      generalize w6.setCell ⟨b, 7, none⟩ (.slice a5 (ts.length + 1) c5) = w7 at HP5 HG5 ⊢
      have c8 := HP5.out.blk.cell (i := 8) (v := .slice h.a3 es.length h.c3) rfl
      have o8 : Own (Value.int .i64) 2 w7 (b + 1) h.a3 h.c3 es := HP5.out.own.es
      have z8 : b + 1 ≤ w7.heap.size := HP5.out.blk.lt
      go_wp2_with (at_builtin; refine wpl_append1L (f := Value.int .i64) (d := 0) (base := b + 1) (xs := es) und_ise info_i (fun _ => rfl) 0 o8 rfl _ _ rfl rfl rfl (by omega) (by omega) z8 ?_; intro a6 c6 w8 ho4 hg4 hl4; have HP6 := Lib.hid (HP5.out.pushE ho4 hg4 hl4); have HG6 := Lib.hid (((HG5.out.trans (grown_belowOwn o8 hg4 (Nat.le_succ b) (Nat.le_of_succ_le z8))).setCell (p := ⟨b, 8, none⟩) (Nat.le_refl _) (.slice a6 (es.length + 1) c6))); have f6 := (blk_grown_own HP5.out.blk o8 hg4).free 8; obtain ⟨v6, d6⟩ : ∃ v, w8.cell? ⟨b, 8, none⟩ = some v := ⟨_, (blk_grown_own HP5.out.blk o8 hg4).cell (i := 8) rfl⟩; clear ho4 hg4 hl4)
      clear c8 o8 z8 f6 d6 HP5 HG5
      generalize w8.setCell ⟨b, 8, none⟩ (.slice a6 (es.length + 1) c6) = w9 at HP6 HG6 ⊢
      go_end0
      exact ⟨rfl, _, _, _, _, HP6.out, HT.out.push HNK.out k0 k1 hr m0, HG6.out⟩
    · have hrz : R ≤ (ks.length : Int) := by omega
      go_wp2_with fail
      go_quiet (fail)
      have HX3 := Lib.hid (HX.out.drewN nq)
      have HB3 := Lib.hid (below_of_drewN w nq b)
      clear HX c5 c6
      generalize w.drewN nq = w3 at HX3 HB3 ⊢
      have o7 : Own (Value.int .i64) 2 w3 (b + 1) h.a2 h.c2 ts := HX3.out.own.ts
      have HLOW := Lib.hid (l03Lowest_any o7.rd (by rw [HLT.out]; omega))
      clear o7
      have c7 := HX3.out.blk.cell (i := 7) (v := .slice h.a2 ts.length h.c2) rfl
      go_wp2_with fail
      refine HLOW.out.mono ?_
      rintro e w4 ⟨i, rfl, hi2, nd, rfl⟩
      have hi1 : i < ks.length := by rw [← HLT.out]; exact hi2
      have hi3 : i < es.length := by rw [HLE.out]; exact hi1
      have HX4 := Lib.hid (HX3.out.drewN nd)
      have HB4 := Lib.hid (HB3.out.trans (below_of_drewN w3 nd b))
      clear HX3 HB3 c7 HLOW
      generalize w3.drewN nd = w4 at HX4 HB4 ⊢
      have c6 := HX4.out.blk.cell (i := 6) (v := .slice h.a1 ks.length h.c1) rfl
      have o6 : Own (Value.int .i64) 2 w4 (b + 1) h.a1 h.c1 ks := HX4.out.own.ks
      have ix6 := o6.idx und_is siz_is
      have cx6 := o6.cell i hi1
      have fx6 := o6.free i hi1
      have HE5 := Lib.hid (HX4.out.elK hi1 key)
      have HT2 := Lib.hid (HT.out.swap HNK.out k0 k1 hi1)
      generalize ks[i] = xk at cx6
      go_upto_region 9 with (fail)
      have HX5 := Lib.hid HE5.out.1
      have HB5 := Lib.hid (HB4.out.trans HE5.out.2)
      clear HE5 HX4 HB4 c6 o6 ix6 cx6 fx6
      generalize w4.setCell (elt h.a1 i) (.int .i64 key) = w5 at HX5 HB5 ⊢
      have c7 := HX5.out.blk.cell (i := 7) (v := .slice h.a2 ts.length h.c2) rfl
      have o7 : Own (Value.int .i64) 2 w5 (b + 1) h.a2 h.c2 ts := HX5.out.own.ts
      have ix7 := o7.idx und_is siz_is
      have cx7 := o7.cell i hi2
      have c8 := HX5.out.blk.cell (i := 8) (v := .slice h.a3 es.length h.c3) rfl
      have o8 : Own (Value.int .i64) 2 w5 (b + 1) h.a3 h.c3 es := HX5.out.own.es
      have ix8 := o8.idx und_is siz_is
      have cx8 := o8.cell i hi3
      have fx8 := o8.free i hi3
      rw [at0_is hi2] at cx7
      have hce := HT.out.ce i hi1
      have HE6 : Hid (SvBx ((w5.setCell (elt h.a3 i) (.int .i64 (at0 ts i))).drew) b h ⟨nm, W, D, S, cs, R, ks.set i key, ts, es.set i (at0 ts i)⟩ ∧ Below b w ((w5.setCell (elt h.a3 i) (.int .i64 (at0 ts i))).drew)) := Lib.hid (by
        have := HX5.out.elE hi3 (at0 ts i)
        exact ⟨this.1.drewN 1, (HB5.out.trans this.2).trans (below_of_drewN _ 1 b)⟩)
      generalize es.set i (at0 ts i) = es2 at HE6 HT2
      generalize ks.set i key = ks2 at HE6 HT2 HX5
      have HT3 : Hid (∀ z, z = at0 ts i → TopOk R (M + 1) ks2 (ts.set i (z + 1)) es2) := Lib.hid (fun z hz => by rw [hz]; exact HT2.out)
      clear HT2
      obtain ⟨x, hx⟩ : ∃ x, at0 ts i = x := ⟨_, rfl⟩
      rw [hx] at HE6 cx7 hce HT3
      replace HT3 := Lib.hid (HT3.out x rfl)
      generalize es[i] = xe at cx8
      go_wp2_with fail
      go_region_law (fail)
      all_goals
        clear c7 o7 ix7 cx7 c8 o8 ix8 cx8 fx8 HX5 HB5
        generalize (w5.setCell (elt h.a3 i) (.int .i64 x)).drew = w6 at HE6 ⊢
        have c7 := HE6.out.1.blk.cell (i := 7) (v := .slice h.a2 ts.length h.c2) rfl
        have o7 : Own (Value.int .i64) 2 w6 (b + 1) h.a2 h.c2 ts := HE6.out.1.own.ts
        have ix7 := o7.idx und_is siz_is
        have cx7 := o7.cell i hi2
        have fx7 := o7.free i hi2
        rw [at0_is hi2, hx] at cx7
        have ewx : IntKind.i64.wrap (x + 1) = x + 1 := IntWalk.i64_in _ (by omega)
        have HE7 := Lib.hid (HE6.out.1.elT hi2 (x + 1))
        have HX7 : Hid (SvBx (w6.setCell (elt h.a2 i) (.int .i64 (x + 1))) b h ⟨nm, W, D, S, cs, R, ks2, ts.set i (x + 1), es2⟩) := Lib.hid HE7.out.1
        have HB7 := Lib.hid (HE6.out.2.trans HE7.out.2)
        clear HE7 HE6 hce hx
        go_wp2
        generalize w6.setCell (elt h.a2 i) (.int .i64 (x + 1)) = w9 at HX7 HB7 ⊢
        go_end0
        exact ⟨rfl, _, _, _, _, HX7.out, HT3.out, HB7.out⟩
  · have hz : (0 : Int) ≤ (i : Int) := by omega
    have c7 := HX.out.blk.cell (i := 7) (v := .slice h.a2 ts.length h.c2) rfl
    have o7 : Own (Value.int .i64) 2 w (b + 1) h.a2 h.c2 ts := HX.out.own.ts
    have hix := o7.idx und_is siz_is
    have hi2 : i < ts.length := by rw [HLT.out]; exact hi
    have hcx := o7.cell i hi2
    have hfx := o7.free i hi2
    rw [at0_is hi2] at hcx
    have hx := HT.out.ce i hi
    have HE := Lib.hid (HX.out.elT hi2 (at0 ts i + 1))
    have HT2 := Lib.hid (HT.out.bump hi)
    have HE2 : Hid (SvBx (w.setCell (elt h.a2 i) (.int .i64 (at0 ts i + 1))) b h ⟨nm, W, D, S, cs, R, ks, ts.set i (at0 ts i + 1), es⟩) := Lib.hid HE.out.1
    have HB2 := Lib.hid HE.out.2
    clear HE
    generalize ts.set i (at0 ts i + 1) = ys at HE2 HT2
    generalize at0 ts i = x at hcx hx HE2 HB2
    have ewx : IntKind.i64.wrap (x + 1) = x + 1 := IntWalk.i64_in _ (by omega)
    go_wp2
    generalize w.setCell (elt h.a2 i) (.int .i64 (x + 1)) = w9 at HE2 HB2 ⊢
    (try simp only [Exit.inBlock, Exit.then])
    refine bodyPost_ret (results_none rfl _ _ _) rfl ?_
    exact ⟨rfl, _, _, _, _, HE2.out, HT2.out, HB2.out⟩

end Go.Proofs.Ytdpolaedfjljmaa

namespace Go.Proofs.Ytdpolaedfjljmaa
open Go.RowKit
attribute [local go_sem ↓] Go.wp_at_zero Go.wp_at_succ

theorem l00From_any {w : World} {a : Option Addr} {c n : Nat} :
    Calls Try.prog 64 #[.slice a n c] w fun e w' => e = .returned (.pointer (some ⟨w.heap.size, 0, none⟩)) ∧ w.alloc (.cells #[.slice a n c, .int .i64 0, .int .u64 0] 147) = w' := by
  go_enter Try.func64, Try.ntmps64
  go_wp2
  go_ret
  exact ⟨rfl, rfl⟩
theorem src_new {w : World} {a : Option Addr} {c : Nat} {xs : List Int} (hr : Rd (Value.int .u8) w a c xs) (hb : ∀ x ∈ xs, 0 ≤ x ∧ x < 256) :
    Src (w.alloc (.cells #[.slice a xs.length c, .int .i64 0, .int .u64 0] 147)) w.heap.size a c xs 0 :=
  ⟨⟨0, 0, Nat.le_refl _, Blk.new _ _ _⟩, hr.below ((Below.refl w.heap.size w).alloc (Nat.le_refl _) _) (Nat.le_refl _), fun h0 p hp => by obtain ⟨g, o, e, hlt⟩ := hr.here h0; rw [e] at hp; simp at hp; subst hp; show g ≠ _; omega, hb⟩

set_option maxHeartbeats 1000000 in
theorem text_any {w : World} {b : Nat} {a al : Option Addr} {c cl : Nat} {xs : List Int} {k : Nat} {ss : List ByteArray} (h : Src w b a c xs k) (hk : k ≤ 1099511627776) (hr : Rd Value.string w al cl ss) (hl : ss.length = 4) (ha : ∀ p, al = some p → p.block ≠ b) :
    Calls Try.prog 66 #[.pointer (some ⟨b, 0, none⟩), .slice al 4 cl] w fun e w' => ∃ v : ByteArray, e = .returned (.string v) ∧ v ∈ ss ∧ Src w' b a c xs (k + 1) ∧ w.grownBy w' (some b) := by
  have HC := Lib.hid (pick_any (n := 4) h hk (by omega) (by omega))
  have HR := Lib.hid hr
  have HL := Lib.hid hl
  clear h hr hl
  go_enter Try.func66, Try.ntmps66
  go_wp2_with fail
  refine HC.out.mono ?_
  rintro e w1 ⟨v, rfl, hv, hs, hg⟩
  have HS := Lib.hid (And.intro hs hg)
  have hr1 := HR.out.keptO hg (fun _ => ha)
  have hvl : v < ss.length := by rw [HL.out]; exact hv
  have hix := hr1.idx und_ss siz_ss w1 v hvl
  rw [HL.out] at hix
  have hcx := hr1.cell v hvl
  simp only [List.getElem?_eq_getElem hvl, Option.getD_some] at hcx
  have hm : ss[v] ∈ ss := List.getElem_mem hvl
  generalize ss[v] = s at hcx hm
  clear hs hg hr1
  go_wp2
  go_ret
  exact ⟨s, rfl, hm, HS.out⟩

end Go.Proofs.Ytdpolaedfjljmaa

namespace Go.Proofs.Ytdpolaedfjljmaa
open Go.RowKit
attribute [local go_sem ↓] Go.wp_at_zero Go.wp_at_succ

/-- The list that is drawn. -/
def RetGen (w : World) (e : Ending) (w' : World) : Prop :=
  ∃ a c hs ss, e = .returned (.slice a ss.length c) ∧ Lst9 w' w.heap.size a c hs ss ∧ ss.length ≤ 4 ∧ (∀ s ∈ ss, savedV s = true) ∧ Below w.heap.size w w'
/-- The names. -/
def genN : List ByteArray := [⟨#[97]⟩, ⟨#[107, 101, 121, 115]⟩, ⟨#[100, 97, 121]⟩, ⟨#[122, 122]⟩]
theorem genN_ok : ∀ s ∈ genN, nameB s = true ∧ s.size ≤ 4 := by
  intro s hs
  simp only [genN, List.mem_cons, List.not_mem_nil, or_false] at hs
  rcases hs with rfl | rfl | rfl | rfl <;> exact ⟨by decide, by decide⟩
/-- The state of the list and of the source. -/
structure GenSt (w0 w : World) (a : Option Addr) (c : Nat) (xs : List Int) (a4 : Option Addr) (c4 : Nat) (hs : List SvH) (ss : List Sv) (k : Nat) : Prop where
  src : Src w w0.heap.size a c xs k
  lst : Lst9 w (w0.heap.size + 1) a4 c4 hs ss
  bel : Below w0.heap.size w0 w
  ok : ∀ s ∈ ss, savedV s = true
theorem Lst9.keptLow {w w' : World} {g base : Nat} {a : Option Addr} {c : Nat} {hs : List SvH} {ss : List Sv} (l : Lst9 w base a c hs ss) (hg : w.grownBy w' (some g)) (hb : g < base) : Lst9 w' base a c hs ss := by
  refine l.kept hg (fun p hp => by have := (l.blk p hp).1; simp; omega) (fun i h hi a' ha' p hp => ?_)
  have hlt : i < ss.length := by rw [← l.len]; exact (List.getElem?_eq_some_iff.1 hi).1
  have := ((l.own i h _ hi (List.getElem?_eq_getElem hlt)).1.lt a' ha' p hp).1
  simp; omega
theorem GenSt.below {w0 w w' : World} {a : Option Addr} {c : Nat} {xs : List Int} {a4 : Option Addr} {c4 : Nat} {hs : List SvH} {ss : List Sv} {k : Nat} (g : GenSt w0 w a c xs a4 c4 hs ss k) (hb : Below w.heap.size w w') : GenSt w0 w' a c xs a4 c4 hs ss k :=
  ⟨g.src.below hb (Nat.le_refl _), g.lst.below hb (Nat.le_refl _), g.bel.trans (hb.mono g.bel.size), g.ok⟩
theorem below_grownAt {w0 w w' : World} {g B : Nat} (h : Below B w0 w) (hg : w.grownBy w' (some g)) (hB : B ≤ g) (hs : B ≤ w.heap.size) : Below B w0 w' :=
  ⟨hg.os.trans h.os, hg.tape.trans h.tape, hg.output.trans h.output, Nat.le_trans h.size hg.size, fun k hk => by rw [hg.block k (by omega) (by simp; omega)]; exact h.block k hk⟩
theorem GenSt.moved {w0 w w' : World} {a : Option Addr} {c : Nat} {xs : List Int} {a4 : Option Addr} {c4 : Nat} {hs : List SvH} {ss : List Sv} {k k' : Nat} (g : GenSt w0 w a c xs a4 c4 hs ss k) (h : Src w' w0.heap.size a c xs k') (hg : w.grownBy w' (some w0.heap.size)) : GenSt w0 w' a c xs a4 c4 hs ss k' :=
  ⟨h, g.lst.keptLow hg (by omega), below_grownAt g.bel hg (Nat.le_refl _) g.bel.size, g.ok⟩
theorem genN_rd (w : World) : Rd Value.string (w.alloc (.cells #[.string ⟨#[97]⟩, .string ⟨#[107, 101, 121, 115]⟩, .string ⟨#[100, 97, 121]⟩, .string ⟨#[122, 122]⟩] 9)) (some ⟨w.heap.size, 0, none⟩) 4 genN := by
  refine ⟨by decide, by decide, by simp, fun _ => ⟨_, 0, rfl, by simp⟩, fun k hk => ?_⟩
  have hk4 : k < 4 := hk
  have b := Blk.new w #[.string ⟨#[97]⟩, .string ⟨#[107, 101, 121, 115]⟩, .string ⟨#[100, 97, 121]⟩, .string ⟨#[122, 122]⟩] 9
  match k, hk4 with
  | 0, _ => exact b.cell (i := 0) rfl
  | 1, _ => exact b.cell (i := 1) rfl
  | 2, _ => exact b.cell (i := 2) rfl
  | 3, _ => exact b.cell (i := 3) rfl
/-- The box that is filled. -/
structure BoxSt (w0 wb w : World) (a : Option Addr) (c : Nat) (xs : List Int) (b k : Nat) (h : SvH) (s : Sv) : Prop where
  at_ : wb.heap.size = b
  lo : w0.heap.size < b
  cod : 0 < xs.length → ∀ p, a = some p → p.block < b
  grw : wb.grownBy w (some w0.heap.size)
  src : Src w w0.heap.size a c xs k
  box : SvBx w b h s
section
variable {w0 wb w w' : World} {a : Option Addr} {c : Nat} {xs : List Int} {b k k' : Nat} {h h' : SvH} {s s' : Sv}
theorem BoxSt.moved (g : BoxSt w0 wb w a c xs b k h s) (hs : Src w' w0.heap.size a c xs k') (hg : w.grownBy w' (some w0.heap.size)) : BoxSt w0 wb w' a c xs b k' h s :=
  ⟨g.at_, g.lo, g.cod, grown_trans g.grw hg, hs, g.box.keptO hg g.lo⟩
theorem BoxSt.put (g : BoxSt w0 wb w a c xs b k h s) (q : SvBx w' b h' s') (hb : Below b w w') : BoxSt w0 wb w' a c xs b k h' s' :=
  ⟨g.at_, g.lo, g.cod, grown_thenBelow g.grw hb (Nat.le_of_eq g.at_), g.src.keptB hb g.lo g.cod, q⟩
theorem SvBx.setC4 {nm : ByteArray} (q : SvBx w b hd0 ⟨nm, 0, 0, 0, [], 0, [], [], []⟩) (hb : Below w.heap.size w w') {a' : Option Addr} {c' : Nat} {cs : List Int} (o : Own (Value.int .i64) 2 w' w.heap.size a' c' cs) (W D : Int) :
    SvBx ((((w'.setCell ⟨b, 1, none⟩ (.int .i64 W)).setCell ⟨b, 2, none⟩ (.int .i64 D)).setCell ⟨b, 3, none⟩ (.int .i64 7)).setCell ⟨b, 4, none⟩ (.slice a' cs.length c')) b ⟨a', c', none, 0, none, 0, none, 0⟩ ⟨nm, W, D, 7, cs, 0, [], [], []⟩ := by
  have hlt := q.blk.lt
  refine ⟨?_, ⟨q.own.nm, ?_, own_nil _ _ _ _, own_nil _ _ _ _, own_nil _ _ _ _⟩, ⟨?_, ?_, ?_, sep_none _, sep_none _, sep_none _⟩⟩
  · exact ((((q.blk.below hb (Nat.le_refl _)).set 1 (.int .i64 W)).set 2 (.int .i64 D)).set 3 (.int .i64 7)).set 4 (.slice a' cs.length c')
  · refine Own.mono (base := w.heap.size) ?_ (by omega)
    exact (((o.setFar _ _ hlt).setFar _ _ hlt).setFar _ _ hlt).setFar _ _ hlt
  · exact fun p q _ hq => by simp [hd0] at hq
  · exact fun p q _ hq => by simp [hd0] at hq
  · exact fun p q _ hq => by simp [hd0] at hq
theorem SvBx.setT4 {nm : ByteArray} {W D S R : Int} {cs : List Int} {a' : Option Addr} {c' : Nat} (q : SvBx w b ⟨a', c', none, 0, none, 0, none, 0⟩ ⟨nm, W, D, S, cs, 0, [], [], []⟩) :
    SvBx ((((w.setCell ⟨b, 5, none⟩ (.int .i64 R)).setCell ⟨b, 6, none⟩ (.slice none 0 0)).setCell ⟨b, 7, none⟩ (.slice none 0 0)).setCell ⟨b, 8, none⟩ (.slice none 0 0)) b ⟨a', c', none, 0, none, 0, none, 0⟩ ⟨nm, W, D, S, cs, R, [], [], []⟩ := by
  refine ⟨?_, ⟨q.own.nm, ?_, own_nil _ _ _ _, own_nil _ _ _ _, own_nil _ _ _ _⟩, q.sep⟩
  · exact (((q.blk.set 5 (.int .i64 R)).set 6 (.slice none 0 0)).set 7 (.slice none 0 0)).set 8 (.slice none 0 0)
  · have o := q.own.cs
    exact (((o.setFar _ _ (Nat.lt_succ_self b)).setFar _ _ (Nat.lt_succ_self b)).setFar _ _ (Nat.lt_succ_self b)).setFar _ _ (Nat.lt_succ_self b)
end
theorem boxStart {w0 wb : World} {a : Option Addr} {c : Nat} {xs : List Int} {a4 : Option Addr} {c4 : Nat} {hs : List SvH} {ss : List Sv} {k : Nat} (g : GenSt w0 wb a c xs a4 c4 hs ss k) {nm : ByteArray} (hn : nm.size ≤ 4) :
    BoxSt w0 wb (wb.alloc (.cells (svV hd0 ⟨nm, 0, 0, 0, [], 0, [], [], []⟩) 28)) a c xs wb.heap.size k hd0 ⟨nm, 0, 0, 0, [], 0, [], [], []⟩ := by
  have hb := (Below.refl wb.heap.size wb).alloc (Nat.le_refl _) (.cells (svV hd0 ⟨nm, 0, 0, 0, [], 0, [], [], []⟩) 28)
  refine ⟨rfl, g.src.lt, fun h0 p hp => ?_, belowG hb _, g.src.below hb (Nat.le_refl _), ⟨Blk.new _ _ _, ⟨by show nm.size ≤ _; omega, own_nil _ _ _ _, own_nil _ _ _ _, own_nil _ _ _ _, own_nil _ _ _ _⟩, svSep0⟩⟩
  obtain ⟨b, o, e, hlt⟩ := g.src.rd.here h0
  rw [e] at hp; simp at hp; subst hp; exact hlt
theorem genNext {w0 wb w w' : World} {a : Option Addr} {c : Nat} {xs : List Int} {b k : Nat} {h : SvH} {s : Sv} {a4 a9 : Option Addr} {c4 c9 : Nat} {hs : List SvH} {ss : List Sv} (g : BoxSt w0 wb w a c xs b k h s) (l : Lst9 w (w0.heap.size + 1) a4 c4 hs ss) (bel : Below w0.heap.size w0 w)
    (cod : 0 < xs.length → ∀ p, a = some p → p.block < w0.heap.size) (ok : ∀ s ∈ ss, savedV s = true) (sv : savedV s = true) (l9 : Lst9 w' (w0.heap.size + 1) a9 c9 (hs ++ [h]) (ss ++ [s])) (hg : w.grownBy w' (a4.map (·.block))) (hbs : w0.heap.size + 1 ≤ w.heap.size) :
    GenSt w0 w' a c xs a9 c9 (hs ++ [h]) (ss ++ [s]) k := by
  have hne : ∀ g, g < w0.heap.size + 1 → some g ≠ a4.map (·.block) := fun g hlt he => by
    cases ha : a4 with
    | none => rw [ha] at he; simp at he
    | some q => have := (l.blk q ha).1; rw [ha] at he; simp at he; omega
  refine ⟨g.src.kept hg (hne _ (by omega)) (fun h0 p hp => hne _ (by have := cod h0 p hp; omega)), l9, bel.trans (lst_belowOwn l hg (by omega) (by omega)), fun x hx => ?_⟩
  rcases List.mem_append.1 hx with h1 | h1
  · exact ok x h1
  · simp at h1; subst h1; exact sv

set_option maxRecDepth 8000 in
set_option maxHeartbeats 4000000 in
theorem b10Saved_any {w : World} {a : Option Addr} {c : Nat} {xs : List Int} (hr : Rd (Value.int .u8) w a c xs) (hb : ∀ x ∈ xs, 0 ≤ x ∧ x < 256) :
    Calls Try.prog 26 #[.slice a xs.length c] w (RetGen w) := by
  have HS0 := Lib.hid (src_new hr hb)
  have HCOD : Hid (0 < xs.length → ∀ p, a = some p → p.block < w.heap.size) := Lib.hid (fun h0 p hp => by obtain ⟨g, o, e, hlt⟩ := hr.here h0; rw [e] at hp; simp at hp; subst hp; exact hlt)
  clear hr hb
  go_enter Try.func26, Try.ntmps26
  go_wp2_with fail
  refine l00From_any.mono ?_
  rintro e w1 ⟨rfl, hw1⟩
  have HB1 : Hid (Below w.heap.size w w1) := Lib.hid (hw1 ▸ (Below.refl w.heap.size w).alloc (Nat.le_refl _) _)
  have hz1 : w1.heap.size = w.heap.size + 1 := by rw [← hw1]; simp
  rw [hw1] at HS0
  clear hw1
  go_upto_region 3 with (fail)
  have HG : Hid (GenSt w (w1.alloc (.cells #[] 28)) a c xs (some ⟨w.heap.size + 1, 0, none⟩) 0 [] [] 0) := Lib.hid ⟨HS0.out.below ((Below.refl w1.heap.size w1).alloc (Nat.le_refl _) _) (Nat.le_refl _), by have l := Lst9.start (base := w.heap.size + 1) w1 (by omega); rwa [hz1] at l, HB1.out.alloc (by omega) _, fun s hs => by simp at hs⟩
  obtain ⟨a0, ha0⟩ : ∃ z : Option Addr, (some ⟨w.heap.size + 1, 0, none⟩ : Option Addr) = z := ⟨_, rfl⟩
  rw [ha0] at HG ⊢
  change Code.wp _ _ _ _ (w1.alloc (.cells #[] 28))
  generalize w1.alloc (.cells #[] 28) = w2 at HG ⊢
  clear ha0 HB1 HS0 hz1
  go_wp2_with fail
  refine (pick_any (n := 5) HG.out.src (by omega) (by omega) (by omega)).mono ?_
  rintro e w3 ⟨n0, rfl, hn0, hs3, hg3⟩
  have HG3 : Hid (GenSt w w3 a c xs a0 0 [] [] 1) := Lib.hid ⟨hs3, HG.out.lst.keptLow hg3 (by omega), ⟨hg3.os.trans HG.out.bel.os, hg3.tape.trans HG.out.bel.tape, hg3.output.trans HG.out.bel.output, Nat.le_trans HG.out.bel.size hg3.size, fun k hk => by rw [hg3.block k (Nat.lt_of_lt_of_le hk HG.out.bel.size) (by simp; omega)]; exact HG.out.bel.block k hk⟩, HG.out.ok⟩
  clear hs3 hg3 HG
  go_wp2_with fail
  go_loopw [4, 5] (fun v4 v5 wr => ∃ (a4 : Option Addr) (c4 : Nat) (hs : List SvH) (ss : List Sv) (n k : Nat), v4 = .slice a4 ss.length c4 ∧ v5 = .int .i64 (n : Int) ∧ ss.length + n ≤ 4 ∧ k + 20 * n ≤ 100 ∧ Hid (GenSt w wr a c xs a4 c4 hs ss k)) (fun _ v5 _ => (intOf v5).toNat)
  case atStart => exact ⟨a0, 0, [], [], n0, 1, rfl, rfl, by simp; omega, by omega, HG3⟩
  case round =>
    clear HG3 hn0
    obtain ⟨a4, c4, hs, ss, n, k, rfl, rfl, hn, hk, HG⟩ := hrel
    by_cases h0 : n = 0
    · have hz : ¬ (0 : Int) < (n : Int) := by omega
      have hz2 : decide ((n : Int) > 0) = false := decide_eq_false (by omega)
      clear hz
      go_wp2
      go_ret
      exact ⟨a4, c4, hs, ss, rfl, HG.out.lst.mono (by omega), by omega, HG.out.ok, HG.out.bel⟩
    · obtain ⟨m, rfl⟩ : ∃ m, n = m + 1 := ⟨n - 1, by omega⟩
      have hz : (0 : Int) < ((m + 1 : Nat) : Int) := by omega
      have hdi : decide ((0 : Int) < (m : Int) + 1) = true := decide_eq_true (by omega)
      go_wp2_with fail
      have HGa := Lib.hid (HG.out.below ((Below.refl wr.heap.size wr).alloc (Nat.le_refl _) (.cells #[.string ⟨#[97]⟩, .string ⟨#[107, 101, 121, 115]⟩, .string ⟨#[100, 97, 121]⟩, .string ⟨#[122, 122]⟩] 9)))
      have hsb : w.heap.size < wr.heap.size := HG.out.src.lt
      refine (text_any HGa.out.src (by omega) (genN_rd wr) rfl (fun p hp => by simp at hp; subst hp; show wr.heap.size ≠ _; omega)).mono ?_
      rintro e w5 ⟨nm, rfl, hnm, hs5, hg5⟩
      have HG5 := Lib.hid (HGa.out.moved hs5 hg5)
      have HNM := Lib.hid (genN_ok nm hnm)
      clear hs5 hg5 HGa HG hnm hsb
      go_upto_region 7 with (fail)
      have HBX := Lib.hid (boxStart HG5.out HNM.out.2)
      obtain ⟨b, hbz⟩ : ∃ b, w5.heap.size = b := ⟨_, rfl⟩
      rw [hbz] at HBX ⊢
      have HBZ := Lib.hid hbz
      change Code.wp _ _ _ _ (w5.alloc (.cells (svV hd0 ⟨nm, 0, 0, 0, [], 0, [], [], []⟩) 28))
      generalize w5.alloc (.cells (svV hd0 ⟨nm, 0, 0, 0, [], 0, [], [], []⟩) 28) = w6 at HBX ⊢
      clear hbz
      go_wp2_with fail
      refine (pick_any (n := 3) HBX.out.src (by omega) (by omega) (by omega)).mono ?_
      rintro e w7 ⟨v1, rfl, hv1, hs7, hg7⟩
      have HB7 := Lib.hid (HBX.out.moved hs7 hg7)
      clear hs7 hg7 HBX
      obtain ⟨W, hW⟩ : ∃ W, 2 + v1 = W := ⟨_, rfl⟩
      have eW : (2 : Int) + (v1 : Int) = (W : Int) := by omega
      have eWw : IntKind.i64.wrap (W : Int) = (W : Int) := IntWalk.i64_in _ (by omega)
      go_upto_region 8 with (fail)
      clear eW eWw
      go_wp2_with fail
      refine (pick_any (n := 2) HB7.out.src (by omega) (by omega) (by omega)).mono ?_
      rintro e w8 ⟨v2, rfl, hv2, hs8, hg8⟩
      have HB8 := Lib.hid (HB7.out.moved hs8 hg8)
      clear hs8 hg8 HB7
      obtain ⟨D, hD⟩ : ∃ D, 1 + v2 = D := ⟨_, rfl⟩
      have eD : (1 : Int) + (v2 : Int) = (D : Int) := by omega
      have eDw : IntKind.i64.wrap (D : Int) = (D : Int) := IntWalk.i64_in _ (by omega)
      go_upto_region 9 with (fail)
      clear eD eDw
      go_wp2_with fail
      refine (l03New_any (W := W) (D := D) (by omega) (by omega)).mono ?_
      rintro e w9 ⟨ac, cc, rfl, hoc, hbc⟩
      have hlc : (List.replicate (W * D) (0 : Int)).length = W * D := List.length_replicate
      have BK := HB8.out.box.blk.below hbc (Nat.le_refl _)
      have f1 := BK.free 1
      have f2 := BK.free 2
      have f3 := BK.free 3
      have f4 := BK.free 4
      have d1 := BK.cell (i := 1) (v := .int .i64 0) rfl
      have d2 := BK.cell (i := 2) (v := .int .i64 0) rfl
      have d3 := BK.cell (i := 3) (v := .int .i64 0) rfl
      have d4 := BK.cell (i := 4) (v := .slice none 0 0) rfl
      go_upto_region 10 with (fail)
      have HX9 := HB8.out.box.setC4 hbc hoc (W : Int) (D : Int)
      rw [hlc] at HX9
      have HBB9 := ((((hbc.mono (Nat.le_of_lt HB8.out.box.blk.lt)).setCell (p := ⟨b, 1, none⟩) (Nat.le_refl b) (.int .i64 (W : Int))).setCell (p := ⟨b, 2, none⟩) (Nat.le_refl b) (.int .i64 (D : Int))).setCell (p := ⟨b, 3, none⟩) (Nat.le_refl b) (.int .i64 7)).setCell (p := ⟨b, 4, none⟩) (Nat.le_refl b) (.slice ac (W * D) cc)
      have HB9 := Lib.hid (HB8.out.put HX9 HBB9)
      have HL9 : Hid ((List.replicate (W * D) (0 : Int)).length = D * W) := Lib.hid (by rw [hlc, Nat.mul_comm])
      have HM9 : Hid (∀ x ∈ List.replicate (W * D) (0 : Int), 0 ≤ x ∧ x ≤ 50) := Lib.hid (fun x hx => by have := List.eq_of_mem_replicate hx; omega)
      clear f1 f2 f3 f4 d1 d2 d3 d4 BK HX9 HBB9 hoc hbc hlc HB8
      generalize (((w9.setCell ⟨b, 1, none⟩ (.int .i64 (W : Int))).setCell ⟨b, 2, none⟩ (.int .i64 (D : Int))).setCell ⟨b, 3, none⟩ (.int .i64 7)).setCell ⟨b, 4, none⟩ (.slice ac (W * D) cc) = w10 at HB9 ⊢
      generalize List.replicate (W * D) (0 : Int) = cs0 at HB9 HL9 HM9
      go_wp2_with fail
      refine (pick_any (n := 6) HB9.out.src (by omega) (by omega) (by omega)).mono ?_
      rintro e w11 ⟨q0, rfl, hq0, hs11, hg11⟩
      have HB11 := Lib.hid (HB9.out.moved hs11 hg11)
      clear hs11 hg11 HB9
      obtain ⟨wo, rfl⟩ : ∃ z : World, z = wr := ⟨_, rfl⟩
      go_wp2_with fail
      go_loopw [9] (fun v9 wr => ∃ (q k2 : Nat) (cs : List Int), v9 = .int .i64 (q : Int) ∧ q ≤ 5 ∧ k2 + q ≤ k + 9 ∧ Hid (BoxSt w w5 wr a c xs b k2 ⟨ac, cc, none, 0, none, 0, none, 0⟩ ⟨nm, W, D, 7, cs, 0, [], [], []⟩) ∧ Hid (cs.length = D * W) ∧ Hid (∀ x ∈ cs, 0 ≤ x ∧ x ≤ 100 - 10 * (q : Int))) (fun v9 _ => (intOf v9).toNat)
      case atStart => exact ⟨q0, k + 1 + 1 + 1 + 1, cs0, rfl, by omega, by omega, HB11, HL9, Lib.hid (fun x hx => by have := HM9.out x hx; omega)⟩
      case round =>
        clear HB11 HL9 HM9 hq0
        obtain ⟨q, k2, cs, rfl, hq, hk2, HB, HLC, HMC⟩ := hrel
        by_cases hq0 : q = 0
        · obtain rfl := hq0
          have HC := Lib.hid HB
          have hk3 : k2 ≤ k + 9 := by omega
          clear hq hk2
          go_upto_region 15 with (fail)
          go_wp2_with fail
          refine (pick_any (n := 3) HB.out.src (by omega) (by omega) (by omega)).mono ?_
          rintro e w14 ⟨v3, rfl, hv3, hs14, hg14⟩
          have HB14 := Lib.hid (HB.out.moved hs14 hg14)
          clear hs14 hg14 HB HC
          obtain ⟨R, hR⟩ : ∃ R, 1 + v3 = R := ⟨_, rfl⟩
          have eR : (1 : Int) + (v3 : Int) = (R : Int) := by omega
          have eRw : IntKind.i64.wrap (R : Int) = (R : Int) := IntWalk.i64_in _ (by omega)
          have f5 := HB14.out.box.blk.free 5
          have f6 := HB14.out.box.blk.free 6
          have f7 := HB14.out.box.blk.free 7
          have f8 := HB14.out.box.blk.free 8
          have d5 := HB14.out.box.blk.cell (i := 5) (v := .int .i64 0) rfl
          have d6 := HB14.out.box.blk.cell (i := 6) (v := .slice none 0 0) rfl
          have d7 := HB14.out.box.blk.cell (i := 7) (v := .slice none 0 0) rfl
          have d8 := HB14.out.box.blk.cell (i := 8) (v := .slice none 0 0) rfl
          go_upto_region 16 with (fail)
          clear eR eRw
          have HX14 := HB14.out.box.setT4 (R := (R : Int))
          have HBB14 := ((((Below.refl b w14).setCell (p := ⟨b, 5, none⟩) (Nat.le_refl b) (.int .i64 (R : Int))).setCell (p := ⟨b, 6, none⟩) (Nat.le_refl b) (.slice none 0 0)).setCell (p := ⟨b, 7, none⟩) (Nat.le_refl b) (.slice none 0 0)).setCell (p := ⟨b, 8, none⟩) (Nat.le_refl b) (.slice none 0 0)
          have HB15 := Lib.hid (HB14.out.put HX14 HBB14)
          clear f5 f6 f7 f8 d5 d6 d7 d8 HX14 HBB14 HB14
          generalize (((w14.setCell ⟨b, 5, none⟩ (.int .i64 (R : Int))).setCell ⟨b, 6, none⟩ (.slice none 0 0)).setCell ⟨b, 7, none⟩ (.slice none 0 0)).setCell ⟨b, 8, none⟩ (.slice none 0 0) = w15 at HB15 ⊢
          go_wp2_with fail
          refine (pick_any (n := 6) HB15.out.src (by omega) (by omega) (by omega)).mono ?_
          rintro e w16 ⟨q1, rfl, hq1, hs16, hg16⟩
          have HB16 := Lib.hid (HB15.out.moved hs16 hg16)
          clear hs16 hg16 HB15
          obtain ⟨wo2, rfl⟩ : ∃ z : World, z = wr := ⟨_, rfl⟩
          go_wp2_with fail
          go_loopw [11] (fun v11 wr => ∃ (q k3 : Nat) (h : SvH) (ks ts es : List Int), v11 = .int .i64 (q : Int) ∧ q ≤ 5 ∧ k3 + q ≤ k + 17 ∧ Hid (BoxSt w w5 wr a c xs b k3 h ⟨nm, W, D, 7, cs, R, ks, ts, es⟩) ∧ Hid (TopOk R (10 - (q : Int)) ks ts es)) (fun v11 _ => (intOf v11).toNat)
          case atStart => exact ⟨q1, _, _, [], [], [], rfl, by omega, by omega, HB16, Lib.hid (TopOk.nil (by omega))⟩
          case round =>
            clear HB16 hq1
            obtain ⟨q, k3, h, ks, ts, es, rfl, hq, hk4, HB, HT⟩ := hrel
            by_cases hq1 : q = 0
            · obtain rfl := hq1
              have hbz := HBZ.out
              have e0 := HB.out.box.blk.cell (i := 0) (v := .string nm) rfl
              have e1 := HB.out.box.blk.cell (i := 1) (v := .int .i64 (W : Int)) rfl
              have e2 := HB.out.box.blk.cell (i := 2) (v := .int .i64 (D : Int)) rfl
              have e3 := HB.out.box.blk.cell (i := 3) (v := .int .i64 7) rfl
              have e4 := HB.out.box.blk.cell (i := 4) (v := .slice h.a0 cs.length h.c0) rfl
              have e5 := HB.out.box.blk.cell (i := 5) (v := .int .i64 (R : Int)) rfl
              have e6 := HB.out.box.blk.cell (i := 6) (v := .slice h.a1 ks.length h.c1) rfl
              have e7 := HB.out.box.blk.cell (i := 7) (v := .slice h.a2 ts.length h.c2) rfl
              have e8 := HB.out.box.blk.cell (i := 8) (v := .slice h.a3 es.length h.c3) rfl
              have HL := Lib.hid (HG5.out.lst.keptLow HB.out.grw (Nat.lt_succ_self _))
              have HO : Hid (SvOwn wr (b + 1) h ⟨nm, W, D, 7, cs, R, ks, ts, es⟩) := Lib.hid HB.out.box.own
              have HSP := Lib.hid HB.out.box.sep
              have HAP : Hid (∀ (i : Nat) (h' : SvH), hs[i]? = some h' → Apart h' h) := Lib.hid (fun i h' hi => apart_of (hi := b + 1) (fun ad had p hp => by
                have hlt : i < ss.length := by rw [← HG5.out.lst.len]; exact (List.getElem?_eq_some_iff.1 hi).1
                have := ((HG5.out.lst.own i h' _ hi (List.getElem?_eq_getElem hlt)).1.lt ad had p hp).2
                omega) HO.out)
              have hlo := HB.out.lo
              have hbs : w.heap.size + 1 ≤ wr.heap.size := by have := HB.out.box.blk.lt; omega
              have hlo2 : w.heap.size + 1 ≤ b + 1 := by omega
              have BB := Lib.hid (below_grownAt HG5.out.bel HB.out.grw (Nat.le_refl _) HG5.out.bel.size)
              have SV : Hid (savedV ⟨nm, W, D, 7, cs, R, ks, ts, es⟩ = true) := Lib.hid (gen_saved HNM.out.1 (by omega) (by omega) (by omega) (by omega) HLC.out HMC.out (by omega) HT.out (by omega) (by omega) (by omega))
              have ewm : IntKind.i64.wrap (m : Int) = (m : Int) := IntWalk.i64_in _ (by omega)
              have HOK := Lib.hid HG5.out.ok
              clear hbz HLC HMC HT HNM HG5 HBZ hq
              go_wp2_with (at_builtin; refine wpl_append9 (base := w.heap.size + 1) und_svie info_sv rfl HL.out (h := h) (x := ⟨nm, W, D, 7, cs, R, ks, ts, es⟩) HO.out hlo2 HSP.out HAP.out rfl _ _ rfl rfl rfl (by omega) (by omega) hbs ?_; intro a9 c9 w19 ho9 hg9 hl9; have HN := Lib.hid (genNext HB.out HL.out BB.out HCOD.out HOK.out SV.out ho9 hg9 hbs); clear ho9 hg9 hl9)
              go_roundw
              case rel => exact ⟨a9, c9, _, ss ++ [⟨nm, W, D, 7, cs, R, ks, ts, es⟩], m, k3, by simp, by go_num, by simp; omega, by omega, HN⟩
              case measure => simp [intOf]
            · obtain ⟨r, rfl⟩ : ∃ r, q = r + 1 := ⟨q - 1, by omega⟩
              have hqz : (0 : Int) < ((r + 1 : Nat) : Int) := by omega
              have hqd : decide ((0 : Int) < (r : Int) + 1) = true := decide_eq_true (by omega)
              go_wp2_with fail
              refine (pick_any (n := 5) HB.out.src (by omega) (by omega) (by omega)).mono ?_
              rintro e w17 ⟨key, rfl, hkey, hs17, hg17⟩
              have HB17 := Lib.hid (HB.out.moved hs17 hg17)
              clear hs17 hg17 HB
              go_wp2_with fail
              refine (l03Top_any HB17.out.box HT.out (by omega) (by omega) (by omega) (by omega) (by omega) (by omega)).mono ?_
              rintro e w18 ⟨rfl, h2, ks2, ts2, es2, hq18, ht18, hb18⟩
              have HB18 := Lib.hid (HB17.out.put hq18 hb18)
              have HT18 : Hid (TopOk R (10 - (r : Int)) ks2 ts2 es2) := Lib.hid (by rw [show (10 : Int) - ((r + 1 : Nat) : Int) + 1 = 10 - (r : Int) by omega] at ht18; exact ht18)
              clear hq18 ht18 hb18 HB17 HT
              have ewr : IntKind.i64.wrap (r : Int) = (r : Int) := IntWalk.i64_in _ (by omega)
              go_wp2
              go_roundw
              case rel => exact ⟨r, k3 + 1, h2, ks2, ts2, es2, by go_num, by omega, by omega, HB18, HT18⟩
              case measure => simp [intOf]
        · obtain ⟨r, rfl⟩ : ∃ r, q = r + 1 := ⟨q - 1, by omega⟩
          have hqz : (0 : Int) < ((r + 1 : Nat) : Int) := by omega
          have hqd : decide ((0 : Int) < (r : Int) + 1) = true := decide_eq_true (by omega)
          go_wp2_with fail
          refine (pick_any (n := 9) HB.out.src (by omega) (by omega) (by omega)).mono ?_
          rintro e w12 ⟨key, rfl, hkey, hs12, hg12⟩
          have HB12 := Lib.hid (HB.out.moved hs12 hg12)
          clear hs12 hg12 HB
          go_wp2_with fail
          refine (l03Put_any (M := 100 - 10 * ((r + 1 : Nat) : Int)) HB12.out.box (by omega) (by omega) (by omega) HLC.out (by omega) (by omega) HMC.out (by omega)).mono ?_
          rintro e w13 ⟨rfl, cs2, hq13, hl13, hm13, hb13⟩
          have HB13 := Lib.hid (HB12.out.put hq13 hb13)
          have HL13 := Lib.hid hl13
          have HM13 : Hid (∀ x ∈ cs2, 0 ≤ x ∧ x ≤ 100 - 10 * (r : Int)) := Lib.hid (fun x hx => by have := hm13 x hx; omega)
          clear hq13 hl13 hm13 hb13 HB12 HLC HMC
          have ewr : IntKind.i64.wrap (r : Int) = (r : Int) := IntWalk.i64_in _ (by omega)
          go_wp2
          go_roundw
          case rel => exact ⟨r, k2 + 1, cs2, by go_num, by omega, by omega, HB13, HL13, HM13⟩
          case measure => simp [intOf]

end Go.Proofs.Ytdpolaedfjljmaa
