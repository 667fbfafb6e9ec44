/- Are two lists of saved ones the same, in both texts. -/
import Derived.Test.YtdpolaedfjljmaaSvH
import Derived.Test.YtdpolaedfjljmaaSameCells
import Derived.Test.YtdpolaedfjljmaaSameTops
namespace Go.Proofs.Ytdpolaedfjljmaa
open Go.RowKit

def sameSv (s t : Sv) : Bool := (s.nm.toList == t.nm.toList) && sameCells s.W t.W s.D t.D s.S t.S s.cs t.cs && sameTops s.R t.R s.ks t.ks s.ts t.ts s.es t.es
def sameSvs (ss tt : List Sv) : Bool := decide (ss.length = tt.length) && (List.range ss.length).all fun k => match ss[k]?, tt[k]? with
  | some s, some t => sameSv s t
  | _, _ => false
theorem sameSvs_len {ss tt : List Sv} (h : ¬ ss.length = tt.length) : sameSvs ss tt = false := by unfold sameSvs; rw [decide_eq_false h]; rfl
theorem sameSvs_no {ss tt : List Sv} {k : Nat} (h1 : k < ss.length) (h2 : k < tt.length) (h : sameSv ss[k] tt[k] = false) : sameSvs ss tt = false := by
  unfold sameSvs
  rw [Bool.and_eq_false_iff]
  right
  rw [List.all_eq_false]
  refine ⟨k, List.mem_range.2 h1, ?_⟩
  rw [List.getElem?_eq_getElem h1, List.getElem?_eq_getElem h2]
  simp only [h]
  simp
theorem sameSvs_yes {ss tt : List Sv} (hl : ss.length = tt.length) (h : ∀ k (h1 : k < ss.length) (h2 : k < tt.length), sameSv ss[k] tt[k] = true) : sameSvs ss tt = true := by
  unfold sameSvs
  rw [Bool.and_eq_true]
  refine ⟨decide_eq_true hl, ?_⟩
  rw [List.all_eq_true]
  intro k hk
  have h1 : k < ss.length := List.mem_range.1 hk
  rw [List.getElem?_eq_getElem h1, List.getElem?_eq_getElem (hl ▸ h1)]
  exact h k h1 (hl ▸ h1)

set_option maxHeartbeats 1000000 in
theorem same1_any {h q : SvH} {s t : Sv} {w : World} (g1 : SvRd w h s) (g2 : SvRd w q t) :
    Calls Try.prog 75 #[.agg #[.string s.nm, .int .i64 s.W, .int .i64 s.D, .int .i64 s.S, .slice h.a0 s.cs.length h.c0, .int .i64 s.R, .slice h.a1 s.ks.length h.c1, .slice h.a2 s.ts.length h.c2, .slice h.a3 s.es.length h.c3], .agg #[.string t.nm, .int .i64 t.W, .int .i64 t.D, .int .i64 t.S, .slice q.a0 t.cs.length q.c0, .int .i64 t.R, .slice q.a1 t.ks.length q.c1, .slice q.a2 t.ts.length q.c2, .slice q.a3 t.es.length q.c3]] w fun e w' => e = .returned (.bool (sameSv s t)) ∧ Below w.heap.size w w' := by
  have B0 : Below w.heap.size w ((w.alloc (.cells #[.string s.nm, .int .i64 s.W, .int .i64 s.D, .int .i64 s.S, .slice h.a0 s.cs.length h.c0, .int .i64 s.R, .slice h.a1 s.ks.length h.c1, .slice h.a2 s.ts.length h.c2, .slice h.a3 s.es.length h.c3] 28)).alloc (.cells #[.string t.nm, .int .i64 t.W, .int .i64 t.D, .int .i64 t.S, .slice q.a0 t.cs.length q.c0, .int .i64 t.R, .slice q.a1 t.ks.length q.c1, .slice q.a2 t.ts.length q.c2, .slice q.a3 t.es.length q.c3] 28)) := ((Below.refl _ _).alloc (Nat.le_refl _) _).alloc (by simp) _
  have I0 : Blk ((w.alloc (.cells #[.string s.nm, .int .i64 s.W, .int .i64 s.D, .int .i64 s.S, .slice h.a0 s.cs.length h.c0, .int .i64 s.R, .slice h.a1 s.ks.length h.c1, .slice h.a2 s.ts.length h.c2, .slice h.a3 s.es.length h.c3] 28)).alloc (.cells #[.string t.nm, .int .i64 t.W, .int .i64 t.D, .int .i64 t.S, .slice q.a0 t.cs.length q.c0, .int .i64 t.R, .slice q.a1 t.ks.length q.c1, .slice q.a2 t.ts.length q.c2, .slice q.a3 t.es.length q.c3] 28)) w.heap.size #[.string s.nm, .int .i64 s.W, .int .i64 s.D, .int .i64 s.S, .slice h.a0 s.cs.length h.c0, .int .i64 s.R, .slice h.a1 s.ks.length h.c1, .slice h.a2 s.ts.length h.c2, .slice h.a3 s.es.length h.c3] 28 := (Blk.new _ _ _).alloc _
  have J0 : Blk ((w.alloc (.cells #[.string s.nm, .int .i64 s.W, .int .i64 s.D, .int .i64 s.S, .slice h.a0 s.cs.length h.c0, .int .i64 s.R, .slice h.a1 s.ks.length h.c1, .slice h.a2 s.ts.length h.c2, .slice h.a3 s.es.length h.c3] 28)).alloc (.cells #[.string t.nm, .int .i64 t.W, .int .i64 t.D, .int .i64 t.S, .slice q.a0 t.cs.length q.c0, .int .i64 t.R, .slice q.a1 t.ks.length q.c1, .slice q.a2 t.ts.length q.c2, .slice q.a3 t.es.length q.c3] 28)) (w.heap.size + 1) #[.string t.nm, .int .i64 t.W, .int .i64 t.D, .int .i64 t.S, .slice q.a0 t.cs.length q.c0, .int .i64 t.R, .slice q.a1 t.ks.length q.c1, .slice q.a2 t.ts.length q.c2, .slice q.a3 t.es.length q.c3] 28 := Blk.new' (by simp)
  have H0 := Lib.hid (And.intro B0 (And.intro I0 J0))
  clear B0 I0 J0
  cases h0 : (s.nm.toList == t.nm.toList) with
  | false =>
    have he : sameSv s t = false := by unfold sameSv; rw [h0]; rfl
    rw [he]
    clear he
    go_enter Try.func75, Try.ntmps75
    go_wp2
    go_ret
    exact ⟨rfl, H0.out.1⟩
  | true =>
  cases h1 : sameCells s.W t.W s.D t.D s.S t.S s.cs t.cs with
  | false =>
    have he : sameSv s t = false := by unfold sameSv; rw [h0, h1]; rfl
    rw [he]
    clear he
    go_enter Try.func75, Try.ntmps75
    go_wp2_with fail
    generalize ((w.alloc (.cells #[.string s.nm, .int .i64 s.W, .int .i64 s.D, .int .i64 s.S, .slice h.a0 s.cs.length h.c0, .int .i64 s.R, .slice h.a1 s.ks.length h.c1, .slice h.a2 s.ts.length h.c2, .slice h.a3 s.es.length h.c3] 28)).alloc (.cells #[.string t.nm, .int .i64 t.W, .int .i64 t.D, .int .i64 t.S, .slice q.a0 t.cs.length q.c0, .int .i64 t.R, .slice q.a1 t.ks.length q.c1, .slice q.a2 t.ts.length q.c2, .slice q.a3 t.es.length q.c3] 28)) = w0 at H0 ⊢
    have B0 := Lib.hid H0.out.1
    have I0 := Lib.hid H0.out.2.1
    have J0 := Lib.hid H0.out.2.2
    clear H0
    refine (sameCellsI_any (g1.cs.below B0.out (Nat.le_refl _)) (g2.cs.below B0.out (Nat.le_refl _))).mono ?_
    rintro e w1 ⟨rfl, hb0⟩
    rw [h1]
    have B1 := Lib.hid (B0.out.trans (hb0.mono B0.out.size))
    have I1 := Lib.hid (I0.out.below hb0 (Nat.le_refl _))
    have J1 := Lib.hid (J0.out.below hb0 (Nat.le_refl _))
    clear hb0 B0 I0 J0
    go_wp2
    go_ret
    exact ⟨rfl, B1.out⟩
  | true =>
  have he : sameSv s t = sameTops s.R t.R s.ks t.ks s.ts t.ts s.es t.es := by unfold sameSv; rw [h0, h1]; rfl
  rw [he]
  clear he
  go_enter Try.func75, Try.ntmps75
  go_wp2_with fail
  generalize ((w.alloc (.cells #[.string s.nm, .int .i64 s.W, .int .i64 s.D, .int .i64 s.S, .slice h.a0 s.cs.length h.c0, .int .i64 s.R, .slice h.a1 s.ks.length h.c1, .slice h.a2 s.ts.length h.c2, .slice h.a3 s.es.length h.c3] 28)).alloc (.cells #[.string t.nm, .int .i64 t.W, .int .i64 t.D, .int .i64 t.S, .slice q.a0 t.cs.length q.c0, .int .i64 t.R, .slice q.a1 t.ks.length q.c1, .slice q.a2 t.ts.length q.c2, .slice q.a3 t.es.length q.c3] 28)) = w0 at H0 ⊢
  have B0 := Lib.hid H0.out.1
  have I0 := Lib.hid H0.out.2.1
  have J0 := Lib.hid H0.out.2.2
  clear H0
  refine (sameCellsI_any (g1.cs.below B0.out (Nat.le_refl _)) (g2.cs.below B0.out (Nat.le_refl _))).mono ?_
  rintro e w1 ⟨rfl, hb0⟩
  rw [h1]
  have B1 := Lib.hid (B0.out.trans (hb0.mono B0.out.size))
  have I1 := Lib.hid (I0.out.below hb0 (Nat.le_refl _))
  have J1 := Lib.hid (J0.out.below hb0 (Nat.le_refl _))
  clear hb0 B0 I0 J0
  have i5 := I1.out.cell (i := 5) (v := .int .i64 s.R) rfl
  have j5 := J1.out.cell (i := 5) (v := .int .i64 t.R) rfl
  have i6 := I1.out.cell (i := 6) (v := .slice h.a1 s.ks.length h.c1) rfl
  have j6 := J1.out.cell (i := 6) (v := .slice q.a1 t.ks.length q.c1) rfl
  have i7 := I1.out.cell (i := 7) (v := .slice h.a2 s.ts.length h.c2) rfl
  have j7 := J1.out.cell (i := 7) (v := .slice q.a2 t.ts.length q.c2) rfl
  have i8 := I1.out.cell (i := 8) (v := .slice h.a3 s.es.length h.c3) rfl
  have j8 := J1.out.cell (i := 8) (v := .slice q.a3 t.es.length q.c3) rfl
  go_wp2_with fail
  refine (sameTopsI_any (g1.ks.below B1.out (Nat.le_refl _)) (g2.ks.below B1.out (Nat.le_refl _)) (g1.ts.below B1.out (Nat.le_refl _)) (g2.ts.below B1.out (Nat.le_refl _)) (g1.es.below B1.out (Nat.le_refl _)) (g2.es.below B1.out (Nat.le_refl _))).mono ?_
  rintro e w2 ⟨rfl, hb1⟩
  have B2 := Lib.hid (B1.out.trans (hb1.mono B1.out.size))
  clear hb1 B1 i5 j5 i6 j6 i7 j7 i8 j8 I1 J1
  go_wp2
  go_ret
  exact ⟨rfl, B2.out⟩

theorem call_sameSv1 (vs : Array Value) (w : World) : (callFunc 75 vs).run Try.prog w = .ok (.enter 75 vs) w := by kernel_rfl

set_option maxHeartbeats 1000000 in
theorem eqFuncSv_any {a1 a2 : Option Addr} {c1 c2 : Nat} {hs1 hs2 : List SvH} {ss tt : List Sv} {w : World} (hx : Rd9 w a1 c1 hs1 ss) (hy : Rd9 w a2 c2 hs2 tt) :
    Calls Try.prog 74 #[.slice a1 ss.length c1, .slice a2 tt.length c2, .func (.func 75) #[] #[]] w fun e w' => e = .returned (.bool (sameSvs ss tt)) ∧ Below w.heap.size w w' := by
  have hln := hx.len
  have hlt' := hy.len
  by_cases hl : ss.length = tt.length
  case neg =>
    rw [sameSvs_len hl]
    have hd : ((ss.length : Int) != (tt.length : Int)) = true := by simp; omega
    go_enter Try.func74, Try.ntmps74
    go_wp2
    go_ret
    exact ⟨rfl, Below.refl _ _⟩
  have HL := Lib.hid hl
  have hd : ((ss.length : Int) != (ss.length : Int)) = false := by simp
  obtain ⟨r, hr⟩ : ∃ r, sameSvs ss tt = r := ⟨_, rfl⟩
  have HR := Lib.hid hr
  rw [hr, ← hl]
  clear hr hl
  go_enter Try.func74, Try.ntmps74
  go_wp2
  clear hd
  go_loopw [7, 8, 9, 17] (fun _ _ _ vi wr => ∃ k : Nat, k ≤ ss.length ∧ vi = .int .i64 k ∧ Hid (∀ j, j < k → ∀ (h1 : j < ss.length) (h2 : j < tt.length), sameSv ss[j] tt[j] = true) ∧ Hid (Below w.heap.size w wr)) (fun _ _ _ vi _ => ss.length - (intOf vi).toNat)
  case atStart => exact ⟨0, Nat.zero_le _, rfl, Lib.hid (fun j h => by omega), Lib.hid (Below.refl _ _)⟩
  case round =>
    obtain ⟨k, hk, rfl, HP, HB⟩ := hrel
    by_cases hlt : k < ss.length
    · have hltz : (k : Int) < (ss.length : Int) := by omega
      have hlt2 : k < tt.length := by rw [← HL.out]; exact hlt
      have ewk : IntKind.i64.wrap ((k : Int) + 1) = (k : Int) + 1 := IntWalk.i64_in _ (by omega)
      obtain ⟨b1, o1, rfl, _⟩ := hx.here (by omega)
      obtain ⟨b2, o2, rfl, _⟩ := hy.here (by omega)
      obtain ⟨d1, hrx, x0, x1, x2, x3, x4, x5, x6, x7, x8⟩ := (hx.below HB.out (Nat.le_refl _)).at hlt
      obtain ⟨d2, hry, y0, y1, y2, y3, y4, y5, y6, y7, y8⟩ := (hy.below HB.out (Nat.le_refl _)).at hlt2
      have hix := idx9 (b := b1) (o := o1) (n := ss.length) (c := c1) und_svi siz_svi
      have hiy := idx9 (b := b2) (o := o2) (n := ss.length) (c := c2) und_svi siz_svi
      have hb2 : ∀ o o', Below wr.heap.size wr ((wr.alloc o).alloc o') := fun o o' => ((Below.refl _ _).alloc (Nat.le_refl _) _).alloc (by simp) _
      have HC := Lib.hid (fun o o' => same1_any (hrx.below (hb2 o o') (Nat.le_refl _)) (hry.below (hb2 o o') (Nat.le_refl _)))
      have HY0 : Hid (∀ o, ∀ j v, wr.cell? ⟨b2, o2 + k * 9 + j, none⟩ = some v → (wr.alloc o).cell? ⟨b2, o2 + k * 9 + j, none⟩ = some v) := Lib.hid (fun o j v h => k_below ((Below.refl wr.heap.size wr).alloc (Nat.le_refl _) o) (Nat.le_refl _) h)
      have HBB := Lib.hid (fun o o' w1 (h : Below ((wr.alloc o).alloc o').heap.size ((wr.alloc o).alloc o') w1) => HB.out.trans (((hb2 o o').trans (h.mono (hb2 o o').size)).mono HB.out.size))
      have hy0' := fun o => HY0.out o 0 _ y0
      have hy1' := fun o => HY0.out o 1 _ y1
      have hy2' := fun o => HY0.out o 2 _ y2
      have hy3' := fun o => HY0.out o 3 _ y3
      have hy4' := fun o => HY0.out o 4 _ y4
      have hy5' := fun o => HY0.out o 5 _ y5
      have hy6' := fun o => HY0.out o 6 _ y6
      have hy7' := fun o => HY0.out o 7 _ y7
      have hy8' := fun o => HY0.out o 8 _ y8
      simp only [Nat.add_zero] at hy0'
      have HS : Hid (∀ z, sameSv ss[k] tt[k] = z → if z then ∀ j, j < k + 1 → ∀ (h1 : j < ss.length) (h2 : j < tt.length), sameSv ss[j] tt[j] = true else r = false) := Lib.hid (fun z hz => by
        cases z with
        | false => simp only [Bool.false_eq_true, if_false]; rw [← HR.out]; exact sameSvs_no hlt hlt2 hz
        | true =>
          simp only [if_true]
          intro j hj h1 h2
          by_cases e : j = k
          · subst e; exact hz
          · exact HP.out j (by omega) h1 h2)
      generalize ss[k] = s at HC HS x0 x1 x2 x3 x4 x5 x6 x7 x8
      generalize tt[k] = t at HC HS hy0' hy1' hy2' hy3' hy4' hy5' hy6' hy7' hy8'
      have hcl := call_sameSv1
      clear hrx hry hb2 HY0 y0 y1 y2 y3 y4 y5 y6 y7 y8 HP HB
      cases hz : sameSv s t with
      | false =>
        have HE := Lib.hid (HS.out false hz)
        simp only [Bool.false_eq_true, if_false] at HE
        go_wp2_with fail
        refine (HC.out _ _).mono ?_
        rintro e w1 ⟨rfl, hb1⟩
        rw [hz]
        have HB1 := Lib.hid (HBB.out _ _ _ hb1)
        clear hb1
        go_wp2
        go_ret
        exact ⟨by rw [HE.out]; rfl, HB1.out⟩
      | true =>
        have HE := Lib.hid (HS.out true hz)
        simp only [if_true] at HE
        go_wp2_with fail
        refine (HC.out _ _).mono ?_
        rintro e w1 ⟨rfl, hb1⟩
        rw [hz]
        have HB1 := Lib.hid (HBB.out _ _ _ hb1)
        clear hb1
        go_wp2
        go_roundw
        case rel => exact ⟨k + 1, by omega, by go_num, HE, HB1⟩
        case measure => simp [intOf]; omega
    · obtain rfl : k = ss.length := by omega
      have hltz : ¬ (ss.length : Int) < (ss.length : Int) := by omega
      have HE : Hid (r = true) := Lib.hid (by rw [← HR.out]; exact sameSvs_yes HL.out (fun j h1 h2 => HP.out j h1 h1 h2))
      go_wp2
      go_ret
      exact ⟨by rw [HE.out]; rfl, HB.out⟩

set_option maxHeartbeats 1000000 in
theorem implSameSaved_any {a1 a2 : Option Addr} {c1 c2 : Nat} {hs1 hs2 : List SvH} {ss tt : List Sv} {w : World} (hx : Rd9 w a1 c1 hs1 ss) (hy : Rd9 w a2 c2 hs2 tt) :
    Calls Try.prog 28 #[.slice a1 ss.length c1, .slice a2 tt.length c2] w fun e w' => e = .returned (.bool (sameSvs ss tt)) ∧ Below w.heap.size w w' := by
  have HC := Lib.hid (eqFuncSv_any hx hy)
  clear hx hy
  go_enter Try.func28, Try.ntmps28
  go_wp2_with fail
  refine HC.out.mono ?_
  rintro e w1 ⟨rfl, hb1⟩
  go_wp2
  go_ret
  exact ⟨rfl, hb1⟩

end Go.Proofs.Ytdpolaedfjljmaa
