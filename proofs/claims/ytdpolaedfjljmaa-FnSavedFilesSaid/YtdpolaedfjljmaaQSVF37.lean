/- Counts put, in the reference's text. New counts; find, lowest: in the reference's text. -/
import Derived.Test.YtdpolaedfjljmaaQSVF32
import Derived.Deep.DrawnRows
import Derived.Deep.Cut
import Derived.Deep.DeepCutAuto
import Derived.Deep.CutBlock
import Derived.Deep.RegionLaw
import Derived.Deep.RegionHeld3
namespace Go.Proofs.Ytdpolaedfjljmaa
open Go.RowKit
attribute [local go_sem ↓] Go.wp_at_zero Go.wp_at_succ

theorem bd_set {xs : List Int} {M : Int} {p : Nat} (h : ∀ x ∈ xs, 0 ≤ x ∧ x ≤ M) (hp : p < xs.length) : ∀ x ∈ xs.set p (xs[p] + 1), 0 ≤ x ∧ x ≤ M + 1 := by
  intro x hx
  rcases List.mem_or_eq_of_mem_set hx with h1 | h1
  · have := h x h1; omega
  · have := h xs[p] (List.getElem_mem hp); omega

set_option maxRecDepth 8000 in
set_option maxHeartbeats 4000000 in
theorem l03Put_any {w : World} {b : Nat} {h : SvH} {nm : ByteArray} {W D : Nat} {R key M : Int} {cs ks ts es : List Int} (q : SvBx w b h ⟨nm, W, D, 7, cs, R, ks, ts, es⟩) (w0 : 2 ≤ W) (w1 : W ≤ 64) (d1 : D ≤ 6) (hl : cs.length = D * W) (k0 : 0 ≤ key) (k1 : key < 4294967296)
    (hm : ∀ x ∈ cs, 0 ≤ x ∧ x ≤ M) (m1 : M ≤ 1000000) :
    Calls Try.prog 68 #[.pointer (some ⟨b, 1, none⟩), .int .i64 key, .int .i64 1] w fun e w' => e = .returned (.tuple #[]) ∧ ∃ cs', SvBx w' b h ⟨nm, W, D, 7, cs', R, ks, ts, es⟩ ∧ cs'.length = D * W ∧ (∀ x ∈ cs', 0 ≤ x ∧ x ≤ M + D) ∧ Below b w w' := by
  have HQ := Lib.hid q
  have HL := Lib.hid hl
  have HM := Lib.hid hm
  clear q hl hm
  go_enter Try.func68, Try.ntmps68
  go_wp2_with fail
  go_loopw [6] (fun vi wr => ∃ (i : Nat) (xs : List Int), vi = .int .i64 i ∧ i ≤ D ∧ Hid (SvBx wr b h ⟨nm, W, D, 7, xs, R, ks, ts, es⟩) ∧ Hid (xs.length = D * W) ∧ Hid (∀ x ∈ xs, 0 ≤ x ∧ x ≤ M + i) ∧ Hid (Below b w wr)) (fun vi _ => D - (intOf vi).toNat)
  case atStart => exact ⟨0, cs, rfl, Nat.zero_le _, HQ, HL, Lib.hid (by simpa using HM.out), Lib.hid (Below.refl _ _)⟩
  case round =>
    clear HQ HL HM
    obtain ⟨i, xs, rfl, hi, HX, HL, HM, HB⟩ := hrel
    have c1 := HX.out.blk.cell (i := 1) (v := .int .i64 W) rfl
    have c2 := HX.out.blk.cell (i := 2) (v := .int .i64 D) rfl
    have c3 := HX.out.blk.cell (i := 3) (v := .int .i64 7) rfl
    have c4 := HX.out.blk.cell (i := 4) (v := .slice h.a0 xs.length h.c0) rfl
    by_cases hid : i < D
    · have hdz : (i : Int) < (D : Int) := by omega
      have hq := belZ_bd key (7 + (i : Int)) (n := (W : Int)) (by omega) (by omega)
      have HP : Hid (∀ m, Calls Try.prog 120 #[.pointer (some ⟨b, 1, none⟩), .int .i64 key, .int .i64 (i : Int)] (wr.drewN m) fun e w' => e = .returned (.int .i64 ((i : Int) * W + belZ key (7 + (i : Int)) W)) ∧ ∃ n, w' = (wr.drewN m).drewN n) :=
        Lib.hid fun m => l03Place_any (o := 1) c1 c3 (by omega) (by omega) k0 k1 (by omega) (by omega) (by omega) (by omega)
      obtain ⟨z, hz⟩ : ∃ z : Nat, belZ key (7 + (i : Int)) W = z := ⟨(belZ key (7 + (i : Int)) W).toNat, by omega⟩
      rw [hz] at hq HP
      obtain ⟨p, hp⟩ : ∃ p, i * W + z = p := ⟨_, rfl⟩
      have hpz : (i : Int) * (W : Int) + (z : Int) = (p : Int) := by rw [← hp]; simp
      have hplt : p < xs.length := by
        rw [HL.out, ← hp]
        have : (i + 1) * W ≤ D * W := Nat.mul_le_mul_right _ hid
        rw [Nat.add_mul] at this; omega
      rw [hpz] at HP
      have hix := HX.out.own.cs.idx und_is siz_is
      have hcx := HX.out.own.cs.cell p hplt
      have hfx := HX.out.own.cs.free p hplt
      have hbx := HM.out xs[p] (List.getElem_mem hplt)
      have HE : Hid (∀ n, SvBx ((wr.drewN n).setCell (elt h.a0 p) (.int .i64 (xs[p] + 1))) b h ⟨nm, W, D, 7, xs.set p (xs[p] + 1), R, ks, ts, es⟩ ∧ Below b w ((wr.drewN n).setCell (elt h.a0 p) (.int .i64 (xs[p] + 1)))) := Lib.hid fun n => by
        have := (HX.out.drewN n).elC hplt (xs[p] + 1)
        exact ⟨this.1, (HB.out.trans (below_of_drewN wr n _)).trans this.2⟩
      have HM2 := Lib.hid (bd_set HM.out hplt)
      have HL2 : Hid ((xs.set p (xs[p] + 1)).length = D * W) := Lib.hid (by rw [List.length_set]; exact HL.out)
      generalize xs.set p (xs[p] + 1) = ys at HE HM2 HL2
      simp only [hplt, List.getElem?_eq_getElem, Option.getD_some] at hcx
      generalize xs[p] = x at hcx hbx HE
      have ewx : IntKind.i64.wrap (x + 1) = x + 1 := IntWalk.i64_in _ (by omega)
      clear hz hp hpz hq
      go_wp2_with fail
      go_region_law (first | (go_simp; go_at_call 120; refine (HP.out 1).mono ?_; rintro e w8 ⟨rfl, n8, rfl⟩))
      all_goals
        have HE8 := Lib.hid (HE.out (1 + n8))
        clear HE HP HX HM HL HB
        generalize (wr.drewN (1 + n8)).setCell (elt h.a0 p) (.int .i64 (x + 1)) = w9 at HE8 ⊢
        go_wp2
        go_roundw
        case rel => exact ⟨i + 1, ys, by go_num, by omega, Lib.hid HE8.out.1, HL2, Lib.hid (fun x hx => by have := HM2.out x hx; omega), Lib.hid HE8.out.2⟩
        case measure => simp [intOf]; omega
    · obtain rfl : i = D := by omega
      have hdz : ¬ (i : Int) < (i : Int) := by omega
      go_wp2
      go_end0
      exact ⟨rfl, xs, HX.out, HL.out, HM.out, HB.out⟩

end Go.Proofs.Ytdpolaedfjljmaa

namespace Go.Proofs.Ytdpolaedfjljmaa
open Go.RowKit
attribute [local go_sem ↓] Go.wp_at_zero Go.wp_at_succ

set_option maxHeartbeats 1000000 in
theorem l03New_any {w : World} {W D : Nat} (h1 : W ≤ 64) (h2 : D ≤ 6) :
    Calls Try.prog 67 #[.int .i64 (W : Int), .int .i64 (D : Int), .int .i64 7] w fun e w' => ∃ a c, e = .returned (.agg #[.int .i64 W, .int .i64 D, .int .i64 7, .slice a (W * D) c]) ∧ Own (Value.int .i64) 2 w' w.heap.size a c (List.replicate (W * D) 0) ∧ Below w.heap.size w w' := by
  obtain ⟨n, hn⟩ : ∃ n, W * D = n := ⟨_, rfl⟩
  have hnb : n ≤ 384 := by rw [← hn]; exact Nat.mul_le_mul h1 h2
  have e0 : (W : Int) * (D : Int) = (n : Int) := by rw [← hn]; exact (Int.natCast_mul _ _).symm
  have e1 : IntKind.i64.wrap ((W : Int) * (D : Int)) = (n : Int) := by rw [e0]; exact IntWalk.i64_in _ (by omega)
  rw [hn]
  clear hn
  go_enter Try.func67, Try.ntmps67
  go_wp2_with (at_make; refine wpl_make (f := Value.int .i64) (d := 0) und_ise info_i rfl n rfl _ _ rfl rfl rfl (by omega) (by omega) ?_; intro w1 ho0 hb0; have I1 := (Blk.new w #[.int .i64 0, .int .i64 0, .int .i64 0, .slice none 0 0] 24).below hb0 (Nat.le_refl _); have r0 := I1.cell (i := 0) (v := .int .i64 0) rfl; have r1 := I1.cell (i := 1) (v := .int .i64 0) rfl; have r2 := I1.cell (i := 2) (v := .int .i64 0) rfl; have r3 := I1.cell (i := 3) (v := .slice none 0 0) rfl; have q0 := I1.free 0; have q1 := I1.free 1; have q2 := I1.free 2; have q3 := I1.free 3; have HO := Lib.hid ho0; have HB := Lib.hid hb0; clear ho0 hb0 I1)
  have BB := Lib.hid (((Below.refl w.heap.size w).alloc (Nat.le_refl _) _).trans (HB.out.mono (by simp)))
  refine bodyPost_ret (v := .agg #[.int .i64 W, .int .i64 D, .int .i64 7, .slice (some ⟨w.heap.size + 1, 0, none⟩) n n]) (by simp [results, Try.results67, go_sem, r0, r1, r2, r3]) rfl ⟨_, _, rfl, ?_, (((BB.out.setCell (by simp) _).setCell (by simp) _).setCell (by simp) _).setCell (by simp) _⟩
  have ho := HO.out
  rw [show (w.alloc (Obj.cells #[.int .i64 0, .int .i64 0, .int .i64 0, .slice none 0 0] 24)).heap.size = w.heap.size + 1 by simp] at ho
  refine Own.mono (base := w.heap.size + 1) ?_ (by omega)
  refine Own.setFar (Own.setFar (Own.setFar (Own.setFar ho _ _ ?_) _ _ ?_) _ _ ?_) _ _ ?_
  all_goals simp

/-- Where a key stands. -/
def RetFind (w : World) (ks : List Int) (key : Int) (e : Ending) (w' : World) : Prop :=
  ((e = .returned (.int .i64 (-1)) ∧ ¬ key ∈ ks) ∨ ∃ i, e = .returned (.int .i64 ((i : Nat) : Int)) ∧ i < ks.length ∧ key ∈ ks) ∧ w = w'
set_option maxHeartbeats 1000000 in
theorem l03Find_any {w : World} {a : Option Addr} {c : Nat} {ks : List Int} {key : Int} (hr : Rd (Value.int .i64) w a c ks) :
    Calls Try.prog 121 #[.slice a ks.length c, .int .i64 key] w (RetFind w ks key) := by
  have hln := hr.len
  have HR := Lib.hid hr
  clear hr
  go_enter Try.func121, Try.ntmps121
  go_wp2_with fail
  go_loopw [8] (fun vi wr => ∃ i : Nat, vi = .int .i64 i ∧ i ≤ ks.length ∧ Hid (¬ key ∈ ks.take i) ∧ w = wr) (fun vi _ => ks.length - (intOf vi).toNat)
  case atStart => exact ⟨0, rfl, Nat.zero_le _, Lib.hid (by simp), rfl⟩
  case round =>
    obtain ⟨i, rfl, hi, HN, rfl⟩ := hrel
    by_cases hlt : i < ks.length
    · have hz : (i : Int) < (ks.length : Int) := by omega
      have hix := HR.out.idx und_is siz_is
      have hcx := HR.out.cell i hlt
      simp only [List.getElem?_eq_getElem hlt, Option.getD_some] at hcx
      by_cases hk : ks[i] = key
      · have hm : key ∈ ks := hk ▸ List.getElem_mem hlt
        have hbk : (ks[i] == key) = true := by simp [hk]
        generalize ks[i] = x at hcx hk hbk
        clear hk
        go_wp2
        go_ret
        exact ⟨.inr ⟨i, rfl, hlt, hm⟩, rfl⟩
      · have hbk : (ks[i] == key) = false := by simp [hk]
        have HN2 : Hid (¬ key ∈ ks.take (i + 1)) := Lib.hid (by
          rw [List.take_succ_eq_append_getElem hlt, List.mem_append]
          intro h2
          rcases h2 with h2 | h2
          · exact HN.out h2
          · simp at h2; exact hk h2.symm)
        generalize ks[i] = x at hcx hk hbk
        clear hk
        go_wp2
        go_roundw
        case rel => exact ⟨i + 1, by go_num, by omega, HN2, trivial⟩
        case measure => simp [intOf]; omega
    · obtain rfl : i = ks.length := by omega
      have hz : ¬ (ks.length : Int) < (ks.length : Int) := by omega
      go_wp2
      go_ret
      exact ⟨.inl ⟨rfl, by have := HN.out; rwa [List.take_length] at this⟩, rfl⟩

set_option maxHeartbeats 1000000 in
theorem l03Lowest_any {w : World} {a : Option Addr} {c : Nat} {ts : List Int} (hr : Rd (Value.int .i64) w a c ts) (h0 : 0 < ts.length) :
    Calls Try.prog 122 #[.slice a ts.length c] w fun e w' => ∃ i : Nat, e = .returned (.int .i64 (i : Int)) ∧ i < ts.length ∧ ∃ n, w.drewN n = w' := by
  have hln := hr.len
  have HR := Lib.hid hr
  clear hr
  go_enter Try.func122, Try.ntmps122
  go_wp2_with fail
  go_loopw [3, 7] (fun va vi wr => ∃ (j i : Nat), va = .int .i64 j ∧ vi = .int .i64 i ∧ j < ts.length ∧ i ≤ ts.length ∧ Hid (∃ n, w.drewN n = wr)) (fun _ vi _ => ts.length - (intOf vi).toNat)
  case atStart => exact ⟨0, 0, rfl, rfl, h0, Nat.zero_le _, Lib.hid ⟨0, rfl⟩⟩
  case round =>
    obtain ⟨j, i, rfl, rfl, hj, hi, HD⟩ := hrel
    have hrw : Rd (Value.int .i64) wr a c ts := by obtain ⟨n, hn⟩ := HD.out; rw [← hn]; exact HR.out.drewN n
    have HRW := Lib.hid hrw
    by_cases hlt : i < ts.length
    · have hz : (i : Int) < (ts.length : Int) := by omega
      have hix := hrw.idx und_is siz_is
      have hcx := hrw.cell i hlt
      have hcj := hrw.cell j hj
      simp only [List.getElem?_eq_getElem hlt, List.getElem?_eq_getElem hj, Option.getD_some] at hcx hcj
      generalize ts[i] = x at hcx
      generalize ts[j] = y at hcj
      clear hrw
      by_cases hxy : x < y
      · go_wp2_with fail
        go_quiet (fail)
        have HD2 : Hid (∃ n, w.drewN n = wr.drewN nq) := Lib.hid (by obtain ⟨n, hn⟩ := HD.out; exact ⟨n + nq, by rw [← hn]; simp⟩)
        clear HD
        generalize wr.drewN nq = wz at HD2 ⊢
        go_wp2
        go_roundw
        case rel => exact ⟨i, i + 1, rfl, by go_num, hlt, by omega, HD2⟩
        case measure => simp [intOf]; omega
      · have hyx : ¬ x < y := hxy
        go_wp2_with fail
        go_quiet (fail)
        have HD2 : Hid (∃ n, w.drewN n = wr.drewN nq) := Lib.hid (by obtain ⟨n, hn⟩ := HD.out; exact ⟨n + nq, by rw [← hn]; simp⟩)
        clear HD
        generalize wr.drewN nq = wz at HD2 ⊢
        go_wp2
        go_roundw
        case rel => exact ⟨j, i + 1, rfl, by go_num, hj, by omega, HD2⟩
        case measure => simp [intOf]; omega
    · obtain rfl : i = ts.length := by omega
      have hz : ¬ (ts.length : Int) < (ts.length : Int) := by omega
      go_wp2
      go_ret
      exact ⟨j, rfl, hj, HD.out⟩

end Go.Proofs.Ytdpolaedfjljmaa
