/- Tops as they are counted: plain. A key counted among the tops, in the reference's text. The source begun; one of some texts. The helpers of the laws of the eighth chapter; lists that a source draws. Times that a source draws. -/
import Derived.Test.YtncbkbfkdgggkaaDoorQPk48
import Derived.Test.YtncbkbfkdgggkaaDoorQPk41
import Derived.Deep.Cut
import Derived.Deep.DeepCutAuto
import Derived.Deep.CutBlock
import Derived.Deep.RegionLaw
import Derived.Test.YtncbkbfkdgggkaaDoorQPk3
import Derived.Test.YtncbkbfkdgggkaaDoorQPk4
set_option linter.unusedVariables false
set_option linter.unusedSimpArgs false
namespace Go.Proofs.YtncbkbfkdgggkaaDoor
open Go.RowKit

/-- The tops are in order, no count above M. -/
structure TopOk (R M : Int) (ks ts es : List Int) : Prop where
  room : (ks.length : Int) ≤ R
  lt : ts.length = ks.length
  le : es.length = ks.length
  dif : ∀ i j, i < j → j < ks.length → at0 ks i ≠ at0 ks j
  key : ∀ x ∈ ks, 0 ≤ x ∧ x ≤ 4294967295
  ce : ∀ i, i < ks.length → 0 ≤ at0 es i ∧ at0 es i < at0 ts i ∧ at0 ts i ≤ M
theorem at0_setG {xs : List Int} {k i : Nat} {x : Int} (hk : k < xs.length) : at0 (xs.set k x) i = if i = k then x else at0 xs i := by
  unfold at0
  rw [List.getElem?_set]
  by_cases h : k = i
  · subst h; simp [hk]
  · rw [if_neg h, if_neg (fun e => h e.symm)]
theorem at0_appG {xs : List Int} {x : Int} {i : Nat} : at0 (xs ++ [x]) i = if i = xs.length then x else at0 xs i := by
  unfold at0
  by_cases h : i < xs.length
  · rw [List.getElem?_append_left h, if_neg (by omega)]
  · rw [List.getElem?_append_right (by omega)]
    by_cases h2 : i = xs.length
    · subst h2; simp
    · rw [if_neg h2, List.getElem?_eq_none (by simp; omega), List.getElem?_eq_none (by omega)]
theorem at0_memG {xs : List Int} {i : Nat} (h : i < xs.length) : at0 xs i ∈ xs := by
  unfold at0; rw [List.getElem?_eq_getElem h]; exact List.getElem_mem h
section
variable {R M : Int} {ks ts es : List Int}
theorem TopOk.nil (hR : 0 ≤ R) : TopOk R M [] [] [] := ⟨by simpa using hR, rfl, rfl, fun i j _ h => by simp at h, fun x h => by simp at h, fun i h => by simp at h⟩
theorem TopOk.bump (t : TopOk R M ks ts es) {i : Nat} (hi : i < ks.length) : TopOk R (M + 1) ks (ts.set i (at0 ts i + 1)) es := by
  refine ⟨t.room, by rw [List.length_set]; exact t.lt, t.le, t.dif, t.key, fun j hj => ?_⟩
  rw [at0_setG (by rw [t.lt]; exact hi)]
  have h1 := t.ce j hj
  split
  · rename_i e; subst e; omega
  · omega
theorem TopOk.push (t : TopOk R M ks ts es) {key : Int} (hk : ¬ key ∈ ks) (k0 : 0 ≤ key) (k1 : key ≤ 4294967295) (hR : (ks.length : Int) < R) (hM : 0 ≤ M) : TopOk R (M + 1) (ks ++ [key]) (ts ++ [1]) (es ++ [0]) := by
  refine ⟨by simp; omega, by simp [t.lt], by simp [t.le], fun i j hij hj => ?_, fun x hx => ?_, fun i hi => ?_⟩
  · simp only [List.length_append, List.length_cons, List.length_nil] at hj
    rw [at0_appG, at0_appG, if_neg (by omega : ¬ i = ks.length)]
    split
    · intro e; exact hk (e ▸ at0_memG (by omega))
    · exact t.dif i j hij (by omega)
  · rcases List.mem_append.1 hx with h | h
    · exact t.key x h
    · simp at h; omega
  · simp only [List.length_append, List.length_cons, List.length_nil] at hi
    rw [at0_appG, at0_appG, t.lt, t.le]
    split
    · omega
    · have := t.ce i (by omega); omega
theorem TopOk.swap (t : TopOk R M ks ts es) {key : Int} (hk : ¬ key ∈ ks) (k0 : 0 ≤ key) (k1 : key ≤ 4294967295) {i : Nat} (hi : i < ks.length) : TopOk R (M + 1) (ks.set i key) (ts.set i (at0 ts i + 1)) (es.set i (at0 ts i)) := by
  refine ⟨by rw [List.length_set]; exact t.room, by simp [t.lt], by simp [t.le], fun a b hab hb => ?_, fun x hx => ?_, fun j hj => ?_⟩
  · rw [List.length_set] at hb
    rw [at0_setG hi, at0_setG hi]
    by_cases h1 : a = i
    · rw [if_pos h1, if_neg (by omega)]
      intro e; exact hk (e ▸ at0_memG hb)
    · rw [if_neg h1]
      split
      · intro e; exact hk (e ▸ at0_memG (by omega))
      · exact t.dif a b hab hb
  · rcases List.mem_or_eq_of_mem_set hx with h | h
    · exact t.key x h
    · omega
  · rw [List.length_set] at hj
    rw [at0_setG (by rw [t.le]; exact hi), at0_setG (by rw [t.lt]; exact hi)]
    have h1 := t.ce j hj
    split
    · rename_i e; subst e; omega
    · omega
theorem TopOk.topsB (t : TopOk R M ks ts es) (h0 : 1 ≤ R) (h1 : R ≤ 32) (hM : M ≤ 4294967295) : topsB R ks ts es = true ∧ keysB ts = true := by
  refine ⟨?_, ?_⟩
  · unfold Proofs.YtncbkbfkdgggkaaDoor.topsB
    have a1 : inR R 1 32 = true := by unfold inR; exact decide_eq_true ⟨h0, h1⟩
    have a2 : ceB ts es = true := ceB_yes (fun k hk => by
      have := t.ce k (by rw [← t.lt]; exact hk)
      unfold ceR inR
      rw [decide_eq_true (by omega), decide_eq_true (by omega)]; rfl)
    have a3 : keysB ks = true := by
      unfold keysB; rw [List.all_eq_true]
      intro x hx
      have := t.key x hx
      unfold isKey inR; exact decide_eq_true (by omega)
    have a4 : diffB ks = true := diff_yes (fun i hi hm => by
      obtain ⟨j, hj, e⟩ := List.mem_iff_getElem.1 hm
      rw [List.length_take] at hj
      rw [List.getElem_take] at e
      refine t.dif j i (by omega) hi ?_
      rw [← e]; unfold at0; rw [List.getElem?_eq_getElem (by omega)]; rfl)
    rw [a1, a2, a3, a4, decide_eq_true t.room, decide_eq_true t.lt, decide_eq_true t.le]; rfl
  · unfold keysB; rw [List.all_eq_true]
    intro x hx
    obtain ⟨i, hi, rfl⟩ := List.mem_iff_getElem.1 hx
    have := t.ce i (by rw [← t.lt]; exact hi)
    have e : at0 ts i = ts[i] := by unfold at0; rw [List.getElem?_eq_getElem hi]; rfl
    rw [e] at this
    unfold isKey inR; exact decide_eq_true (by omega)
end
/-- What the generator makes can be saved. -/
theorem gen_saved {nm : ByteArray} {W D : Nat} {R M M2 : Int} {cs ks ts es : List Int} (hn : nameB nm = true) (w0 : 2 ≤ W) (w1 : W ≤ 64) (d0 : 1 ≤ D) (d1 : D ≤ 6) (hl : cs.length = D * W) (hc : ∀ x ∈ cs, 0 ≤ x ∧ x ≤ M2) (hM2 : M2 ≤ 1000000)
    (t : TopOk R M ks ts es) (r0 : 1 ≤ R) (r1 : R ≤ 32) (hM : M ≤ 1000000) : savedV ⟨nm, W, D, 7, cs, R, ks, ts, es⟩ = true := by
  unfold savedV savedB
  obtain ⟨t1, t2⟩ := t.topsB r0 r1 (by omega)
  have c1 : cellsB W D 7 cs = true := by
    unfold cellsB
    have a1 : inR (W : Int) 2 64 = true := by unfold inR; exact decide_eq_true (by omega)
    have a2 : inR (D : Int) 1 6 = true := by unfold inR; exact decide_eq_true (by omega)
    have a3 : isKey 7 = true := by decide
    have a4 : decide ((cs.length : Int) = (W : Int) * (D : Int)) = true := decide_eq_true (by rw [hl, Nat.mul_comm]; exact Int.natCast_mul _ _)
    have a5 : cs.all cellR = true := by rw [List.all_eq_true]; intro x hx; have := hc x hx; unfold cellR inR; exact decide_eq_true (by omega)
    rw [a1, a2, a3, a4, a5]; rfl
  have c2 : keysB cs = true := by
    unfold keysB; rw [List.all_eq_true]; intro x hx; have := hc x hx; unfold isKey inR; exact decide_eq_true (by omega)
  show (nameB nm && cellsB (W : Int) (D : Int) 7 cs && keysB cs && topsB R ks ts es && keysB ts) = true
  rw [hn, c1, c2, t1, t2]; rfl

end Go.Proofs.YtncbkbfkdgggkaaDoor

namespace Go.Proofs.YtncbkbfkdgggkaaDoor
open Go.RowKit
attribute [local go_sem ↓] Go.wp_at_zero Go.wp_at_succ

theorem at0_is {xs : List Int} {i : Nat} (h : i < xs.length) : xs[i] = at0 xs i := by unfold at0; rw [List.getElem?_eq_getElem h]; rfl

end Go.Proofs.YtncbkbfkdgggkaaDoor

namespace Go.Proofs.YtncbkbfkdgggkaaDoor
open Go.RowKit
attribute [local go_sem ↓] Go.wp_at_zero Go.wp_at_succ

theorem l00From_any {w : World} {a : Option Addr} {c n : Nat} :
    Calls Tryd.prog 21 #[.slice a n c] w fun e w' => e = .returned (.pointer (some ⟨w.heap.size, 0, none⟩)) ∧ w.alloc (.cells #[.slice a n c, .int .i64 0, .int .u64 0] 76) = w' := by
  go_enter Tryd.func21, Tryd.ntmps21
  go_wp2
  go_ret
  exact ⟨rfl, rfl⟩
theorem src_new {w : World} {a : Option Addr} {c : Nat} {xs : List Int} (hr : Rd (Value.int .u8) w a c xs) (hb : ∀ x ∈ xs, 0 ≤ x ∧ x < 256) :
    Src (w.alloc (.cells #[.slice a xs.length c, .int .i64 0, .int .u64 0] 76)) w.heap.size a c xs 0 :=
  ⟨⟨0, 0, Nat.le_refl _, Blk.new _ _ _⟩, hr.below ((Below.refl w.heap.size w).alloc (Nat.le_refl _) _) (Nat.le_refl _), fun h0 p hp => by obtain ⟨g, o, e, hlt⟩ := hr.here h0; rw [e] at hp; simp at hp; subst hp; show g ≠ _; omega, hb⟩

end Go.Proofs.YtncbkbfkdgggkaaDoor

namespace Go.Proofs.YtncbkbfkdgggkaaDoor
open Go.RowKit
attribute [local go_sem ↓] Go.wp_at_zero Go.wp_at_succ

theorem r8Long_any {a1 a2 : Option Addr} {c1 c2 n1 n2 : Nat} {w : World} (h1 : n1 ≤ 9223372036854775807) (h2 : n2 ≤ 9223372036854775807) :
    Calls Tryd.prog 4 #[.slice a1 n1 c1, .slice a2 n2 c2] w fun e w' => e = .returned (.bool (decide (48 < n1) || decide (48 < n2))) ∧ w = w' := by
  by_cases g1 : 48 < n1
  · have z1 : (48 : Int) < (n1 : Int) := by omega
    go_enter Tryd.func4, Tryd.ntmps4
    go_wp2
    go_ret
    exact ⟨ret_bool (by rw [decide_eq_true g1]; rfl), rfl⟩
  · have z1 : ¬ (48 : Int) < (n1 : Int) := by omega
    by_cases g2 : 48 < n2
    · have z2 : (48 : Int) < (n2 : Int) := by omega
      go_enter Tryd.func4, Tryd.ntmps4
      go_wp2
      go_ret
      exact ⟨ret_bool (by first | rfl | (rw [decide_eq_false g1, decide_eq_true g2]; rfl)), rfl⟩
    · have z2 : ¬ (48 : Int) < (n2 : Int) := by omega
      go_enter Tryd.func4, Tryd.ntmps4
      go_wp2
      go_ret
      exact ⟨ret_bool (by first | rfl | (rw [decide_eq_false g1, decide_eq_false g2]; rfl)), rfl⟩

set_option maxHeartbeats 1000000 in
theorem r8At_any {a : Option Addr} {c : Nat} {xs : List Int} {i n : Nat} {w : World} (hr : Rd (Value.int .u8) w a c xs) (hb : ∀ x ∈ xs, 0 ≤ x ∧ x < 256) (hi : i ≤ 1099511627776) (hn : 1 ≤ n) (hn2 : n ≤ 1099511627776) :
    Calls Tryd.prog 5 #[.slice a xs.length c, .int .i64 (i : Int), .int .i64 (n : Int)] w fun e w' => (∃ v : Nat, e = .returned (.int .i64 (v : Int)) ∧ v < n) ∧ w = w' := by
  have hln := hr.len
  by_cases h1 : n ≤ 1
  · have z1 : (n : Int) ≤ 1 := by omega
    go_enter Tryd.func5, Tryd.ntmps5
    go_wp2
    go_ret
    exact ⟨⟨0, rfl, by omega⟩, rfl⟩
  · have z1 : ¬ (n : Int) ≤ 1 := by omega
    have hn0 : ¬ (n : Int) = 0 := by omega
    have hn00 : ((n : Int) == 0) = false := by simp; omega
    by_cases h2 : i < xs.length
    · have z2 : ¬ (xs.length : Int) ≤ (i : Int) := by omega
      have z3 : (i : Int) < (xs.length : Int) := by omega
      have hix := hr.idx und_y siz_y
      have hcx := hr.cell i h2
      simp only [List.getElem?_eq_getElem h2, Option.getD_some] at hcx
      have hx := hb xs[i] (List.getElem_mem h2)
      generalize xs[i] = x at hcx hx
      obtain ⟨v, hv⟩ : ∃ v : Nat, x.tmod (n : Int) = (v : Int) := ⟨(x.tmod (n : Int)).toNat, by have := Int.tmod_nonneg (n : Int) hx.1; omega⟩
      have hvn : v < n := by have := Int.tmod_lt_of_pos x (show (0 : Int) < (n : Int) by omega); omega
      have ewv : IntKind.i64.wrap (v : Int) = (v : Int) := IntWalk.i64_in _ (by omega)
      have ewx : IntKind.i64.wrap x = x := IntWalk.i64_in _ (by omega)
      go_enter Tryd.func5, Tryd.ntmps5
      go_wp2
      go_ret
      exact ⟨⟨v, ret_int (by first | rfl | exact hv), hvn⟩, rfl⟩
    · have z2 : (xs.length : Int) ≤ (i : Int) := by omega
      go_enter Tryd.func5, Tryd.ntmps5
      go_wp2
      go_ret
      exact ⟨⟨0, rfl, by omega⟩, rfl⟩

end Go.Proofs.YtncbkbfkdgggkaaDoor

namespace Go.Proofs.YtncbkbfkdgggkaaDoor
open Go.RowKit
attribute [local go_sem ↓] Go.wp_at_zero Go.wp_at_succ

set_option maxRecDepth 20000 in
set_option maxHeartbeats 4000000 in
theorem r8Times_any {a : Option Addr} {c : Nat} {xs : List Int} {n : Nat} {w : World} (hr : Rd (Value.int .u8) w a c xs) (hb : ∀ x ∈ xs, 0 ≤ x ∧ x < 256) (hn : n ≤ 1024) :
    Calls Tryd.prog 12 #[.slice a xs.length c, .int .i64 (n : Int)] w fun e w' => ∃ a' c' zs, e = .returned (.slice a' n c') ∧ zs.length = n ∧ (zs.Pairwise (fun x y => x ≤ y) ∧ ∀ z ∈ zs, 0 ≤ z ∧ z + 5 ≤ 9 + 5 * (n : Int)) ∧ Own (Value.int .i64) 2 w' w.heap.size a' c' zs ∧ Below w.heap.size w w' := by
  have HS := Lib.hid (src_new hr hb)
  have HH : Hid (0 < xs.length → ∀ p, a = some p → p.block < w.heap.size) := Lib.hid (fun h0 p hp => by obtain ⟨g, o, e, hlt⟩ := hr.here h0; rw [e] at hp; simp at hp; subst hp; exact hlt)
  have HB0 := Lib.hid ((Below.refl w.heap.size w).alloc (Nat.le_refl _) (.cells #[.slice a xs.length c, .int .i64 0, .int .u64 0] 76))
  have hsz : (w.alloc (.cells #[.slice a xs.length c, .int .i64 0, .int .u64 0] 76)).heap.size = w.heap.size + 1 := Array.size_push _
  clear hr hb
  go_enter Tryd.func12, Tryd.ntmps12
  go_wp2_with fail
  refine l00From_any.mono ?_
  rintro e w1 ⟨rfl, rfl⟩
  generalize w.alloc (.cells #[.slice a xs.length c, .int .i64 0, .int .u64 0] 76) = w1 at *
  have HE := Lib.hid (own_empty (f := Value.int .i64) (e := 2) (α := Int) w1 (by_ := 0) (w.heap.size + 1) (by omega) rfl)
  have HB1 := Lib.hid (HB0.out.alloc (by omega) (.cells #[] 2))
  have HS1 := Lib.hid (HS.out.below ((Below.refl w1.heap.size w1).alloc (Nat.le_refl _) (.cells #[] 2)) (Nat.le_refl _))
  clear HS HB0 hsz
  go_wp2_with fail
  refine (pick_any (n := 10) HS1.out (by omega) (by omega) (by omega)).mono ?_
  rintro e w2 ⟨v0, rfl, hv0, hs2, hg2⟩
  have HE2 := Lib.hid (HE.out.kept hg2 (fun g hg p hp => by
    have h1 := HE.out.blk p hp
    simp only [Option.some.injEq] at hg
    omega))
  have HB2 := Lib.hid (HB1.out.grown hg2 HB1.out.size (fun k hk => by simp only [Option.some.injEq] at hk; omega))
  have HS2 := Lib.hid hs2
  clear hs2 hg2 HE HB1 HS1
  go_wp2_with fail
  go_loopw [1, 6, 7] (fun nv ov tv wr => ∃ (k : Nat) (b : Option Addr) (cc : Nat) (zs : List Int) (t : Nat), k ≤ n ∧ nv = .int .i64 ((n - k : Nat) : Int) ∧ ov = .slice b k cc ∧ tv = .int .i64 (t : Int) ∧ t ≤ 9 + 5 * k ∧ zs.length = k ∧ Hid (zs.Pairwise (fun x y => x ≤ y) ∧ ∀ z ∈ zs, 0 ≤ z ∧ z ≤ (t : Int) ∧ z + 5 ≤ 9 + 5 * (k : Int)) ∧ Hid (Own (Value.int .i64) 2 wr (w.heap.size + 1) b cc zs) ∧ Hid (Src wr w.heap.size a c xs (k + 1)) ∧ Hid (Below w.heap.size w wr)) (fun nv _ _ _ => (intOf nv).toNat)
  case atStart => exact ⟨0, _, _, [], v0, by omega, rfl, rfl, rfl, by omega, rfl, Lib.hid (by simp), HE2, HS2, HB2⟩
  case round =>
    clear HE2 HB2 HS2
    obtain ⟨k, b, cc, zs, t, hk, rfl, rfl, rfl, ht, hzl, HZ, HO, HS, HB⟩ := hrel
    by_cases hlt : k < n
    · obtain ⟨wi, rfl⟩ : ∃ wi : World, wi = wr := ⟨_, rfl⟩
      have z1 : (0 : Int) < ((n - k : Nat) : Int) := by omega
      have ewn : IntKind.i64.wrap (((n - k : Nat) : Int) - 1) = ((n - (k + 1) : Nat) : Int) := by rw [IntWalk.i64_in _ (by omega)]; omega
      have hz2 : w.heap.size + 1 ≤ wi.heap.size := by have := HS.out.lt; omega
      subst hzl
      go_wp2_with (at_builtin; refine wpl_append1 (f := Value.int .i64) (d := 0) (base := w.heap.size + 1) und_ise info_i (fun _ => rfl) (t : Int) HO.out rfl _ _ rfl rfl rfl (by omega) (by omega) hz2 ?_; intro a4 c4 w4 ho4 hg4)
      have HS4 := Lib.hid (HS.out.kept hg4 (by
        intro e
        cases b with
        | none => simp at e
        | some p =>
          have h1 := HO.out.blk p rfl
          simp only [Option.map_some, Option.some.injEq] at e
          omega) (by
        intro h0 p hp e
        have h2 := HH.out h0 p hp
        cases b with
        | none => simp at e
        | some q =>
          have h1 := HO.out.blk q rfl
          simp only [Option.map_some, Option.some.injEq] at e
          omega))
      have HB4 := Lib.hid (HB.out.trans (grown_belowOwn HO.out hg4 (by omega) (by omega)))
      have HO4 := Lib.hid ho4
      clear ho4 hg4 HS HB HO
      refine (pick_any (n := 6) HS4.out (by omega) (by omega) (by omega)).mono ?_
      rintro e w5 ⟨v, rfl, hv, hs5, hg5⟩
      have HO5 := Lib.hid (HO4.out.kept hg5 (fun g hg p hp => by
        have h1 := HO4.out.blk p hp
        simp only [Option.some.injEq] at hg
        omega))
      have HB5 := Lib.hid (HB4.out.grown hg5 HB4.out.size (fun k hk => by simp only [Option.some.injEq] at hk; omega))
      have HS5 := Lib.hid hs5
      clear hs5 hg5 HO4 HB4 HS4
      have ewt : IntKind.i64.wrap ((t : Int) + (v : Int)) = ((t + v : Nat) : Int) := by rw [IntWalk.i64_in _ (by omega)]; omega
      go_wp2
      go_roundw
      case rel =>
        refine ⟨zs.length + 1, a4, c4, zs ++ [(t : Int)], t + v, by omega, by first | rfl | (congr 1), by simp, rfl, by omega, by simp, Lib.hid ⟨?_, fun z hz => ?_⟩, HO5, HS5, HB5⟩
        · rw [List.pairwise_append]
          exact ⟨HZ.out.1, List.pairwise_singleton _ _, fun x hx y hy => by rw [List.mem_singleton.1 hy]; exact (HZ.out.2 x hx).2.1⟩
        · rcases List.mem_append.1 hz with h | h
          · have := HZ.out.2 z h; omega
          · simp at h; omega
      case measure => simp [intOf]; omega
    · obtain rfl : k = n := by omega
      have z1 : ¬ (0 : Int) < ((k - k : Nat) : Int) := by omega
      go_wp2
      go_ret
      exact ⟨b, cc, rfl, zs, hzl, ⟨HZ.out.1, fun z hz => ⟨(HZ.out.2 z hz).1, (HZ.out.2 z hz).2.2⟩⟩, HO.out.mono (by omega), HB.out⟩

end Go.Proofs.YtncbkbfkdgggkaaDoor
