/- Tops as they are counted: plain. A key counted among the tops, in the reference's text. The source begun; one of some texts. -/
import Derived.Test.YtfclkbppmkjkeaaQFq48
import Derived.Test.YtfclkbppmkjkeaaQFq44
import Derived.Deep.Cut
import Derived.Deep.DeepCutAuto
import Derived.Deep.CutBlock
import Derived.Deep.RegionLaw
import Derived.Test.YtfclkbppmkjkeaaQFq4
namespace Go.Proofs.Ytfclkbppmkjkeaa
open Go.RowKit

/-- The tops are in order, no count above M. -/
structure TopOk (R M : Int) (ks ts es : List Int) : Prop where
  room : (ks.length : Int) ≤ R
  lt : ts.length = ks.length
  le : es.length = ks.length
  dif : ∀ i j, i < j → j < ks.length → at0 ks i ≠ at0 ks j
  key : ∀ x ∈ ks, 0 ≤ x ∧ x ≤ 4294967295
  ce : ∀ i, i < ks.length → 0 ≤ at0 es i ∧ at0 es i < at0 ts i ∧ at0 ts i ≤ M
theorem at0_setG {xs : List Int} {k i : Nat} {x : Int} (hk : k < xs.length) : at0 (xs.set k x) i = if i = k then x else at0 xs i := by
  unfold at0
  rw [List.getElem?_set]
  by_cases h : k = i
  · subst h; simp [hk]
  · rw [if_neg h, if_neg (fun e => h e.symm)]
theorem at0_appG {xs : List Int} {x : Int} {i : Nat} : at0 (xs ++ [x]) i = if i = xs.length then x else at0 xs i := by
  unfold at0
  by_cases h : i < xs.length
  · rw [List.getElem?_append_left h, if_neg (by omega)]
  · rw [List.getElem?_append_right (by omega)]
    by_cases h2 : i = xs.length
    · subst h2; simp
    · rw [if_neg h2, List.getElem?_eq_none (by simp; omega), List.getElem?_eq_none (by omega)]
theorem at0_memG {xs : List Int} {i : Nat} (h : i < xs.length) : at0 xs i ∈ xs := by
  unfold at0; rw [List.getElem?_eq_getElem h]; exact List.getElem_mem h
section
variable {R M : Int} {ks ts es : List Int}
theorem TopOk.nil (hR : 0 ≤ R) : TopOk R M [] [] [] := ⟨by simpa using hR, rfl, rfl, fun i j _ h => by simp at h, fun x h => by simp at h, fun i h => by simp at h⟩
theorem TopOk.bump (t : TopOk R M ks ts es) {i : Nat} (hi : i < ks.length) : TopOk R (M + 1) ks (ts.set i (at0 ts i + 1)) es := by
  refine ⟨t.room, by rw [List.length_set]; exact t.lt, t.le, t.dif, t.key, fun j hj => ?_⟩
  rw [at0_setG (by rw [t.lt]; exact hi)]
  have h1 := t.ce j hj
  split
  · rename_i e; subst e; omega
  · omega
theorem TopOk.push (t : TopOk R M ks ts es) {key : Int} (hk : ¬ key ∈ ks) (k0 : 0 ≤ key) (k1 : key ≤ 4294967295) (hR : (ks.length : Int) < R) (hM : 0 ≤ M) : TopOk R (M + 1) (ks ++ [key]) (ts ++ [1]) (es ++ [0]) := by
  refine ⟨by simp; omega, by simp [t.lt], by simp [t.le], fun i j hij hj => ?_, fun x hx => ?_, fun i hi => ?_⟩
  · simp only [List.length_append, List.length_cons, List.length_nil] at hj
    rw [at0_appG, at0_appG, if_neg (by omega : ¬ i = ks.length)]
    split
    · intro e; exact hk (e ▸ at0_memG (by omega))
    · exact t.dif i j hij (by omega)
  · rcases List.mem_append.1 hx with h | h
    · exact t.key x h
    · simp at h; omega
  · simp only [List.length_append, List.length_cons, List.length_nil] at hi
    rw [at0_appG, at0_appG, t.lt, t.le]
    split
    · omega
    · have := t.ce i (by omega); omega
theorem TopOk.swap (t : TopOk R M ks ts es) {key : Int} (hk : ¬ key ∈ ks) (k0 : 0 ≤ key) (k1 : key ≤ 4294967295) {i : Nat} (hi : i < ks.length) : TopOk R (M + 1) (ks.set i key) (ts.set i (at0 ts i + 1)) (es.set i (at0 ts i)) := by
  refine ⟨by rw [List.length_set]; exact t.room, by simp [t.lt], by simp [t.le], fun a b hab hb => ?_, fun x hx => ?_, fun j hj => ?_⟩
  · rw [List.length_set] at hb
    rw [at0_setG hi, at0_setG hi]
    by_cases h1 : a = i
    · rw [if_pos h1, if_neg (by omega)]
      intro e; exact hk (e ▸ at0_memG hb)
    · rw [if_neg h1]
      split
      · intro e; exact hk (e ▸ at0_memG (by omega))
      · exact t.dif a b hab hb
  · rcases List.mem_or_eq_of_mem_set hx with h | h
    · exact t.key x h
    · omega
  · rw [List.length_set] at hj
    rw [at0_setG (by rw [t.le]; exact hi), at0_setG (by rw [t.lt]; exact hi)]
    have h1 := t.ce j hj
    split
    · rename_i e; subst e; omega
    · omega
theorem TopOk.topsB (t : TopOk R M ks ts es) (h0 : 1 ≤ R) (h1 : R ≤ 32) (hM : M ≤ 4294967295) : topsB R ks ts es = true ∧ keysB ts = true := by
  refine ⟨?_, ?_⟩
  · unfold Proofs.Ytfclkbppmkjkeaa.topsB
    have a1 : inR R 1 32 = true := by unfold inR; exact decide_eq_true ⟨h0, h1⟩
    have a2 : ceB ts es = true := ceB_yes (fun k hk => by
      have := t.ce k (by rw [← t.lt]; exact hk)
      unfold ceR inR
      rw [decide_eq_true (by omega), decide_eq_true (by omega)]; rfl)
    have a3 : keysB ks = true := by
      unfold keysB; rw [List.all_eq_true]
      intro x hx
      have := t.key x hx
      unfold isKey inR; exact decide_eq_true (by omega)
    have a4 : diffB ks = true := diff_yes (fun i hi hm => by
      obtain ⟨j, hj, e⟩ := List.mem_iff_getElem.1 hm
      rw [List.length_take] at hj
      rw [List.getElem_take] at e
      refine t.dif j i (by omega) hi ?_
      rw [← e]; unfold at0; rw [List.getElem?_eq_getElem (by omega)]; rfl)
    rw [a1, a2, a3, a4, decide_eq_true t.room, decide_eq_true t.lt, decide_eq_true t.le]; rfl
  · unfold keysB; rw [List.all_eq_true]
    intro x hx
    obtain ⟨i, hi, rfl⟩ := List.mem_iff_getElem.1 hx
    have := t.ce i (by rw [← t.lt]; exact hi)
    have e : at0 ts i = ts[i] := by unfold at0; rw [List.getElem?_eq_getElem hi]; rfl
    rw [e] at this
    unfold isKey inR; exact decide_eq_true (by omega)
end
/-- What the generator makes can be saved. -/
theorem gen_saved {nm : ByteArray} {W D : Nat} {R M M2 : Int} {cs ks ts es : List Int} (hn : nameB nm = true) (w0 : 2 ≤ W) (w1 : W ≤ 64) (d0 : 1 ≤ D) (d1 : D ≤ 6) (hl : cs.length = D * W) (hc : ∀ x ∈ cs, 0 ≤ x ∧ x ≤ M2) (hM2 : M2 ≤ 1000000)
    (t : TopOk R M ks ts es) (r0 : 1 ≤ R) (r1 : R ≤ 32) (hM : M ≤ 1000000) : savedV ⟨nm, W, D, 7, cs, R, ks, ts, es⟩ = true := by
  unfold savedV savedB
  obtain ⟨t1, t2⟩ := t.topsB r0 r1 (by omega)
  have c1 : cellsB W D 7 cs = true := by
    unfold cellsB
    have a1 : inR (W : Int) 2 64 = true := by unfold inR; exact decide_eq_true (by omega)
    have a2 : inR (D : Int) 1 6 = true := by unfold inR; exact decide_eq_true (by omega)
    have a3 : isKey 7 = true := by decide
    have a4 : decide ((cs.length : Int) = (W : Int) * (D : Int)) = true := decide_eq_true (by rw [hl, Nat.mul_comm]; exact Int.natCast_mul _ _)
    have a5 : cs.all cellR = true := by rw [List.all_eq_true]; intro x hx; have := hc x hx; unfold cellR inR; exact decide_eq_true (by omega)
    rw [a1, a2, a3, a4, a5]; rfl
  have c2 : keysB cs = true := by
    unfold keysB; rw [List.all_eq_true]; intro x hx; have := hc x hx; unfold isKey inR; exact decide_eq_true (by omega)
  show (nameB nm && cellsB (W : Int) (D : Int) 7 cs && keysB cs && topsB R ks ts es && keysB ts) = true
  rw [hn, c1, c2, t1, t2]; rfl

end Go.Proofs.Ytfclkbppmkjkeaa

namespace Go.Proofs.Ytfclkbppmkjkeaa
open Go.RowKit
attribute [local go_sem ↓] Go.wp_at_zero Go.wp_at_succ

theorem at0_is {xs : List Int} {i : Nat} (h : i < xs.length) : xs[i] = at0 xs i := by unfold at0; rw [List.getElem?_eq_getElem h]; rfl

end Go.Proofs.Ytfclkbppmkjkeaa

namespace Go.Proofs.Ytfclkbppmkjkeaa
open Go.RowKit
attribute [local go_sem ↓] Go.wp_at_zero Go.wp_at_succ

theorem l00From_any {w : World} {a : Option Addr} {c n : Nat} :
    Calls Try.prog 62 #[.slice a n c] w fun e w' => e = .returned (.pointer (some ⟨w.heap.size, 0, none⟩)) ∧ w.alloc (.cells #[.slice a n c, .int .i64 0, .int .u64 0] 127) = w' := by
  go_enter Try.func62, Try.ntmps62
  go_wp2
  go_ret
  exact ⟨rfl, rfl⟩
theorem src_new {w : World} {a : Option Addr} {c : Nat} {xs : List Int} (hr : Rd (Value.int .u8) w a c xs) (hb : ∀ x ∈ xs, 0 ≤ x ∧ x < 256) :
    Src (w.alloc (.cells #[.slice a xs.length c, .int .i64 0, .int .u64 0] 127)) w.heap.size a c xs 0 :=
  ⟨⟨0, 0, Nat.le_refl _, Blk.new _ _ _⟩, hr.below ((Below.refl w.heap.size w).alloc (Nat.le_refl _) _) (Nat.le_refl _), fun h0 p hp => by obtain ⟨g, o, e, hlt⟩ := hr.here h0; rw [e] at hp; simp at hp; subst hp; show g ≠ _; omega, hb⟩

end Go.Proofs.Ytfclkbppmkjkeaa
