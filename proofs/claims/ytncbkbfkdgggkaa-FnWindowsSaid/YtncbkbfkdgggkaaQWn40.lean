/- A bit is brought into a window: the reference's text. PutWindow in the reference's text. FnWindows: a window and the ones seen: kept, put, valid (plain). FnWindows: what a window tells of the ones seen (plain). FnWindows: the ones seen, counted (plain). FnWindows: one round of the law's first loop, and its end (plain). PutWindow in the program's text. -/
import Derived.Test.YtncbkbfkdgggkaaQWn37
import Derived.Test.YtncbkbfkdgggkaaQWn33
import Derived.Test.YtncbkbfkdgggkaaQWn1
import Derived.Deep.LoopGhost
import Derived.Deep.DrawnRows
import Derived.Test.YtncbkbfkdgggkaaQWn5
import Derived.Deep.Cut
namespace Go.Proofs.Ytncbkbfkdgggkaa
open Go.RowKit
attribute [local go_sem ↓] Go.wp_at_zero Go.wp_at_succ

end Go.Proofs.Ytncbkbfkdgggkaa

namespace Go.Proofs.Ytncbkbfkdgggkaa
open Go.RowKit
attribute [local go_sem ↓] Go.wp_at_zero Go.wp_at_succ

/-- What the times and sizes become. -/
def putP (L P : Int) (ts ss : List Int) (t : Int) (b : Bool) : Pr := putR P (put0 (ts.drop (keptI ts (t - L))) (ss.drop (keptI ts (t - L))) t b)
def putOk (L P : Int) (ts ss : List Int) (t : Int) (b : Bool) : Bool := lateB L P ts ss t && winB L P (putP L P ts ss t b).1 (putP L P ts ss t b).2
/-- A window in new memory, its two slices apart, and a bool. -/
def RetWinX (w : World) (L P : Int) (xs ys : List Int) (b : Bool) (en : Ending) (w' : World) : Prop :=
  ∃ a c a' c', en = .returned (.tuple #[winV L P a xs.length c a' ys.length c', .bool b]) ∧ Own (Value.int .i64) 2 w' w.heap.size a c xs ∧ Own (Value.int .i64) 2 w' w.heap.size a' c' ys ∧ Sep a a' ∧ Below w.heap.size w w'
/-- A window if ok, and whether. -/
def RetPut (w : World) (L P : Int) (Q : Pr) (ok : Bool) (en : Ending) (w' : World) : Prop :=
  RetWinX w (if ok then L else 0) (if ok then P else 0) (if ok then Q.1 else []) (if ok then Q.2 else []) ok en w'
theorem retPut_yes {w w' : World} {L P : Int} {QT QS : List Int} {en : Ending} (h : RetWinX w L P QT QS true en w') : RetPut w L P (QT, QS) true en w' := h
theorem retPut_no {w w' : World} {L P : Int} {Q : Pr} {en : Ending} (h : RetWinX w 0 0 [] [] false en w') : RetPut w L P Q false en w' := h
theorem retWinX_no {w w' : World} (hb : Below w.heap.size w w') : RetWinX w 0 0 [] [] false (.returned (.tuple #[winV 0 0 none 0 0 none 0 0, .bool false])) w' :=
  ⟨none, 0, none, 0, rfl, own_nil _ _ _ _, own_nil _ _ _ _, fun p q hp => by simp at hp, hb⟩

end Go.Proofs.Ytncbkbfkdgggkaa

namespace Go.Proofs.Ytncbkbfkdgggkaa
open Go.RowKit

/-- The ones seen, O: some long past, the others in the groups. -/
def DgW (L P t : Int) (O ts ss : List Int) : Prop := ∃ Dp G, O = Dp ++ G.flatten ∧ ts = gT G ∧ ss = gS G ∧ DgJ P G ∧ (∀ d ∈ Dp, d ≤ t - L) ∧ O.Pairwise (fun a b => a ≤ b) ∧ (∀ x ∈ O, 0 ≤ x ∧ x ≤ t) ∧ ∀ z, ((gS G).count z : Int) ≤ P + 1

theorem le_lst {g : List Int} (h : g.Pairwise (fun a b => a ≤ b)) {x : Int} (hx : x ∈ g) : x ≤ lstG g := by
  unfold lstG
  cases hl : g.getLast? with
  | none => rw [List.getLast?_eq_none_iff.1 hl] at hx; cases hx
  | some y =>
    obtain ⟨ys, rfl⟩ := List.getLast?_eq_some_iff.1 hl
    rw [Option.getD_some]
    rcases List.mem_append.1 hx with h1 | h1
    · exact (List.pairwise_append.1 h).2.2 x h1 y (by simp)
    · rw [List.mem_singleton.1 h1]; exact Int.le_refl _
theorem lst_mem {g : List Int} (h : g ≠ []) : lstG g ∈ g := by
  unfold lstG
  cases hl : g.getLast? with
  | none => exact absurd (List.getLast?_eq_none_iff.1 hl) h
  | some y => exact List.mem_of_getLast? hl
theorem gS_drop (G : List (List Int)) (k : Nat) : gS (G.drop k) = (gS G).drop k := by simp [gS, List.map_drop]
theorem gT_drop (G : List (List Int)) (k : Nat) : gT (G.drop k) = (gT G).drop k := by simp [gT, List.map_drop]
theorem dgj_drop {P : Int} {G : List (List Int)} (D : DgJ P G) (k : Nat) : DgJ P (G.drop k) := by
  refine ⟨fun g hg => D.ne g (List.mem_of_mem_drop hg), fun g hg => D.pow g (List.mem_of_mem_drop hg), ?_, fun a b hab hm => ?_⟩
  · rw [gS_drop]; exact D.desc.drop
  · have h1 := D.low a b hab (by rw [gS_drop] at hm; exact List.mem_of_mem_drop hm)
    have hsplit : gS G = (gS G).take k ++ (gS G).drop k := (List.take_append_drop k _).symm
    have hd := D.desc
    rw [hsplit, List.pairwise_append] at hd
    rw [gS_drop] at hm ⊢
    have h0 : ((gS G).take k).count ((2 : Int) ^ a) = 0 := List.count_eq_zero.2 fun hx => by
      have h2 := hd.2.2 _ hx _ hm
      have h3 : 2 ^ a < 2 ^ b := Nat.pow_lt_pow_right (by decide) hab
      rw [two_pow_int, two_pow_int] at h2
      omega
    rw [hsplit, List.count_append, h0] at h1
    simpa using h1

theorem dgw_kept {L P t t' : Int} {O ts ss : List Int} (h : DgW L P t O ts ss) (ht : t ≤ t') : DgW L P t' O (ts.drop (keptI ts (t' - L))) (ss.drop (keptI ts (t' - L))) := by
  obtain ⟨Dp, G, rfl, rfl, rfl, D, hD, hS, hO, hC⟩ := h
  obtain ⟨k, hk⟩ : ∃ k, keptI (gT G) (t' - L) = k := ⟨_, rfl⟩
  rw [hk]
  refine ⟨Dp ++ (G.take k).flatten, G.drop k, ?_, (gT_drop G k).symm, (gS_drop G k).symm, dgj_drop D k, ?_, hS, fun x hx => ⟨(hO x hx).1, by have := (hO x hx).2; omega⟩, fun z => ?_⟩
  · rw [List.append_assoc, ← List.flatten_append, List.take_append_drop]
  · intro d hd
    rcases List.mem_append.1 hd with hd | hd
    · have := hD d hd; omega
    · obtain ⟨g, hg, hdg⟩ := List.mem_flatten.1 hd
      obtain ⟨i, hi, rfl⟩ := List.getElem_of_mem hg
      rw [List.length_take] at hi
      have hik : i < k := by omega
      have hgp : (G.take k)[i].Pairwise (fun a b => a ≤ b) := by
        refine (List.pairwise_append.1 hS).2.1.sublist ?_
        exact List.sublist_flatten_of_mem (List.mem_of_mem_take hg)
      have h1 := le_lst hgp hdg
      have h2 : ¬ (t' - L < lstG (G.take k)[i]) := by
        have h3 := List.not_of_lt_findIdx (p := fun x => decide (t' - L < x)) (xs := gT G) (i := i) (by show i < keptI _ _; rw [hk]; exact hik)
        have e : (gT G)[i]'(by simp [gT]; omega) = lstG (G.take k)[i] := by simp [gT]
        rw [e] at h3
        simpa using h3
      omega
  · rw [gS_drop]
    have h1 := hC z
    have h2 := List.Sublist.count_le z (List.drop_sublist k (gS G))
    omega

theorem gS_one {P : Int} {G : List (List Int)} (D : DgJ P G) {z : Int} (hz : z ∈ gS G) : 1 ≤ z := by
  obtain ⟨g, hg, rfl⟩ := List.mem_map.1 hz
  have := D.ne g hg
  cases g with
  | nil => exact absurd rfl this
  | cons _ _ => simp; omega
/-- Put: a one is a group of its own, then the groups are joined. -/
theorem dgw_put {L P t t' : Int} {O ts ss : List Int} {b : Bool} (h : DgW L P t O ts ss) (ht : t ≤ t') (h0 : 0 ≤ t') (hw : winB L P ts ss = true) : DgW L P t' (if b then O ++ [t'] else O) (putP L P ts ss t' b).1 (putP L P ts ss t' b).2 := by
  have hP := (winB_parts hw).2.2.1
  have hI := put0_inv hw (keptI ts (t' - L)) t' b
  have hK := dgw_kept h ht
  have hE : putP L P ts ss t' b = implK P 21 (2 ^ 0) (put0 (ts.drop (keptI ts (t' - L))) (ss.drop (keptI ts (t' - L))) t' b) := putR_impl hw _ _ _
  rw [hE]
  generalize ts.drop (keptI ts (t' - L)) = kt at *
  generalize ss.drop (keptI ts (t' - L)) = ks at *
  obtain ⟨Dp, G, rfl, rfl, rfl, D, hD, hS, hO, hC⟩ := hK
  have key : ∃ G1, put0 (gT G) (gS G) t' b = (gT G1, gS G1) ∧ DgJ P G1 ∧ (if b then (Dp ++ G.flatten) ++ [t'] else Dp ++ G.flatten) = Dp ++ G1.flatten := by
    cases b with
    | false => exact ⟨G, rfl, D, rfl⟩
    | true =>
      refine ⟨G ++ [[t']], by simp [put0, gT, gS, lstG], ⟨?_, ?_, ?_, ?_⟩, by simp⟩
      · intro g hg
        rcases List.mem_append.1 hg with hg | hg
        · exact D.ne g hg
        · rw [List.mem_singleton.1 hg]; simp
      · intro g hg
        rcases List.mem_append.1 hg with hg | hg
        · exact D.pow g hg
        · rw [List.mem_singleton.1 hg]; exact ⟨0, rfl⟩
      · have e : gS (G ++ [[t']]) = gS G ++ [1] := by simp [gS]
        rw [e, List.pairwise_append]
        exact ⟨D.desc, List.pairwise_singleton _ _, fun a ha c hc => by rw [List.mem_singleton.1 hc]; exact gS_one D ha⟩
      · intro a c hac hm
        have e : gS (G ++ [[t']]) = gS G ++ [1] := by simp [gS]
        rw [e] at hm ⊢
        rcases List.mem_append.1 hm with hm | hm
        · have := D.low a c hac hm
          rw [List.count_append]
          omega
        · have h1 := List.mem_singleton.1 hm
          have h3 : 2 ^ a < 2 ^ c := Nat.pow_lt_pow_right (by decide) hac
          have h4 := Nat.pow_pos (n := a) (show 0 < 2 by decide)
          rw [two_pow_int] at h1
          omega
  obtain ⟨G1, e1, D1, f1⟩ := key
  rw [e1] at hI ⊢
  obtain ⟨G2, e2, D2, I2, f2⟩ := implK_dg hP 21 0 (by omega) G1 D1 hI
  rw [e2, f1, ← f2]
  refine ⟨Dp, G2, rfl, rfl, rfl, D2, hD, ?_, ?_, fun z => ?_⟩
  · rw [f2, ← f1]
    cases b with
    | false => exact hS
    | true =>
      show (Dp ++ G.flatten ++ [t']).Pairwise _
      rw [List.pairwise_append]
      exact ⟨hS, List.pairwise_singleton _ _, fun a ha c hc => by rw [List.mem_singleton.1 hc]; exact (hO a ha).2⟩
  · rw [f2, ← f1]
    cases b with
    | false => exact hO
    | true =>
      intro x hx
      rcases List.mem_append.1 hx with hx | hx
      · exact hO x hx
      · rw [List.mem_singleton.1 hx]; exact ⟨h0, Int.le_refl _⟩
  · by_cases hz : z = 2 ^ 21
    · have := I2.end_ rfl
      rw [hz]
      have h5 : ((gS G2).count ((2 : Int) ^ 21)) ≤ 1 := this
      omega
    · exact I2.oth z hz

/-! ### It is valid -/
theorem runK_cntD (ss : List Int) : ∀ k, k < ss.length → runK ss (k + 1) ≤ ((ss.take (k + 1)).count (at0 ss k) : Int)
  | 0, h => by
    rw [runK_zero]
    have e : ss.take 1 = [at0 ss 0] := by
      cases ss with
      | nil => simp at h
      | cons x l => simp [at0]
    rw [e]; simp
  | k + 1, h => by
    have ih := runK_cntD ss k (by omega)
    have e : ss.take (k + 1 + 1) = ss.take (k + 1) ++ [at0 ss (k + 1)] := by
      rw [List.take_add_one, List.getElem?_eq_getElem h]
      simp [at0, List.getElem?_eq_getElem h]
    rw [e, List.count_append]
    show (if k + 1 = 0 ∨ at0 ss (k + 1) ≠ at0 ss (k + 1 - 1) then 0 else runK ss (k + 1)) + 1 ≤ _
    have e1 : [at0 ss (k + 1)].count (at0 ss (k + 1)) = 1 := by simp
    rw [e1]
    split
    · omega
    · next hn =>
      have : at0 ss (k + 1) = at0 ss k := by
        refine Decidable.byContradiction fun hne => hn (.inr ?_)
        rw [Nat.add_sub_cancel]; exact hne
      rw [this]
      omega
theorem at0_get {xs : List Int} {k : Nat} (h : k < xs.length) : at0 xs k = xs[k] := by unfold at0; rw [List.getElem?_eq_getElem h]; rfl
theorem len_flat {G : List (List Int)} (h : ∀ g ∈ G, g ≠ []) : G.length ≤ G.flatten.length := by
  induction G with
  | nil => simp
  | cons g G ih =>
    have h1 := ih (fun x hx => h x (List.mem_cons_of_mem _ hx))
    have h2 : 1 ≤ g.length := List.length_pos_iff.2 (h g List.mem_cons_self)
    simp only [List.flatten_cons, List.length_cons, List.length_append]
    omega
theorem dgw_win {L P t : Int} {O ts ss : List Int} (h : DgW L P t O ts ss) (hL : 1 ≤ L ∧ L ≤ 1000000) (hP : 1 ≤ P ∧ P ≤ 16) (ht : t ≤ 1000000) (hO : O.length ≤ 128) : winB L P ts ss = true := by
  obtain ⟨Dp, G, rfl, rfl, rfl, D, hD, hS, hR, hC⟩ := h
  have hlG : G.length ≤ 128 := by
    have := len_flat D.ne
    rw [List.length_append] at hO
    omega
  have hlT : (gT G).length = G.length := by simp [gT]
  have hlS : (gS G).length = G.length := by simp [gS]
  unfold winB
  simp only [Bool.and_eq_true, List.all_eq_true, List.mem_range, decide_eq_true_eq]
  refine ⟨⟨⟨⟨⟨(inR_eq _ _ _).2 hL, (inR_eq _ _ _).2 hP⟩, by omega⟩, by omega⟩, fun k hk => ?_⟩, fun k hk => ?_⟩
  · rw [hlT] at hk
    have hm : ∀ j (hj : j < G.length), at0 (gT G) j = lstG G[j] ∧ lstG G[j] ∈ G[j] := fun j hj => ⟨by rw [at0_get (by omega)]; simp [gT], lst_mem (D.ne _ (List.getElem_mem hj))⟩
    obtain ⟨e1, m1⟩ := hm k hk
    have hb := hR (lstG G[k]) (List.mem_append_right _ (List.mem_flatten.2 ⟨_, List.getElem_mem hk, m1⟩))
    unfold timeOk
    rw [Bool.and_eq_true, e1]
    refine ⟨(inR_eq _ _ _).2 ⟨hb.1, by omega⟩, ?_⟩
    rw [Bool.or_eq_true]
    by_cases h0 : k = 0
    · left; simp [h0]
    · right
      obtain ⟨e2, m2⟩ := hm (k - 1) (by omega)
      rw [e2]
      refine decide_eq_true ?_
      have hF := (List.pairwise_append.1 hS).2.1
      rw [List.pairwise_flatten] at hF
      exact (List.pairwise_iff_getElem.1 hF.2) (k - 1) k (by omega) hk (by omega) _ m2 _ m1
  · rw [hlT] at hk
    have e1 : at0 (gS G) k = (G[k].length : Int) := by rw [at0_get (by omega)]; simp [gS]
    obtain ⟨j, hj⟩ := D.pow G[k] (List.getElem_mem hk)
    unfold sizeOk
    rw [Bool.and_eq_true, Bool.and_eq_true]
    refine ⟨⟨?_, ?_⟩, decide_eq_true ?_⟩
    · unfold isPow
      rw [e1, hj, List.any_eq_true]
      refine ⟨j, List.mem_range.2 ?_, by rw [← two_pow_int]; simp⟩
      refine Decidable.byContradiction fun hge => ?_
      have h1 : 2 ^ 21 ≤ 2 ^ j := Nat.pow_le_pow_right (by decide) (by omega)
      have h2 : G[k].length ≤ G.flatten.length := (List.sublist_flatten_of_mem (List.getElem_mem hk)).length_le
      rw [List.length_append] at hO
      rw [hj] at h2
      omega
    · rw [Bool.or_eq_true]
      by_cases h0 : k = 0
      · left; simp [h0]
      · right
        refine decide_eq_true ?_
        rw [at0_get (by omega), at0_get (by omega)]
        exact (List.pairwise_iff_getElem.1 D.desc) (k - 1) k (by omega) (by omega) (by omega)
    · have h1 := runK_cntD (gS G) k (by omega)
      have h2 := List.Sublist.count_le (at0 (gS G) k) (List.take_sublist (k + 1) (gS G))
      have h3 := hC (at0 (gS G) k)
      omega

end Go.Proofs.Ytncbkbfkdgggkaa

namespace Go.Proofs.Ytncbkbfkdgggkaa
open Go.RowKit

/-- The sum of the powers under 2^k, each as often as it is there. -/
def powW (k : Nat) (l : List Int) : Int := match k with
  | 0 => 0
  | k + 1 => powW k l + 2 ^ k * (l.count ((2 : Int) ^ k) : Int)
def powX (k : Nat) (x : Int) : Int := match k with
  | 0 => 0
  | k + 1 => powX k x + if x = 2 ^ k then 2 ^ k else 0
theorem powX_le {x : Int} (hx : 0 ≤ x) : ∀ k, powX k x ≤ x ∧ ((2 : Int) ^ k ≤ x → powX k x = 0)
  | 0 => ⟨hx, fun _ => rfl⟩
  | k + 1 => by
    obtain ⟨h1, h2⟩ := powX_le hx k
    have e2 : (2 : Int) ^ (k + 1) = 2 * 2 ^ k := by rw [Int.pow_succ]; omega
    have hp : (0 : Int) < 2 ^ k := Int.pow_pos (by omega)
    show powX k x + (if x = 2 ^ k then 2 ^ k else 0) ≤ x ∧ (_ → powX k x + (if x = 2 ^ k then 2 ^ k else 0) = 0)
    by_cases hk : x = 2 ^ k
    · rw [if_pos hk, h2 (by omega)]
      exact ⟨by omega, fun h => by omega⟩
    · rw [if_neg hk]
      exact ⟨by omega, fun h => by rw [h2 (by omega)]; rfl⟩
theorem powW_cons (x : Int) (l : List Int) : ∀ k, powW k (x :: l) = powW k l + powX k x
  | 0 => rfl
  | k + 1 => by
    show powW k (x :: l) + 2 ^ k * ((x :: l).count ((2 : Int) ^ k) : Int) = powW k l + 2 ^ k * (l.count ((2 : Int) ^ k) : Int) + (powX k x + if x = 2 ^ k then 2 ^ k else 0)
    rw [powW_cons x l k, List.count_cons]
    by_cases hk : x = 2 ^ k
    · rw [if_pos (by simp [hk]), if_pos hk, Int.natCast_add, Int.mul_add]
      have : (2 : Int) ^ k * ((1 : Nat) : Int) = 2 ^ k := by simp
      rw [this]; omega
    · rw [if_neg (by simp [hk]), if_neg hk, Nat.add_zero]; omega
theorem powW_le (k : Nat) : ∀ l : List Int, (∀ x ∈ l, 0 ≤ x) → powW k l ≤ l.sum
  | [], _ => by
    have : ∀ k, powW k [] = 0 := fun k => by
      induction k with
      | zero => rfl
      | succ k ih => show powW k [] + 2 ^ k * (([] : List Int).count _ : Int) = 0; rw [ih]; simp
    rw [this]; simp
  | x :: l, h => by
    have h1 := powW_le k l (fun y hy => h y (List.mem_cons_of_mem _ hy))
    have h2 := (powX_le (h x List.mem_cons_self) k).1
    rw [powW_cons, List.sum_cons]
    omega
theorem powW_ge {P : Int} {l : List Int} : ∀ k, (∀ a, a < k → P ≤ (l.count ((2 : Int) ^ a) : Int)) → P * (2 ^ k - 1) ≤ powW k l
  | 0, _ => by show P * (1 - 1) ≤ 0; simp
  | k + 1, h => by
    have h1 := powW_ge k (fun a ha => h a (by omega))
    have h2 := h k (by omega)
    have hp : (0 : Int) ≤ 2 ^ k := Int.le_of_lt (Int.pow_pos (by omega))
    have h3 := Int.mul_le_mul_of_nonneg_left h2 hp
    show P * (2 ^ (k + 1) - 1) ≤ powW k l + 2 ^ k * (l.count ((2 : Int) ^ k) : Int)
    have e2 : P * ((2 : Int) ^ (k + 1) - 1) = P * (2 ^ k - 1) + 2 ^ k * P := by
      rw [Int.pow_succ, Int.mul_sub, Int.mul_sub]
      have : P * ((2 : Int) ^ k * 2) = 2 * (P * 2 ^ k) := by rw [← Int.mul_assoc]; omega
      rw [this, Int.mul_comm (2 ^ k) P]; omega
    omega
theorem gS_sum (G : List (List Int)) : (gS G).sum = (G.flatten.length : Int) := by
  induction G with
  | nil => rfl
  | cons g G ih =>
    show (g.length : Int) + (gS G).sum = _
    rw [ih, List.flatten_cons, List.length_append]; omega
theorem sumW_eq' : ∀ (xs : List Int) (a : Int), 0 ≤ a → (∀ x ∈ xs, 0 ≤ x) → a + xs.sum ≤ 1048576 → xs.foldl (fun s x => wrap64 (s + x)) a = a + xs.sum
  | [], a, _, _, _ => by simp
  | x :: xs, a, h0, h1, h2 => by
    have hx := h1 x List.mem_cons_self
    have hs : 0 ≤ xs.sum := by
      have : ∀ l : List Int, (∀ x ∈ l, 0 ≤ x) → 0 ≤ l.sum := by
        intro l
        induction l with
        | nil => intro _; simp
        | cons y l ih => intro h; rw [List.sum_cons]; have := h y List.mem_cons_self; have := ih (fun z hz => h z (List.mem_cons_of_mem _ hz)); omega
      exact this xs (fun z hz => h1 z (List.mem_cons_of_mem _ hz))
    rw [List.sum_cons] at h2 ⊢
    show xs.foldl _ (wrap64 (a + x)) = _
    have hw : wrap64 (a + x) = a + x := by unfold wrap64; omega
    rw [hw, sumW_eq' xs (a + x) (by omega) (fun z hz => h1 z (List.mem_cons_of_mem _ hz)) (by omega)]
    omega

/-- What a window tells at the time of the last. -/
structure Told (E lo hi tl P : Int) : Prop where
  e0 : 0 ≤ E
  e1 : E ≤ 128
  d0 : lo ≤ E
  d1 : E ≤ hi
  t1 : lo - 1 ≤ tl
  t2 : tl ≤ hi
  b1 : -1 ≤ lo
  b2 : hi ≤ 128
  r1 : 0 < E → (E - tl) * 2 * P ≤ E + 2 * P
  r2 : (tl - E) * 2 * P ≤ E + 2 * P

theorem told_of {L P t : Int} {O kt ks : List Int} (h : DgW L P t O kt ks) (hn : ∀ x ∈ kt, t - L < x) (hP : 1 ≤ P) (hO : O.length ≤ 128) :
    Told (O.countP (fun x => decide (t - L < x)) : Int) (lowV ks) (highV ks) (countV ks) P := by
  obtain ⟨Dp, G, rfl, rfl, rfl, D, hD, hS, hR, hC⟩ := h
  have hD0 : Dp.countP (fun x => decide (t - L < x)) = 0 := List.countP_eq_zero.2 fun x hx => by have := hD x hx; simp; omega
  rw [List.countP_append, hD0, Nat.zero_add]
  rw [List.length_append] at hO
  cases G with
  | nil =>
    have e0 : gS [] = [] := rfl
    rw [e0]
    refine ⟨by simp, by simp, by simp [lowV], by simp [highV], by simp [lowV, countV], by simp [highV, countV], by simp [lowV], by simp [highV], fun h => absurd h (by simp), by simp [countV]; omega⟩
  | cons g G =>
    have hg := D.ne g List.mem_cons_self
    have hF := (List.pairwise_append.1 hS).2.1
    rw [List.pairwise_flatten] at hF
    have hlast : t - L < lstG g := hn _ (by simp [gT])
    have hrest : ∀ x ∈ G.flatten, t - L < x := by
      intro x hx
      obtain ⟨g2, hg2, hx2⟩ := List.mem_flatten.1 hx
      have := (List.pairwise_cons.1 hF.2).1 g2 hg2 _ (lst_mem hg) x hx2
      omega
    have c2 : G.flatten.countP (fun x => decide (t - L < x)) = G.flatten.length := List.countP_eq_length.2 fun x hx => by simpa using hrest x hx
    have c1 : 1 ≤ g.countP (fun x => decide (t - L < x)) := List.countP_pos_iff.2 ⟨_, lst_mem hg, by simpa using hlast⟩
    have c3 := List.countP_le_length (p := fun x : Int => decide (t - L < x)) (l := g)
    rw [List.flatten_cons, List.countP_append, c2]
    rw [List.flatten_cons, List.length_append] at hO
    have hsum : sumW (gS (g :: G)) = (g.length : Int) + (G.flatten.length : Int) := by
      have h1 := gS_sum (g :: G)
      rw [List.flatten_cons, List.length_append] at h1
      have h2 := sumW_eq' (gS (g :: G)) 0 (by omega) (fun x hx => by have := gS_one D hx; omega) (by omega)
      show (gS (g :: G)).foldl _ 0 = _
      rw [h2]; omega
    have hhd : at0 (gS (g :: G)) 0 = (g.length : Int) := rfl
    have hln : ¬ (gS (g :: G)).length = 0 := by simp [gS]
    obtain ⟨k, hk⟩ := D.pow g List.mem_cons_self
    have hrat : P * ((g.length : Int) - 1) ≤ (G.flatten.length : Int) := by
      have hz := powW_le k (gS G) (fun x hx => by have := gS_one D (z := x) (by show x ∈ _ :: _; exact List.mem_cons_of_mem _ hx); omega)
      rw [gS_sum] at hz
      have hl := powW_ge (P := P) (l := gS G) k (fun a ha => by
        have h1 := D.low a k ha (by rw [two_pow_int, ← hk]; exact List.mem_cons_self)
        have e : gS (g :: G) = (g.length : Int) :: gS G := rfl
        have h3 : 2 ^ a < 2 ^ k := Nat.pow_lt_pow_right (by decide) ha
        rw [e, List.count_cons_of_ne (by rw [two_pow_int]; omega)] at h1
        exact h1)
      rw [two_pow_int, ← hk] at hl
      omega
    have hlo : lowV (gS (g :: G)) = (G.flatten.length : Int) + 1 := by
      unfold lowV
      rw [if_neg hln, hsum, hhd]
      unfold wrap64; omega
    have hhi : highV (gS (g :: G)) = (g.length : Int) + (G.flatten.length : Int) := by
      unfold highV
      rw [if_neg hln, hsum]
    have htl : countV (gS (g :: G)) = (g.length : Int) + (G.flatten.length : Int) - (g.length : Int) / 2 := by
      unfold countV
      rw [if_neg hln, hsum, hhd]
      unfold wrap64; omega
    rw [hlo, hhi, htl]
    have hpow : (g.length : Int) = 1 ∨ (g.length : Int) = 2 * ((g.length : Int) / 2) := by
      cases k with
      | zero => left; rw [hk]; rfl
      | succ k => right; rw [hk, Nat.pow_succ]; omega
    generalize hx : g.countP (fun x => decide (t - L < x)) = x at *
    generalize hm : (g.length : Int) / 2 = m at *
    generalize G.flatten.length = F at *
    generalize hgl : g.length = s at *
    have hs1 : 1 ≤ s := by have := List.length_pos_iff.2 hg; omega
    have key : (m : Int) * 2 * P ≤ (F : Int) + 1 + 2 * P := by
      rcases hpow with h1 | h1
      · have hm0 : m = 0 := by omega
        rw [hm0]; simp; omega
      · have e : P * ((s : Int) - 1) = m * 2 * P - P := by
          rw [Int.mul_sub, Int.mul_one, h1, Int.mul_comm P, Int.mul_comm 2 m]
        omega
    have mono : ∀ a b : Int, a ≤ b → a * 2 * P ≤ b * 2 * P := fun a b hab => Int.mul_le_mul_of_nonneg_right (by omega) (by omega)
    refine ⟨by omega, by omega, by omega, by omega, by omega, by omega, by omega, by omega, fun _ => ?_, ?_⟩
    · have := mono (((x + F : Nat) : Int) - ((s : Int) + (F : Int) - m)) m (by omega)
      omega
    · have := mono ((s : Int) + (F : Int) - m - ((x + F : Nat) : Int)) m (by omega)
      omega

theorem dgw_late {L P t : Int} {O ts ss : List Int} (h : DgW L P t O ts ss) (hL : 1 ≤ L ∧ L ≤ 1000000) (hP : 1 ≤ P ∧ P ≤ 16) (h0 : 0 ≤ t) (ht : t ≤ 1000000) (hO : O.length ≤ 128) {t' : Int} (htt : t ≤ t') (ht' : t' ≤ 1000000) : lateB L P ts ss t' = true := by
  have hw := dgw_win h hL hP ht hO
  unfold lateB
  rw [hw, Bool.true_and, Bool.and_eq_true]
  refine ⟨(inR_eq _ _ _).2 ⟨by omega, ht'⟩, ?_⟩
  unfold lastOk
  rw [Bool.or_eq_true]
  by_cases hz : ts.length = 0
  · left; simp [hz]
  · right
    refine decide_eq_true ?_
    obtain ⟨Dp, G, rfl, rfl, rfl, D, hD, hS, hR, hC⟩ := h
    have hlT : (gT G).length = G.length := by simp [gT]
    rw [at0_get (by omega)]
    have e : (gT G)[(gT G).length - 1]'(by omega) = lstG (G[(gT G).length - 1]'(by omega)) := by simp [gT]
    rw [e]
    have hm := List.getElem_mem (l := G) (n := (gT G).length - 1) (by omega)
    have := (hR _ (List.mem_append_right _ (List.mem_flatten.2 ⟨_, hm, lst_mem (D.ne _ hm)⟩))).2
    omega
theorem kept_new {ts : List Int} {c : Int} (h : ts.Pairwise (fun a b => a ≤ b)) : ∀ x ∈ ts.drop (keptI ts c), c < x := by
  induction ts with
  | nil => intro x hx; simp at hx
  | cons y l ih =>
    obtain ⟨h1, h2⟩ := List.pairwise_cons.1 h
    intro x hx
    unfold keptI at hx
    rw [List.findIdx_cons] at hx
    by_cases hy : c < y
    · rw [decide_eq_true hy] at hx
      rcases List.mem_cons.1 (by simpa using hx) with rfl | hm
      · exact hy
      · have := h1 x hm; omega
    · rw [decide_eq_false hy] at hx
      exact ih h2 x (by simpa [keptI] using hx)
theorem dgw_times {L P t : Int} {O ts ss : List Int} (h : DgW L P t O ts ss) : ts.Pairwise (fun a b => a ≤ b) := by
  obtain ⟨Dp, G, rfl, rfl, rfl, D, hD, hS, hR, hC⟩ := h
  have hF := (List.pairwise_append.1 hS).2.1
  rw [List.pairwise_flatten] at hF
  unfold gT
  rw [List.pairwise_map]
  refine List.Pairwise.imp_of_mem (fun {a b} ha hb hab => ?_) hF.2
  exact hab _ (lst_mem (D.ne a ha)) _ (lst_mem (D.ne b hb))
theorem dgw_tells {L P t : Int} {O ts ss : List Int} (h : DgW L P t O ts ss) (hL : 1 ≤ L ∧ L ≤ 1000000) (hP : 1 ≤ P ∧ P ≤ 16) (h0 : 0 ≤ t) (ht : t ≤ 1000000) (hO : O.length ≤ 128) :
    lateB L P ts ss t = true ∧ Told (O.countP (fun x => decide (t - L < x)) : Int) (winR lowV L P ts ss t) (winR highV L P ts ss t) (winR countV L P ts ss t) P := by
  have hl := dgw_late h hL hP h0 ht hO (Int.le_refl t) ht
  refine ⟨hl, ?_⟩
  unfold winR
  rw [if_pos hl, if_pos hl, if_pos hl]
  exact told_of (dgw_kept h (Int.le_refl t)) (kept_new (dgw_times h)) hP.1 hO
theorem dgw_start {L P t : Int} (hP : 1 ≤ P) : DgW L P t [] [] [] := ⟨[], [], rfl, rfl, rfl, ⟨by simp, by simp, by simp [gS], by simp [gS]⟩, by simp, by simp, by simp, by intro z; simp [gS]; omega⟩

/-- Long after the last: nothing is kept. -/
theorem dgw_end {L P t : Int} {O ts ss : List Int} (h : DgW L P t O ts ss) (hw : winB L P ts ss = true) : putP L P ts ss (t + L) false = ([], []) := by
  obtain ⟨Dp, G, rfl, rfl, rfl, D, hD, hS, hR, hC⟩ := h
  have hk : (gT G).length ≤ keptI (gT G) (t + L - L) := by
    refine Decidable.byContradiction fun hn => ?_
    have hlt : keptI (gT G) (t + L - L) < (gT G).length := by omega
    have h1 := List.findIdx_getElem (p := fun x => decide (t + L - L < x)) (xs := gT G) (w := hlt)
    have h2 := of_decide_eq_true h1
    have hlt2 : keptI (gT G) (t + L - L) < G.length := by simpa [gT] using hlt
    have e : (gT G)[(gT G).findIdx (fun x => decide (t + L - L < x))]'hlt = lstG (G[keptI (gT G) (t + L - L)]'hlt2) := by simp [gT, keptI]
    rw [e] at h2
    have hm := List.getElem_mem (l := G) hlt2
    have := (hR _ (List.mem_append_right _ (List.mem_flatten.2 ⟨_, hm, lst_mem (D.ne _ hm)⟩))).2
    omega
  have hS0 : (gS G).length ≤ keptI (gT G) (t + L - L) := by
    have : (gS G).length = (gT G).length := by simp [gS, gT]
    omega
  unfold putP
  rw [List.drop_eq_nil_of_le hk, List.drop_eq_nil_of_le hS0]
  have h3 := (winB_parts hw).2.2.1
  show putK P 21 1 ([], []) = ([], [])
  exact putK_id 21 1 ([], []) (fun z => by simp; omega)
theorem winB_nil {L P : Int} (hL : 1 ≤ L ∧ L ≤ 1000000) (hP : 1 ≤ P ∧ P ≤ 16) : winB L P [] [] = true := by
  unfold winB
  rw [(inR_eq _ _ _).2 hL, (inR_eq _ _ _).2 hP]
  rfl
theorem count_nil {L P t : Int} : winR countV L P [] [] t = 0 := by
  unfold winR
  split <;> rfl

end Go.Proofs.Ytncbkbfkdgggkaa

namespace Go.Proofs.Ytncbkbfkdgggkaa
open Go.RowKit

/-- The times of the true bits among the first k. -/
def onesL (tm : List Int) (bs : List Bool) : Nat → List Int
  | 0 => []
  | k + 1 => if bs[k]?.getD default then onesL tm bs k ++ [at0 tm k] else onesL tm bs k
/-- As CountExactly counts. -/
def cexN (tm : List Int) (bs : List Bool) (c t : Int) : Nat → Nat
  | 0 => 0
  | k + 1 => cexN tm bs c t k + if bs[k]?.getD default && (decide (c < at0 tm k) && decide (at0 tm k ≤ t)) then 1 else 0
theorem cex_ones {tm : List Int} {bs : List Bool} {c t : Int} : ∀ k, (∀ j, j < k → at0 tm j ≤ t) → cexN tm bs c t k = (onesL tm bs k).countP (fun x => decide (c < x))
  | 0, _ => rfl
  | k + 1, h => by
    have ih := cex_ones (tm := tm) (bs := bs) (c := c) (t := t) k (fun j hj => h j (by omega))
    have hk := h k (by omega)
    unfold cexN onesL
    rw [ih, decide_eq_true hk, Bool.and_true]
    cases bs[k]?.getD default with
    | false => rfl
    | true =>
      rw [Bool.true_and, if_pos rfl, List.countP_append, List.countP_singleton]
theorem ones_len (tm : List Int) (bs : List Bool) : ∀ k, (onesL tm bs k).length ≤ k
  | 0 => Nat.le_refl _
  | k + 1 => by
    have := ones_len tm bs k
    unfold onesL
    split
    · rw [List.length_append, List.length_singleton]; omega
    · omega
theorem ones_app {tm : List Int} {bs : List Bool} (b : Bool) : ∀ k, k ≤ bs.length → onesL tm (bs ++ [b]) k = onesL tm bs k
  | 0, _ => rfl
  | k + 1, h => by
    unfold onesL
    rw [ones_app b k (by omega), List.getElem?_append_left (by omega)]

end Go.Proofs.Ytncbkbfkdgggkaa

namespace Go.Proofs.Ytncbkbfkdgggkaa
open Go.RowKit

/-- The time of the last but one put, at the start 0. -/
def lastT (tm : List Int) : Nat → Int
  | 0 => 0
  | k + 1 => at0 tm k
theorem tms_mono {tm : List Int} (h : tm.Pairwise (fun x y => x ≤ y)) {i j : Nat} (hij : i ≤ j) (hj : j < tm.length) : at0 tm i ≤ at0 tm j := by
  rw [at0_get (by omega), at0_get hj]
  by_cases he : i = j
  · subst he; exact Int.le_refl _
  · exact (List.pairwise_iff_getElem.1 h) i j (by omega) hj (by omega)
theorem tms_bd {tm : List Int} (h : ∀ z ∈ tm, 0 ≤ z ∧ z + 5 ≤ 9 + 5 * (tm.length : Int)) (hn : tm.length ≤ 30) {j : Nat} (hj : j < tm.length) : 0 ≤ at0 tm j ∧ at0 tm j ≤ 154 := by
  rw [at0_get hj]
  have := h _ (List.getElem_mem hj)
  omega
theorem lastT_le {tm : List Int} (h : tm.Pairwise (fun x y => x ≤ y)) (hb : ∀ z ∈ tm, 0 ≤ z ∧ z + 5 ≤ 9 + 5 * (tm.length : Int)) (hn : tm.length ≤ 30) {k : Nat} (hk : k < tm.length) : 0 ≤ lastT tm k ∧ lastT tm k ≤ at0 tm k := by
  cases k with
  | zero => exact ⟨Int.le_refl _, (tms_bd hb hn hk).1⟩
  | succ k => exact ⟨(tms_bd hb hn (by omega)).1, tms_mono h (by omega) hk⟩
theorem tms_ok {tm : List Int} (h : tm.Pairwise (fun x y => x ≤ y)) (hb : ∀ z ∈ tm, 0 ≤ z ∧ z + 5 ≤ 9 + 5 * (tm.length : Int)) (hn : tm.length ≤ 30) {k : Nat} (hk : k ≤ tm.length) : (List.range k).all (timeOk (tm.take k)) = true := by
  rw [List.all_eq_true]
  intro j hj
  have hj := List.mem_range.1 hj
  have e : ∀ i, i < k → at0 (tm.take k) i = at0 tm i := fun i hi => by unfold at0; rw [List.getElem?_take_of_lt hi]
  have b := tms_bd hb hn (show j < tm.length by omega)
  unfold timeOk
  rw [Bool.and_eq_true, Bool.or_eq_true, e j hj]
  refine ⟨(inR_eq _ _ _).2 ⟨b.1, by omega⟩, ?_⟩
  by_cases h0 : j = 0
  · left; simp [h0]
  · right
    rw [e (j - 1) (by omega)]
    exact decide_eq_true (tms_mono h (by omega) (by omega))
theorem at0_take {tm : List Int} {k i : Nat} (hi : i < k) : at0 (tm.take k) i = at0 tm i := by unfold at0; rw [List.getElem?_take_of_lt hi]
theorem ones_take {tm : List Int} {bs : List Bool} : ∀ k n, k ≤ n → onesL (tm.take n) bs k = onesL tm bs k
  | 0, _, _ => rfl
  | k + 1, n, h => by
    unfold onesL
    rw [ones_take k n (by omega), at0_take (by omega)]
/-- What the law's window holds once k bits were put. -/
structure WinK (L P : Int) (tm : List Int) (bs : List Bool) (k : Nat) (ts ss : List Int) : Prop where
  g : DgW L P (lastT tm k) (onesL tm bs k) ts ss
  n : bs.length = k
  v : winB L P ts ss = true
theorem winK_start {L P : Int} {tm : List Int} (hL : 1 ≤ L ∧ L ≤ 1000000) (hP : 1 ≤ P ∧ P ≤ 16) : WinK L P tm [] 0 [] [] := ⟨dgw_start hP.1, rfl, winB_nil hL hP⟩
/-- One round's facts. -/
structure WinR (L P : Int) (tm : List Int) (bs : List Bool) (b : Bool) (k : Nat) (ts ss : List Int) (Q : Pr) (E : Nat) (lo hi tl : Int) : Prop where
  late : lateB L P ts ss (at0 tm k) = true
  put : putP L P ts ss (at0 tm k) b = Q
  win : winB L P Q.1 Q.2 = true
  nxt : WinK L P tm (bs ++ [b]) (k + 1) Q.1 Q.2
  ex : cexN (tm.take (k + 1)) (bs ++ [b]) (at0 tm k - L) (at0 tm k) (k + 1) = E
  late2 : lateB L P Q.1 Q.2 (at0 tm k) = true
  low : winR lowV L P Q.1 Q.2 (at0 tm k) = lo
  high : winR highV L P Q.1 Q.2 (at0 tm k) = hi
  cnt : winR countV L P Q.1 Q.2 (at0 tm k) = tl
  told : Told (E : Int) lo hi tl P
theorem winR_of {L P : Int} {tm : List Int} {bs : List Bool} {k : Nat} {ts ss : List Int} (h : WinK L P tm bs k ts ss) (b : Bool) (hL : 1 ≤ L ∧ L ≤ 1000000) (hP : 1 ≤ P ∧ P ≤ 16) (hs : tm.Pairwise (fun x y => x ≤ y)) (hb : ∀ z ∈ tm, 0 ≤ z ∧ z + 5 ≤ 9 + 5 * (tm.length : Int)) (hn : tm.length ≤ 30) (hk : k < tm.length) : ∃ Q E lo hi tl, WinR L P tm bs b k ts ss Q E lo hi tl := by
  have lt := lastT_le hs hb hn hk
  have bd := tms_bd hb hn hk
  have ln := ones_len tm bs k
  have hl := dgw_late h.g hL hP lt.1 (by omega) (by omega) lt.2 (by omega)
  have hp := dgw_put (b := b) h.g lt.2 bd.1 h.v
  have eO : (if b then onesL tm bs k ++ [at0 tm k] else onesL tm bs k) = onesL tm (bs ++ [b]) (k + 1) := by
    have hbk : (bs ++ [b])[k]?.getD default = b := by
      rw [← h.n, List.getElem?_append_right (Nat.le_refl _), Nat.sub_self]; rfl
    show _ = if (bs ++ [b])[k]?.getD default then onesL tm (bs ++ [b]) k ++ [at0 tm k] else onesL tm (bs ++ [b]) k
    rw [hbk, ones_app b k (by rw [h.n]; exact Nat.le_refl _)]
  rw [eO] at hp
  have ln2 := ones_len tm (bs ++ [b]) (k + 1)
  have hw := dgw_win hp hL hP (by omega) (by omega)
  have tl := dgw_tells hp hL hP bd.1 (by omega) (by omega)
  have hx : cexN (tm.take (k + 1)) (bs ++ [b]) (at0 tm k - L) (at0 tm k) (k + 1) = (onesL tm (bs ++ [b]) (k + 1)).countP (fun x => decide (at0 tm k - L < x)) := by
    rw [cex_ones (k + 1) (fun j hj => by rw [at0_take hj]; exact tms_mono hs (by omega) hk), ones_take (k + 1) (k + 1) (Nat.le_refl _)]
  refine ⟨_, _, _, _, _, hl, rfl, hw, ⟨hp, by rw [List.length_append, h.n]; rfl, hw⟩, rfl, tl.1, rfl, rfl, rfl, ?_⟩
  rw [hx]; exact tl.2
/-- The end: a put much later leaves nothing. -/
structure WinE (L P : Int) (ts ss : List Int) (t : Int) : Prop where
  late : lateB L P ts ss t = true
  put : putP L P ts ss t false = ([], [])
  win : winB L P [] [] = true
  late2 : lateB L P [] [] t = true
  cnt : winR countV L P [] [] t = 0
theorem winE_of {L P : Int} {tm : List Int} {bs : List Bool} {k : Nat} {ts ss : List Int} (h : WinK L P tm bs (k + 1) ts ss) (hL : 1 ≤ L ∧ L ≤ 60) (hP : 1 ≤ P ∧ P ≤ 16) (hb : ∀ z ∈ tm, 0 ≤ z ∧ z + 5 ≤ 9 + 5 * (tm.length : Int)) (hn : tm.length ≤ 30) (hk : k < tm.length) : WinE L P ts ss (at0 tm k + L) := by
  have bd := tms_bd hb hn hk
  have ln := ones_len tm bs (k + 1)
  have hl := dgw_late h.g ⟨hL.1, by omega⟩ hP bd.1 (show at0 tm k ≤ 1000000 by omega) (by omega) (t' := at0 tm k + L) (show at0 tm k ≤ at0 tm k + L by omega) (by omega)
  refine ⟨hl, dgw_end h.g h.v, winB_nil ⟨hL.1, by omega⟩ hP, ?_, count_nil⟩
  unfold lateB lastOk
  rw [winB_nil ⟨hL.1, by omega⟩ hP, (inR_eq _ _ _).2 ⟨by omega, by omega⟩]
  rfl

end Go.Proofs.Ytncbkbfkdgggkaa

namespace Go.Proofs.Ytncbkbfkdgggkaa
open Go.RowKit
attribute [local go_sem ↓] Go.wp_at_zero Go.wp_at_succ

set_option maxRecDepth 8000 in
set_option maxHeartbeats 4000000 in
theorem implPut_no {ta sa : Option Addr} {tc sc : Nat} {ts ss : List Int} {L P t : Int} {bit : Bool} {w : World} (ht : Rd (Value.int .i64) w ta tc ts) (hs : Rd (Value.int .i64) w sa sc ss) (h : lateB L P ts ss t = false) :
    Calls Try.prog 8 #[winV L P ta ts.length tc sa ss.length sc, .int .i64 t, .bool bit] w (RetWinX w 0 0 [] [] false) := by
  have b1 : Below w.heap.size w ((w.alloc (.cells #[.int .i64 L, .int .i64 P, .slice ta ts.length tc, .slice sa ss.length sc] 28)).alloc (.cells #[.int .i64 0, .int .i64 0, .slice none 0 0, .slice none 0 0] 28)) := ((Below.refl _ _).alloc (Nat.le_refl _) _).alloc (by simp) _
  have R : Hid (Blk ((w.alloc (.cells #[.int .i64 L, .int .i64 P, .slice ta ts.length tc, .slice sa ss.length sc] 28)).alloc (.cells #[.int .i64 0, .int .i64 0, .slice none 0 0, .slice none 0 0] 28)) (w.heap.size + 1) #[.int .i64 0, .int .i64 0, .slice none 0 0, .slice none 0 0] 28) := Lib.hid (Blk.new' (by simp))
  have HB := Lib.hid b1
  have HT := Lib.hid (ht.below b1 (Nat.le_refl _))
  have HS := Lib.hid (hs.below b1 (Nat.le_refl _))
  clear b1 ht hs
  go_enter Try.func8, Try.ntmps8
  go_wp2_with fail
  generalize (w.alloc (.cells #[.int .i64 L, .int .i64 P, .slice ta ts.length tc, .slice sa ss.length sc] 28)).alloc (.cells #[.int .i64 0, .int .i64 0, .slice none 0 0, .slice none 0 0] 28) = wb at R HB HT HS ⊢
  refine (kept_no HT.out HS.out h).mono ?_
  rintro e w1 ⟨rfl, hb⟩
  have R2 := (R.out.below hb (Nat.le_refl _)).alloc (.cells #[.int .i64 0, .int .i64 0, .slice none 0 0, .slice none 0 0] 28)
  have B2 := Lib.hid ((HB.out.trans (hb.mono HB.out.size)).alloc (Nat.le_trans HB.out.size hb.size) (.cells #[.int .i64 0, .int .i64 0, .slice none 0 0, .slice none 0 0] 28))
  have r0 := R2.cell (i := 0) (v := .int .i64 0) rfl
  have r1 := R2.cell (i := 1) (v := .int .i64 0) rfl
  have r2 := R2.cell (i := 2) (v := .slice none 0 0) rfl
  have r3 := R2.cell (i := 3) (v := .slice none 0 0) rfl
  have f0 := R2.free 0
  have f1 := R2.free 1
  have f2 := R2.free 2
  have f3 := R2.free 3
  clear R2 hb h
  go_upto_region 3 with (fail)
  generalize w1.alloc (.cells #[.int .i64 0, .int .i64 0, .slice none 0 0, .slice none 0 0] 28) = wx at r0 r1 r2 r3 f0 f1 f2 f3 B2 ⊢
  go_wp2
  refine bodyPost_ret (v := .tuple #[winV 0 0 none 0 0 none 0 0, .bool false]) (by simp [results, Try.results8, go_sem, r0, r1, r2, r3]) rfl (retWinX_no ((((B2.out.setCell (by simp) _).setCell (by simp) _).setCell (by simp) _).setCell (by simp) _))

/-- Inside one size: nothing has been merged yet, or all of it. -/
def InR (P : Int) (j : Nat) (S : Int) (Q : Pr) (fl : Nat) (q : Pr) : Prop :=
  (fl = 2 ∧ PInv P j q ∧ implK P (21 - j) S q = Q) ∨ (fl = 1 ∧ (q.2.count S : Int) ≤ P + 1 ∧ PInv P (j + 1) q ∧ implK P (21 - (j + 1)) (2 * S) q = Q)

set_option maxRecDepth 100000 in
set_option maxHeartbeats 8000000 in
theorem implPut_yes {ta sa : Option Addr} {tc sc : Nat} {ts ss : List Int} {L P t : Int} {bit : Bool} {w : World} (ht : Rd (Value.int .i64) w ta tc ts) (hs : Rd (Value.int .i64) w sa sc ss) (h : lateB L P ts ss t = true) (Q : Pr) (hQ : Hid (putP L P ts ss t bit = Q)) (ok : Bool) (hok : Hid (winB L P Q.1 Q.2 = ok)) :
    Calls Try.prog 8 #[winV L P ta ts.length tc sa ss.length sc, .int .i64 t, .bool bit] w (RetPut w L P Q ok) := by
  obtain ⟨hwin, t0, t1⟩ := late_parts h
  obtain ⟨l0, l1, p0, p1, hl, h4, _, _⟩ := winB_parts hwin
  have hQ2 : implK P 21 1 (put0 (ts.drop (keptI ts (t - L))) (ss.drop (keptI ts (t - L))) t bit) = Q := by rw [← putR_impl hwin]; exact hQ.out
  have hinv := put0_inv hwin (keptI ts (t - L)) t bit
  have hT128 : (ts.drop (keptI ts (t - L))).length ≤ 128 := by simp; omega
  have hS128 : (ss.drop (keptI ts (t - L))).length ≤ 128 := by simp; omega
  have b1 : Below w.heap.size w ((w.alloc (.cells #[.int .i64 L, .int .i64 P, .slice ta ts.length tc, .slice sa ss.length sc] 28)).alloc (.cells #[.int .i64 0, .int .i64 0, .slice none 0 0, .slice none 0 0] 28)) := ((Below.refl _ _).alloc (Nat.le_refl _) _).alloc (by simp) _
  have R : Hid (Blk ((w.alloc (.cells #[.int .i64 L, .int .i64 P, .slice ta ts.length tc, .slice sa ss.length sc] 28)).alloc (.cells #[.int .i64 0, .int .i64 0, .slice none 0 0, .slice none 0 0] 28)) (w.heap.size + 1) #[.int .i64 0, .int .i64 0, .slice none 0 0, .slice none 0 0] 28) := Lib.hid (Blk.new' (by simp))
  have lz : w.heap.size + 1 < ((w.alloc (.cells #[.int .i64 L, .int .i64 P, .slice ta ts.length tc, .slice sa ss.length sc] 28)).alloc (.cells #[.int .i64 0, .int .i64 0, .slice none 0 0, .slice none 0 0] 28)).heap.size := by simp
  have BW := Lib.hid b1
  have HK := Lib.hid (kept_yes2 (ht.below b1 (Nat.le_refl _)) (hs.below b1 (Nat.le_refl _)) h)
  generalize ts.drop (keptI ts (t - L)) = KT at hQ2 hinv hT128 HK
  generalize ss.drop (keptI ts (t - L)) = KS at hQ2 hinv hS128 HK
  have HQ2 := Lib.hid hQ2
  have HINV := Lib.hid hinv
  clear hQ2 hinv b1 ht hs h hwin h4 hQ
  go_enter Try.func8, Try.ntmps8
  go_wp2_with fail
  generalize (w.alloc (.cells #[.int .i64 L, .int .i64 P, .slice ta ts.length tc, .slice sa ss.length sc] 28)).alloc (.cells #[.int .i64 0, .int .i64 0, .slice none 0 0, .slice none 0 0] 28) = wb at R lz BW HK ⊢
  refine HK.out.mono ?_
  rintro e w1 ⟨aT, cT, aS, cS, rfl, oT, oS, hsep, hb1⟩
  have HP0 := Lib.hid (PW.init (L := L) (P := P) oT oS hsep hb1)
  have lg : wb.heap.size ≤ w1.heap.size := hb1.size
  clear oT oS hsep hb1 HK
  go_upto_if 24 with (fail)
  generalize w1.alloc (.cells #[.int .i64 L, .int .i64 P, .slice aT KT.length cT, .slice aS KS.length cS] 28) = wx at HP0 ⊢
  go_cut [] (fun wz => PW1 wb wz w1.heap.size L P (put0 KT KS t bit))
  case first =>
    cases bit with
    | false =>
      have hq0 : PW1 wb wx w1.heap.size L P (put0 KT KS t false) := ⟨aT, cT, aS, cS, HP0.out⟩
      have HQ0 := Lib.hid hq0
      clear hq0
      go_wp2
      go_meet
      exact HQ0.out
    | true =>
      have c2 := HP0.out.blk.cell (i := 2) (v := .slice aT KT.length cT) rfl
      have hzx := HP0.out.B.size
      have E1 : Hid ((KT ++ [t]).length = KT.length + 1) := Lib.hid (by simp)
      have E2 : Hid ((KS ++ [(1 : Int)]).length = KS.length + 1) := Lib.hid (by simp)
      go_upto_region 6 with (at_builtin; refine wpl_append1w (f := Value.int .i64) (d := 0) (base := wb.heap.size) und_ise info_i (fun _ => rfl) t HP0.out.oT rfl _ _ rfl rfl rfl (by omega) (by omega) hzx ?_; intro a3 c3 w3 ho3 hg3 hl3; have tn := HP0.out.turnT hg3 ho3 hl3; rw [E1.out] at tn; have x2 := tn.1.cell (i := 2) (v := .slice aT KT.length cT) rfl; have y2 := tn.1.free 2; have HP1 := Lib.hid tn.2; clear tn ho3 hg3 hl3)
      generalize w3.setCell ⟨w1.heap.size, 2, none⟩ (.slice a3 (KT.length + 1) c3) = wy at HP1 ⊢
      clear x2 y2 HP0 c2 hzx
      have c3' := HP1.out.blk.cell (i := 3) (v := .slice aS KS.length cS) rfl
      have hzy := HP1.out.B.size
      go_wp2_with (at_builtin; refine wpl_append1w (f := Value.int .i64) (d := 0) (base := wb.heap.size) und_ise info_i (fun _ => rfl) (1 : Int) HP1.out.oS rfl _ _ rfl rfl rfl (by omega) (by omega) hzy ?_; intro a4 c4 w4 ho4 hg4 hl4; have tn := HP1.out.turnS hg4 ho4 hl4; rw [E2.out] at tn; have x3 := tn.1.cell (i := 3) (v := .slice aS KS.length cS) rfl; have y3 := tn.1.free 3; have HP2 := Lib.hid tn.2; clear tn ho4 hg4 hl4)
      go_meet
      exact ⟨a3, c3, a4, c4, HP2.out⟩
  case rest =>
    have hq129 : (put0 KT KS t bit).1.length ≤ 129 ∧ (put0 KT KS t bit).2.length ≤ 129 := by
      cases bit <;> simp [put0] <;> omega
    generalize put0 KT KS t bit = q0 at HQ2 HINV hcut hq129
    have HQ0 := Lib.hid (And.intro hcut hq129)
    clear hcut hq129 HP0
    go_wp2_with fail
    go_loopg [10, 11, 12, 14] 22 (fun gk s _ _ _ wr => ∃ (j : Nat) (S : Int) (q : Pr), gk = 22 - j ∧ j ≤ 21 ∧ s = .int .i64 S ∧ 1 ≤ S ∧ S ≤ 2097152 ∧ Hid (S = 2 ^ j ∧ PInv P j q ∧ implK P (21 - j) S q = Q) ∧ q.1.length ≤ 129 ∧ q.2.length ≤ 129 ∧ PW1 wb wr w1.heap.size L P q)
    case atStart => exact ⟨0, 1, q0, rfl, by omega, rfl, by omega, by omega, Lib.hid ⟨rfl, HINV.out, HQ2.out⟩, HQ0.out.2.1, HQ0.out.2.2, HQ0.out.1⟩
    case round =>
      obtain ⟨j, S, q, rfl, hj, rfl, hS1, hS2, HQJ, hq1, hq2, hpw⟩ := hrel
      by_cases hj20 : j ≤ 20
      · have hS20 : S ≤ 1048576 := by
          rw [HQJ.out.1]
          have h1 : (2 : Nat) ^ j ≤ 2 ^ 20 := Nat.pow_le_pow_right (by omega) hj20
          have h3 : ((2 : Int) ^ j) = (((2 : Nat) ^ j : Nat) : Int) := by simp
          rw [h3]; omega
        have HPQ := Lib.hid hpw
        have e2 : 2 * S = 2 ^ (j + 1) := by rw [HQJ.out.1, Int.pow_succ]; omega
        have E2J := Lib.hid e2
        have HEJ := Lib.hid HQJ.out.1
        clear hpw e2
        obtain ⟨wo, rfl⟩ : ∃ wx : World, wx = wr := ⟨_, rfl⟩
        go_wp2_with fail
        go_loopg [11, 12, 14] 2 (fun fl _ _ _ wr => ∃ (q' : Pr), q'.1.length ≤ 129 ∧ q'.2.length ≤ 129 ∧ PW1 wb wr w1.heap.size L P q' ∧ InR P j S Q fl q')
        case atStart => exact ⟨q, hq1, hq2, HPQ.out, .inl ⟨rfl, HQJ.out.2.1, HQJ.out.2.2⟩⟩
        case round =>
          obtain ⟨q', hp1, hp2, hpw, hin⟩ := hrel
          obtain ⟨OT, OS⟩ := q'
          obtain ⟨pT, cT, pS, cS, hpw⟩ := hpw
          simp only at hp1 hp2 hpw
          have HPW := Lib.hid hpw
          have HIN := Lib.hid hin
          have c3 := hpw.blk.cell (i := 3) (v := .slice pS OS.length cS) rfl
          have c1 := hpw.blk.cell (i := 1) (v := .int .i64 P) rfl
          obtain ⟨z, hz⟩ : ∃ z, idxOf (fun x => x == S) OS = z := ⟨_, rfl⟩
          have hcon := index_any (s := S) hpw.oS.rd
          rw [hz] at hcon
          have HCON := Lib.hid hcon
          have HZ := Lib.hid hz
          clear hpw hin hz hcon
          go_wp2_with (go_at_call 22; refine HCON.out.mono ?_; rintro e w' ⟨rfl, rfl⟩)
          clear HCON
          go_loop [12, 14, 47] (fun n _ i => ∃ (k m : Nat), k ≤ OS.length ∧ i = .int .i64 k ∧ n = .int .i64 m ∧ m ≤ k ∧ Hid (m = (OS.take k).count S)) (fun _ _ i => OS.length - (intOf i).toNat)
          case atStart => exact ⟨0, 0, Nat.zero_le _, rfl, rfl, by omega, by show _ = _; rfl⟩
          case round =>
            obtain ⟨k, m, hk, rfl, rfl, hmk, HM⟩ := hrel
            by_cases hlt : k < OS.length
            · have hix := HPW.out.oS.idx und_is siz_is
              have hcx := HPW.out.oS.rd.cell k hlt
              simp only [List.getElem?_eq_getElem hlt, Option.getD_some] at hcx
              have hc1 := count_snoc' (s := S) hlt
              rw [← HM.out] at hc1
              obtain ⟨x, hx⟩ : ∃ x, OS[k] = x := ⟨_, rfl⟩
              rw [hx] at hcx hc1
              by_cases hxs : x = S
              · subst hxs
                have hd : (x == x) = true := by simp
                rw [if_pos rfl] at hc1
                have HC1 := Lib.hid hc1
                clear hc1 hx
                go_wp2
                go_round
                case rel => exact ⟨k + 1, m + 1, by omega, by go_num, by go_num, by omega, by show _ = _; rw [HC1.out]⟩
                case measure => simp [intOf]; omega
              · have hd : (x == S) = false := by simpa using hxs
                rw [if_neg hxs] at hc1
                have HC1 := Lib.hid hc1
                clear hc1 hx hxs
                go_wp2
                go_round
                case rel => exact ⟨k + 1, m, by omega, by go_num, rfl, by omega, by show _ = _; rw [HC1.out]; rfl⟩
                case measure => simp [intOf]; omega
            · obtain rfl : k = OS.length := by omega
              have hm : OS.count S = m := by have := HM.out; rw [List.take_length] at this; exact this.symm
              by_cases hc : (m : Int) ≤ P + 1
              · have hnx : PInv P (j + 1) (OT, OS) ∧ implK P (21 - (j + 1)) (2 * S) (OT, OS) = Q := by
                  rcases HIN.out with ⟨_, h1, h2⟩ | ⟨_, _, h1, h2⟩
                  · have hs := pinv_skip p0 hj20 h1 (by rw [← HEJ.out]; rw [hm]; exact hc)
                    refine ⟨hs.1, ?_⟩
                    have e : 21 - j = (21 - (j + 1)) + 1 := by omega
                    rw [e] at h2
                    unfold implK stepP at h2
                    rw [if_pos (hs.2 S)] at h2
                    exact h2
                  · exact ⟨h1, h2⟩
                have HNX := Lib.hid hnx
                have HPW1 : Hid (PW1 wb wr w1.heap.size L P (OT, OS)) := Lib.hid ⟨pT, cT, pS, cS, HPW.out⟩
                clear hnx hm
                go_wp2
                go_roundg (22 - (j + 1))
                case rel => exact ⟨j + 1, 2 * S, (OT, OS), rfl, by omega, congrArg (Value.int .i64) (by omega), by omega, by omega, Lib.hid ⟨E2J.out, HNX.out.1, HNX.out.2⟩, hp1, hp2, HPW1.out⟩
                case measure => omega
              · have hin2 : PInv P j (OT, OS) ∧ implK P (21 - j) S (OT, OS) = Q ∧ gk = 2 := by
                  rcases HIN.out with ⟨h0, h1, h2⟩ | ⟨_, h1, _, _⟩
                  · exact ⟨h1, h2, h0⟩
                  · simp only at h1; rw [hm] at h1; exact absurd h1 hc
                have h2 : 2 ≤ OS.count S := by rw [hm]; omega
                have hstep := pinv_step p0 hj20 hin2.1 (by rw [← HEJ.out]; simp only; rw [hm]; exact hc)
                rw [← HEJ.out] at hstep
                have hml := mg_len (q := (OT, OS)) hin2.1.len h2
                have hlen : OT.length = OS.length := hin2.1.len
                have hix1 := fstI_two h2
                have hnext : implK P (21 - (j + 1)) (2 * S) (merge S (OT, OS)) = Q := by
                  have h3 := hin2.2.1
                  have e : 21 - j = (21 - (j + 1)) + 1 := by omega
                  rw [e] at h3
                  unfold implK stepP at h3
                  rw [if_neg (by simp only; rw [hm]; exact hc)] at h3
                  exact h3
                have hgk := hin2.2.2
                have hzi : z = (fstI S OS : Int) := by rw [← HZ.out]; exact idx_fst (by omega)
                have hmg : merge S (OT, OS) = (OT.take (fstI S OS) ++ OT.drop (fstI S OS + 1), OS.take (fstI S OS) ++ 2 * S :: OS.drop (fstI S OS + 2)) := rfl
                obtain ⟨i, hi⟩ : ∃ i, fstI S OS = i := ⟨_, rfl⟩
                rw [hi] at hzi hix1 hmg
                have HREL := Lib.hid (And.intro hstep.1 (And.intro hstep.2 (And.intro hnext (And.intro hml.1 (And.intro hml.2.1 hmg)))))
                have HLEN := Lib.hid hlen
                have hi2 : i < OT.length := by omega
                clear hstep hml hnext hm hi h2 hmg hlen hin2 HZ HIN HM
                subst hzi
                subst hgk
                have hxi := rd_idxAt HPW.out.oS.rd und_is siz_is (i + 1) hix1 ((i : Int) + 1) (by omega)
                have hcell := HPW.out.oS.cell (i + 1) hix1
                have hfrz := HPW.out.oS.free (i + 1) hix1
                have HPX := Lib.hid (HPW.out.setS (i + 1) hix1 (2 * S))
                have hmul : S * 2 = 2 * S := by omega
                have HMUL := Lib.hid hmul
                clear hmul
                go_upto_region 20 with (fail)
                generalize wr.setCell (elt pS (i + 1)) (.int .i64 (2 * S)) = wx at HPX ⊢
                clear hxi hcell hfrz c3 c1
                obtain ⟨OX, hOX⟩ : ∃ OX, OS.set (i + 1) (2 * S) = OX := ⟨_, rfl⟩
                have hOXl : OX.length = OS.length := by rw [← hOX]; simp
                have hdl : OX.take i ++ OX.drop (i + 1) = OS.take i ++ 2 * S :: OS.drop (i + 2) := by rw [← hOX]; exact mgS_del hix1
                have HX0 : Hid (PW wb wx w1.heap.size L P pT cT OT pS cS OX) := Lib.hid (by rw [← hOX]; exact HPX.out)
                have HOX := Lib.hid (And.intro hOXl hdl)
                have hx2 : i < OX.length := by omega
                have hx3 : OX.length ≤ 1048576 := by omega
                have E3 : Hid ((OT.take i ++ OT.drop (i + 1)).length = OT.length - 1) := Lib.hid (by simp; omega)
                have E4 : Hid ((OX.take i ++ OX.drop (i + 1)).length = OX.length - 1) := Lib.hid (by simp; omega)
                have hlOX : OX.length = OS.length := hOXl
                clear HPX hOX hOXl hdl HPW
                have HLX := Lib.hid hlOX
                clear hlOX
                have t3 := HX0.out.blk.cell (i := 3) (v := .slice pS OX.length cS) rfl
                have t3' : wx.cell? ⟨w1.heap.size, 3, none⟩ = some (.slice pS OS.length cS) := by rw [← HLX.out]; exact t3
                go_upto_region 21 with (go_at_call 23; rw [← HLX.out]; refine (delete_any HX0.out.oS hx2 hx3).mono ?_; rintro e w5 ⟨rfl, ho5, hg5⟩; have tn := HX0.out.turnS hg5 ho5 (fun p hp => .inl ⟨p, hp, rfl⟩); rw [E4.out] at tn; have x5 := tn.1.cell (i := 3) (v := .slice pS OX.length cS) rfl; have y5 := tn.1.free 3; have HP5 := Lib.hid tn.2; clear tn ho5 hg5)
                generalize w5.setCell ⟨w1.heap.size, 3, none⟩ (.slice pS (OX.length - 1) cS) = wy at HP5 ⊢
                clear x5 y5 t3 t3'
                have t2 := HP5.out.blk.cell (i := 2) (v := .slice pT OT.length cT) rfl
                have hot3 : OT.length ≤ 1048576 := by omega
                go_wp2_with (go_at_call 23; refine (delete_any HP5.out.oT hi2 hot3).mono ?_; rintro e w6 ⟨rfl, ho6, hg6⟩; have tn := HP5.out.turnT hg6 ho6 (fun p hp => .inl ⟨p, hp, rfl⟩); rw [E3.out] at tn; have x6 := tn.1.cell (i := 2) (v := .slice pT OT.length cT) rfl; have y6 := tn.1.free 2; have HP6 := Lib.hid tn.2; clear tn ho6 hg6)
                generalize w6.setCell ⟨w1.heap.size, 2, none⟩ (.slice pT (OT.length - 1) cT) = wu at HP6 ⊢
                clear x6 y6 t2
                have hpw1 : PW1 wb wu w1.heap.size L P (merge S (OT, OS)) := by
                  rw [HREL.out.2.2.2.2.2]
                  have := HP6.out
                  rw [HOX.out.2] at this
                  exact ⟨_, _, _, _, this⟩
                have HPW1 := Lib.hid hpw1
                clear hpw1
                go_roundg 1
                case rel =>
                  have h1 : (merge S (OT, OS)).1.length + 1 = OT.length := HREL.out.2.2.2.1
                  have h2 : (merge S (OT, OS)).2.length + 1 = OS.length := HREL.out.2.2.2.2.1
                  exact ⟨merge S (OT, OS), by omega, by omega, HPW1.out, .inr ⟨rfl, HREL.out.2.1, HREL.out.1, HREL.out.2.2.1⟩⟩
                case measure => omega
      · have hj21 : j = 21 := by omega
        have hSS : S = 2097152 := by rw [HQJ.out.1, hj21]; rfl
        have hQq : q = Q := by have := HQJ.out.2.2; rw [hj21] at this; exact this
        subst hQq
        obtain ⟨OT, OS⟩ := q
        obtain ⟨pT, cT, pS, cS, hpw⟩ := hpw
        simp only at hq1 hq2 hpw hok
        have HPW := Lib.hid hpw
        have c0 := hpw.blk.cell (i := 0) (v := .int .i64 L) rfl
        have c1 := hpw.blk.cell (i := 1) (v := .int .i64 P) rfl
        have c2 := hpw.blk.cell (i := 2) (v := .slice pT OT.length cT) rfl
        have c3 := hpw.blk.cell (i := 3) (v := .slice pS OS.length cS) rfl
        have hcon := validWindow_any (L := L) (P := P) hpw.oT.rd hpw.oS.rd
        rw [hok.out] at hcon
        have HCON := Lib.hid hcon
        have hlt : (1048576 : Int) < S := by omega
        have HSS := Lib.hid hSS
        clear hcon hpw hSS hj21 HQJ
        go_wp2_with (go_at_call 9; refine HCON.out.mono ?_; rintro e w7 ⟨rfl, hb7⟩; have HP7 := HPW.out.below hb7; have RR := R.out.below HP7.B (Nat.le_refl _); have d0 := HP7.blk.cell (i := 0) (v := .int .i64 L) rfl; have d1 := HP7.blk.cell (i := 1) (v := .int .i64 P) rfl; have d2 := HP7.blk.cell (i := 2) (v := .slice pT OT.length cT) rfl; have d3 := HP7.blk.cell (i := 3) (v := .slice pS OS.length cS) rfl; have r0 := RR.cell (i := 0) (v := .int .i64 0) rfl; have r1 := RR.cell (i := 1) (v := .int .i64 0) rfl; have r2 := RR.cell (i := 2) (v := .slice none 0 0) rfl; have r3 := RR.cell (i := 3) (v := .slice none 0 0) rfl; have f0 := RR.free 0; have f1 := RR.free 1; have f2 := RR.free 2; have f3 := RR.free 3; have HP8 := Lib.hid HP7; clear RR HP7 hb7 c0 c1 c2 c3; cases ok)
        · have BB := Lib.hid (BW.out.trans (HP8.out.B.mono BW.out.size))
          refine bodyPost_ret (v := .tuple #[winV 0 0 none 0 0 none 0 0, .bool false]) (by simp [results, Try.results8, go_sem, r0, r1, r2, r3]) rfl (retPut_no (retWinX_no ((((BB.out.setCell (by simp) _).setCell (by simp) _).setCell (by simp) _).setCell (by simp) _)))
        · have BB := Lib.hid (BW.out.trans (HP8.out.B.mono BW.out.size))
          refine bodyPost_ret (v := .tuple #[winV L P pT OT.length cT pS OS.length cS, .bool true]) (by simp [results, Try.results8, go_sem, r0, r1, r2, r3]) rfl (retPut_yes ⟨pT, cT, pS, cS, rfl, ?_, ?_, HP8.out.nTS, (((BB.out.setCell (by simp) _).setCell (by simp) _).setCell (by simp) _).setCell (by simp) _⟩)
          · exact ((((HP8.out.oT.setFar _ _ (by simp; omega)).setFar _ _ (by simp; omega)).setFar _ _ (by simp; omega)).setFar _ _ (by simp; omega)).mono (by omega)
          · exact ((((HP8.out.oS.setFar _ _ (by simp; omega)).setFar _ _ (by simp; omega)).setFar _ _ (by simp; omega)).setFar _ _ (by simp; omega)).mono (by omega)

end Go.Proofs.Ytncbkbfkdgggkaa
