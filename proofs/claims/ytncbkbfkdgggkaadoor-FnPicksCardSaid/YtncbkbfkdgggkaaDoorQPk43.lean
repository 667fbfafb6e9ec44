/- FnPicks: distinct samples of parts, joined (plain). -/
import Derived.Test.YtncbkbfkdgggkaaDoorQPk39
import Derived.Test.YtncbkbfkdgggkaaDoorQPk11
set_option linter.unusedVariables false
set_option linter.unusedSimpArgs false
namespace Go.Proofs.YtncbkbfkdgggkaaDoor
open Go.RowKit

theorem lvl_ex {p : Nat → Bool} {fr : Nat} : ∀ n, fr + n ≤ 32 → p (fr + n) = true → ∃ k, lvl p fr = some k ∧ fr ≤ k ∧ k ≤ fr + n ∧ p k = true ∧ ∀ j, fr ≤ j → j < k → p j = false := by
  intro n hn hp
  have h : ∀ m, (∃ k, fr ≤ k ∧ k ≤ fr + m ∧ p k = true ∧ ∀ j, fr ≤ j → j < k → p j = false) ∨ ∀ j, fr ≤ j → j ≤ fr + m → p j = false := by
    intro m
    induction m with
    | zero =>
      cases h0 : p fr with
      | true => exact .inl ⟨fr, Nat.le_refl _, by omega, h0, fun j h1 h2 => by omega⟩
      | false =>
        refine .inr fun j h1 h2 => ?_
        obtain rfl : j = fr := by omega
        exact h0
    | succ m ih =>
      rcases ih with ⟨k, h1, h2, h3, h4⟩ | h1
      · exact .inl ⟨k, h1, by omega, h3, h4⟩
      · cases h0 : p (fr + (m + 1)) with
        | true => exact .inl ⟨fr + (m + 1), by omega, by omega, h0, fun j g1 g2 => h1 j g1 (by omega)⟩
        | false =>
          refine .inr fun j g1 g2 => ?_
          by_cases e : j = fr + (m + 1)
          · rw [e]; exact h0
          · exact h1 j g1 (by omega)
  rcases h n with ⟨k, h1, h2, h3, h4⟩ | h1
  · exact ⟨k, lvl_some h1 (by omega) h3 h4, h1, h2, h3, h4⟩
  · rw [h1 (fr + n) (by omega) (by omega)] at hp
    exact absurd hp (by simp)
theorem lowZ_32 {x : Int} (h0 : 0 < x) (h1 : x < 4294967296) : lowZ x < 32 := by
  obtain ⟨n, rfl⟩ := Int.eq_ofNat_of_zero_le (Int.le_of_lt h0)
  obtain ⟨m, hm⟩ := ctz_at (x := n) (by omega) (by omega)
  unfold lowZ
  rw [Int.toNat_natCast]
  generalize Lib.ctz 32 n = c at hm
  refine Decidable.byContradiction fun hc => ?_
  have h2 : 2 ^ 32 ≤ 2 ^ c := Nat.pow_le_pow_right (by decide) (by omega)
  have h3 : 2 ^ c ≤ 2 ^ c * (2 * m + 1) := Nat.le_mul_of_pos_right _ (by omega)
  omega
/-- Keys below 65536. -/
def Sml (xs : List Int) : Prop := ∀ z ∈ xs, 0 ≤ z ∧ z < 65536
theorem sml_keys {xs : List Int} (h : Sml xs) : keysB xs = true := List.all_eq_true.2 fun x hx => (inR_eq _ _ _).2 ⟨(h x hx).1, by have := (h x hx).2; omega⟩
theorem sml_low {xs : List Int} (h : Sml xs) {s : Int} (hs : 0 ≤ s ∧ s < 256) : ∀ x ∈ xs, 0 ≤ lowZ (hashZ x s) ∧ lowZ (hashZ x s) < 32 := fun x hx => by
  have hb := hashZ_bd x s
  have hne := hash_pos (h x hx).1 (h x hx).2 hs.1 hs.2
  exact ⟨(lowZ_bd hb.1 hb.2).1, lowZ_32 (by omega) hb.2⟩
theorem lev_mem {xs : List Int} {s : Int} {l : Nat} {z : Int} : z ∈ lev xs s l ↔ z ∈ xs ∧ (l : Int) ≤ lowZ (hashZ z s) := by
  unfold lev
  rw [uniq_mem, List.mem_filter, decide_eq_true_eq]
theorem lev_up (xs : List Int) (s : Int) (l : Nat) : Up (lev xs s l) := uniq_up _
theorem lev_32 {xs : List Int} (h : Sml xs) {s : Int} (hs : 0 ≤ s ∧ s < 256) : lev xs s 32 = [] := by
  refine List.eq_nil_iff_forall_not_mem.2 fun z hz => ?_
  obtain ⟨h1, h2⟩ := lev_mem.1 hz
  have := (sml_low h hs z h1).2
  omega
theorem few_32 {xs : List Int} (h : Sml xs) {s : Int} (hs : 0 ≤ s ∧ s < 256) {room : Int} (hr : 0 ≤ room) : few xs room s 32 = true := by
  unfold few
  rw [lev_32 h hs]
  exact decide_eq_true (by simpa using hr)
theorem up_nodup {xs : List Int} (h : Up xs) : xs.Nodup := h.imp fun hab => by omega
theorem up_sub_len {xs ys : List Int} (h : Up xs) (hs : ∀ z ∈ xs, z ∈ ys) : xs.length ≤ ys.length := (up_nodup h).length_le_of_subset hs
theorem few_sub {xs ys : List Int} {room s : Int} {l : Nat} (hs : ∀ z ∈ xs, z ∈ ys) (h : few xs room s l = false) : few ys room s l = false := by
  unfold few at h ⊢
  have h1 := of_decide_eq_false h
  have h2 := up_sub_len (lev_up xs s l) (ys := lev ys s l) (fun z hz => lev_mem.2 ⟨hs z (lev_mem.1 hz).1, (lev_mem.1 hz).2⟩)
  exact decide_eq_false (by omega)
/-- A distinct sample of small keys. -/
structure DsOk (xs : List Int) (room s : Int) (l : Nat) : Prop where
  o : dstO xs room s 0 = some l
  le : l ≤ 32
  few : few xs room s l = true
  min : ∀ j, j < l → Go.Proofs.YtncbkbfkdgggkaaDoor.few xs room s j = false
theorem ds_ok {xs : List Int} (h : Sml xs) {room s : Int} (hs : 0 ≤ s ∧ s < 256) (hr : 0 ≤ room) : ∃ l, DsOk xs room s l := by
  obtain ⟨k, h1, h2, h3, h4, h5⟩ := lvl_ex (p := few xs room s) (fr := 0) 32 (by omega) (by simpa using few_32 h hs hr)
  exact ⟨k, h1, by omega, h4, fun j hj => h5 j (by omega) hj⟩
theorem inc_up {xs : List Int} (h : Up xs) : incB xs = true := incB_yes fun j hj h0 => by
  have e : ∀ i (hi : i < xs.length), at0 xs i = xs[i] := fun i hi => by unfold at0; rw [List.getElem?_eq_getElem hi]; rfl
  rw [e _ (by omega), e _ hj]
  exact (List.pairwise_iff_getElem.1 h) (j - 1) j (by omega) hj (by omega)
/-- The samples of two parts, joined, are that of all. -/
structure JnOk (xs ys : List Int) (room s : Int) (lA lB l : Nat) : Prop where
  b : jdB (lA : Int) (lev xs s lA) (lB : Int) (lev ys s lB) room s = true
  v : jdV (lA : Int) (lev xs s lA) (lB : Int) (lev ys s lB) room s = (l : Int)
  l : jdL (lA : Int) (lev xs s lA) (lB : Int) (lev ys s lB) room s = lev (xs ++ ys) s l
  k : jdK (lA : Int) (lev xs s lA) (lB : Int) (lev ys s lB) room s = true
theorem few_len {xs : List Int} {room s : Int} {l : Nat} (h : few xs room s l = true) : ((lev xs s l).length : Int) ≤ room := of_decide_eq_true h
theorem lev_sml {xs : List Int} (h : Sml xs) (s : Int) (l : Nat) : Sml (lev xs s l) := fun z hz => h z (lev_mem.1 hz).1
theorem jn_ok {xs ys : List Int} (hx : Sml xs) (hy : Sml ys) {room s : Int} (hs : 0 ≤ s ∧ s < 256) (hr : 1 ≤ room ∧ room ≤ 128) {lA lB l : Nat} (A : DsOk xs room s lA) (B : DsOk ys room s lB) (L : DsOk (xs ++ ys) room s l) : JnOk xs ys room s lA lB l := by
  have hb : jdB (lA : Int) (lev xs s lA) (lB : Int) (lev ys s lB) room s = true := by
    unfold jdB rsB
    rw [(inR_eq _ _ _).2 ⟨by omega, by have := A.le; omega⟩, (inR_eq _ _ _).2 ⟨by omega, by have := B.le; omega⟩, (inR_eq _ _ _).2 hr,
      decide_eq_true (few_len A.few), decide_eq_true (few_len B.few), sml_keys (lev_sml hx s lA), sml_keys (lev_sml hy s lB), inc_up (lev_up xs s lA), inc_up (lev_up ys s lB),
      show isKey s = true from (inR_eq _ _ _).2 ⟨hs.1, by omega⟩]
    rfl
  have hA : lA ≤ l := by
    refine Decidable.byContradiction fun hn => ?_
    have h1 := few_sub (ys := xs ++ ys) (fun z hz => List.mem_append_left _ hz) (A.min l (by omega))
    rw [L.few] at h1
    exact absurd h1 (by simp)
  have hB : lB ≤ l := by
    refine Decidable.byContradiction fun hn => ?_
    have h1 := few_sub (ys := xs ++ ys) (fun z hz => List.mem_append_right _ hz) (B.min l (by omega))
    rw [L.few] at h1
    exact absurd h1 (by simp)
  have hf : jdF (lA : Int) (lB : Int) = max lA lB := by
    unfold jdF
    split <;> omega
  have hlev : ∀ j, max lA lB ≤ j → lev (lev xs s lA ++ lev ys s lB) s j = lev (xs ++ ys) s j := fun j hj => by
    refine up_ext _ _ (lev_up _ _ _) (lev_up _ _ _) fun z => ?_
    rw [lev_mem, lev_mem, List.mem_append, List.mem_append, lev_mem, lev_mem]
    constructor
    · rintro ⟨⟨h1, _⟩ | ⟨h1, _⟩, h2⟩
      · exact ⟨.inl h1, h2⟩
      · exact ⟨.inr h1, h2⟩
    · rintro ⟨h1 | h1, h2⟩
      · exact ⟨.inl ⟨h1, by omega⟩, h2⟩
      · exact ⟨.inr ⟨h1, by omega⟩, h2⟩
  have hfew : ∀ j, max lA lB ≤ j → few (lev xs s lA ++ lev ys s lB) room s j = few (xs ++ ys) room s j := fun j hj => by unfold few; rw [hlev j hj]
  have ho : dstO (lev xs s lA ++ lev ys s lB) room s (max lA lB) = some l := by
    unfold dstO
    refine lvl_some (by omega) (by have := L.le; omega) ?_ fun j h1 h2 => ?_
    · rw [hfew l (by omega)]; exact L.few
    · rw [hfew j h1]; exact L.min j h2
  refine ⟨hb, ?_, ?_, ?_⟩
  · unfold jdV dstV
    rw [if_pos hb, hf, ho]
  · unfold jdL dstL
    rw [if_pos hb, hf, ho]
    exact hlev l (by omega)
  · unfold jdK dstK
    rw [if_pos hb, hf, ho]
theorem lev_0 {xs : List Int} (h : Sml xs) {s : Int} (hs : 0 ≤ s ∧ s < 256) : lev xs s 0 = uniq xs := by
  refine up_ext _ _ (lev_up _ _ _) (uniq_up _) fun z => ?_
  rw [lev_mem, uniq_mem]
  exact ⟨fun h1 => h1.1, fun h1 => ⟨h1, (sml_low h hs z h1).1⟩⟩

end Go.Proofs.YtncbkbfkdgggkaaDoor
