/- slices.SortStableFunc at []int64: the steps of the walk in memory: what is asked of the comparing closure, two elements exchanged. Tags: a list's numbers with their places, so that equal ones are told apart. slices.SortStableFunc at []int64: two ranges exchanged, a part turned. slices.SortStableFunc at []int64: a part turned. -/
import Derived.Test.YtncbkbfkdgggkaaDoorQPk6
import Derived.Test.YtncbkbfkdgggkaaDoorQPk2
import Derived.Test.YtncbkbfkdgggkaaDoorQPk4
import Derived.IntWalk
import Derived.Deep.LoopGhost
import Derived.Shelf.Abstract
set_option linter.unusedVariables false
set_option linter.unusedSimpArgs false
namespace Go.Proofs.YtncbkbfkdgggkaaDoor
open Go.RowKit

/-- A tag in memory: its number. -/
def vI (val : Int → Int) (t : Int) : Value := .int .i64 (val t)

/-- What is asked of the closure: called with the numbers of two tags of T, it tells them apart by their keys; it reads and may draw. -/
structure CmpOk (P : Program) (F : Nat) (caps : Array Value) (w : World) (row : Option Nat) (val K : Int → Int) (cf : Int → Int → Int) (T : Int → Prop) : Prop where
  enters : ∀ (vs : Array Value) (w : World), (callFunc F vs).run P w = .ok (.enter F vs) w
  neg : ∀ s t, T s → T t → decide (cf s t < 0) = decide (K s < K t)
  call : ∀ w', w.grownBy w' row → ∀ s t, T s → T t → Calls P F (#[.int .i64 (val s), .int .i64 (val t)] ++ caps) w' fun e w'' => e = .returned (.int .i64 (cf s t)) ∧ ∃ q, w'' = w'.drewN q

theorem CmpOk.grown {P : Program} {F : Nat} {caps : Array Value} {w w1 : World} {row : Option Nat} {val K : Int → Int} {cf : Int → Int → Int} {T : Int → Prop} (h : CmpOk P F caps w row val K cf T) (hg : w.grownBy w1 row) : CmpOk P F caps w1 row val K cf T :=
  ⟨h.enters, h.neg, fun w' hg' => h.call w' (grown_trans hg hg')⟩

/-- All tags are of T. -/
def All (T : Int → Prop) (ts : List Int) : Prop := ∀ t ∈ ts, T t
theorem All.at {T : Int → Prop} {ts : List Int} (h : All T ts) {k : Nat} (hk : k < ts.length) : T (at0 ts k) := h _ (by unfold at0; rw [List.getElem?_eq_getElem hk]; exact List.getElem_mem hk)
theorem All.perm {T : Int → Prop} {ts us : List Int} (h : All T ts) (hp : us.Perm ts) : All T us := fun t ht => h t (hp.subset ht)

theorem grown_refl (w : World) (row : Option Nat) : w.grownBy w row := ⟨rfl, rfl, rfl, Nat.le_refl _, fun _ _ _ => rfl⟩
theorem grown_drewN (w : World) (n : Nat) (row : Option Nat) : w.grownBy (w.drewN n) row := ⟨rfl, rfl, rfl, Nat.le_refl _, fun _ _ _ => rfl⟩

section
variable {val : Int → Int} {e : TypeId} {w : World} {base : Nat} {a : Option Addr} {c : Nat} {ys : List Int}

theorem ownI_cell (ho : Own (vI val) e w base a c ys) {p : Nat} (hp : p < ys.length) {x : Int} (hx : at0 ys p = x) : w.cell? (elt a p) = some (.int .i64 (val x)) := by
  rw [ho.cell p hp, ← hx]; simp [vI, at0, hp]
theorem ownI_idx (ho : Own (vI val) e w base a c ys) {P : Program} {T : TypeId} (hT : P.underlying T = some (.slice (P.elem T))) (hs : ∀ w, (sizeOf (P.elem T)).run P w = .ok 1 w)
    (k : Nat) (hk : k < ys.length) (i : Int) (hi : i = k) : ∀ w' : World, (Instr.indexAt T (.slice a ys.length c) (.int .i64 i)).run P w' = .ok (.pointer (some (elt a k))) w' := by
  subst hi
  exact fun w' => ho.idx hT hs w' k hk

/-- Two elements change places, behind a draw. -/
structure Swp2 (val : Int → Int) (e : TypeId) (w : World) (base : Nat) (a : Option Addr) (c : Nat) (ys zs : List Int) (p q : Nat) (x y : Int) : Prop where
  fp : w.frozen? (elt a p) = false
  c2 : ∃ v, (w.setCell (elt a p) (.int .i64 (val y))).cell? (elt a q) = some v
  fq : w.frozen? (elt a q) = false
  own : Own (vI val) e ((w.setCell (elt a p) (.int .i64 (val y))).setCell (elt a q) (.int .i64 (val x))).drew base a c zs
  grown : w.grownBy ((w.setCell (elt a p) (.int .i64 (val y))).setCell (elt a q) (.int .i64 (val x))).drew (a.map (·.block))

theorem swp2_of (ho : Own (vI val) e w base a c ys) {p q : Nat} (hp : p < ys.length) (hq : q < ys.length) {x y : Int} {zs : List Int} (hz : (ys.set p y).set q x = zs) : Swp2 val e w base a c ys zs p q x y := by
  have h1 := ho.set p hp y
  have h2 := h1.1.set q (by simpa using hq) x
  subst hz
  exact ⟨ho.free p hp, ⟨_, h1.1.cell q (by simpa using hq)⟩, ho.free q hq, h2.1.drewN 1, grown_trans (grown_trans h1.2 h2.2) (grown_drewN _ 1 _)⟩

end

theorem swp_def {ys : List Int} {k : Nat} {x y : Int} (hx : at0 ys k = x) (hy : at0 ys (k - 1) = y) : (ys.set k y).set (k - 1) x = swp ys k := by
  unfold swp; rw [hx, hy]
theorem swp_def' {ys : List Int} {k : Nat} {x y : Int} (hx : at0 ys k = x) (hy : at0 ys (k + 1) = y) : (ys.set k y).set (k + 1) x = swp ys (k + 1) := by
  unfold swp
  rw [Nat.add_sub_cancel, hx, hy, List.set_comm _ _ (by omega)]

end Go.Proofs.YtncbkbfkdgggkaaDoor

namespace Go.Proofs.YtncbkbfkdgggkaaDoor
open Go.RowKit

/-- The tags' base: more than any list has places. -/
def tagM : Int := 4194304
/-- The tag of a number (its key k) at place i. -/
def tag (k : Int) (i : Nat) : Int := k * tagM + i
theorem tag_div (k : Int) {i : Nat} (h : i ≤ 1048576) : tag k i / tagM = k := by unfold tag tagM; omega
theorem tag_mod (k : Int) {i : Nat} (h : i ≤ 1048576) : tag k i % tagM = i := by unfold tag tagM; omega
/-- The tags of a list by keys. -/
def tags (κ : Int → Int) (xs : List Int) : List Int := (List.range xs.length).map fun i => tag (κ (at0 xs i)) i
theorem tags_len (κ : Int → Int) (xs : List Int) : (tags κ xs).length = xs.length := by simp [tags]
theorem tags_at {κ : Int → Int} {xs : List Int} {i : Nat} (h : i < xs.length) : at0 (tags κ xs) i = tag (κ (at0 xs i)) i := by simp [at0, tags, h]
theorem tags_stab {κ : Int → Int} {xs : List Int} (hn : xs.length ≤ 1048576) : Stab (tagK tagM) (tags κ xs) := by
  intro p q hpq hq h
  rw [tags_len] at hq
  rw [tags_at hq, tags_at (show p < xs.length by omega)] at h ⊢
  unfold tagK
  rw [tag_div _ (by omega), tag_div _ (by omega)]
  unfold tag tagM at h
  omega
theorem tagM_pos : 0 < tagM := by unfold tagM; omega

theorem own_as {f g : Int → Value} {e : TypeId} {w : World} {base : Nat} {a : Option Addr} {c : Nat} {xs ys : List Int} (h : Own f e w base a c xs) (hl : ys.length = xs.length) (hm : ys.map g = xs.map f) : Own g e w base a c ys := by
  unfold Own at *
  rw [hl, hm]
  exact h

theorem map_tags {κ : Int → Int} {val : Int → Int} {xs : List Int} (h : ∀ i, i < xs.length → val (tag (κ (at0 xs i)) i) = at0 xs i) : (tags κ xs).map (vI val) = xs.map (Value.int .i64) := by
  apply List.ext_getElem?
  intro i
  by_cases hi : i < xs.length
  · simp only [tags, List.getElem?_map, List.getElem?_range hi, Option.map_some]
    rw [List.getElem?_eq_getElem hi]
    show some (Value.int .i64 (val (tag (κ (at0 xs i)) i))) = some (Value.int .i64 xs[i])
    rw [h i hi]
    simp [at0, hi]
  · rw [List.getElem?_eq_none (by simp [tags]; omega), List.getElem?_eq_none (by simp; omega)]

/-- By the numbers themselves. -/
theorem tags_srt {xs : List Int} (hn : xs.length ≤ 1048576) : (srt (tags id xs)).map (· / tagM) = srt xs := by
  refine srt_of ?_ ?_
  · have h1 := (srt_perm (tags id xs)).map (· / tagM)
    have h2 : (tags id xs).map (· / tagM) = xs := by
      apply List.ext_getElem?
      intro i
      by_cases hi : i < xs.length
      · simp only [tags, List.getElem?_map, List.getElem?_range hi, Option.map_some]
        rw [List.getElem?_eq_getElem hi]
        show some (tag (at0 xs i) i / tagM) = some xs[i]
        rw [tag_div _ (by omega)]
        simp [at0, hi]
      · rw [List.getElem?_eq_none (by simp [tags]; omega), List.getElem?_eq_none (by omega)]
    rw [h2] at h1
    exact h1
  · have := srt_pw (tags id xs)
    rw [List.pairwise_map]
    exact this.imp (fun h => Int.ediv_le_ediv tagM_pos h)

/-- How the median's closure compares. -/
def cmp3 (x y : Int) : Int := if x < y then -1 else if y < x then 1 else 0
theorem cmp3_neg (x y : Int) : decide (cmp3 x y < 0) = decide (x < y) := by
  unfold cmp3
  split
  · rename_i h; rw [decide_eq_true h]; rfl
  · rename_i h
    rw [decide_eq_false h]
    split <;> rfl

/-! Places in the order of keys -/
def idxN (n : Nat) : List Int := (List.range n).map Int.ofNat
theorem idxN_len (n : Nat) : (idxN n).length = n := by simp [idxN]
theorem idxN_at {n i : Nat} (h : i < n) : at0 (idxN n) i = i := by simp [at0, idxN, h]
theorem idxN_succ (n : Nat) : idxN (n + 1) = idxN n ++ [(n : Int)] := by simp [idxN, List.range_succ]
/-- The tags of the places by keys h. -/
def ordT (h : Int → Int) (n : Nat) : List Int := tags h (idxN n)
theorem ordT_len (h : Int → Int) (n : Nat) : (ordT h n).length = n := by rw [ordT, tags_len, idxN_len]
theorem ordT_mem {h : Int → Int} {n : Nat} {t : Int} (ht : t ∈ ordT h n) : ∃ i : Nat, i < n ∧ t = tag (h i) i := by
  unfold ordT tags at ht
  rw [List.mem_map] at ht
  obtain ⟨i, hi, rfl⟩ := ht
  rw [List.mem_range, idxN_len] at hi
  exact ⟨i, hi, by rw [idxN_at hi]⟩
theorem ordT_val {h : Int → Int} {n : Nat} (hn : n ≤ 1048576) : (ordT h n).map (vI (· % tagM)) = (idxN n).map (Value.int .i64) :=
  map_tags (fun i hi => by rw [idxN_len] at hi; rw [idxN_at hi, tag_mod _ (by omega)])
theorem ordT_stab {h : Int → Int} {n : Nat} (hn : n ≤ 1048576) : Stab (tagK tagM) (ordT h n) := tags_stab (by rw [idxN_len]; exact hn)
theorem ordT_succ (h : Int → Int) (n : Nat) : ordT h (n + 1) = ordT h n ++ [tag (h n) n] := by
  unfold ordT tags
  rw [idxN_len, idxN_len, List.range_succ, List.map_append]
  have e1 : (List.range n).map (fun i => tag (h (at0 (idxN (n + 1)) i)) i) = (List.range n).map (fun i => tag (h (at0 (idxN n) i)) i) := by
    apply List.map_congr_left
    intro i hi
    rw [List.mem_range] at hi
    rw [idxN_at hi, idxN_at (by omega)]
  rw [e1]
  simp [idxN_at (Nat.lt_succ_self n)]
/-- The places in the order of their keys, equal ones as they stand. -/
def ordL (h : Int → Int) (n : Nat) : List Int := (srt (ordT h n)).map (· % tagM)
theorem ordL_len (h : Int → Int) (n : Nat) : (ordL h n).length = n := by rw [ordL, List.length_map, srt_len, ordT_len]
/-- The first places, in ascending order. -/
def pickL (h : Int → Int) (n : Nat) (room : Int) : List Int := srt ((ordL h n).take (min n room.toNat))

end Go.Proofs.YtncbkbfkdgggkaaDoor

namespace Go.Proofs.YtncbkbfkdgggkaaDoor
open Go.RowKit

/-- After k exchanges. -/
def exch (A P Q R B : List Int) (k : Nat) : List Int := A ++ (R.take k ++ P.drop k) ++ Q ++ (P.take k ++ R.drop k) ++ B
theorem exch_zero (A P Q R B : List Int) : exch A P Q R B 0 = A ++ P ++ Q ++ R ++ B := by simp [exch]
theorem exch_all {A P Q R B : List Int} {n : Nat} (hP : P.length = n) (hR : R.length = n) : exch A P Q R B n = A ++ R ++ Q ++ P ++ B := by
  unfold exch
  rw [List.take_of_length_le (by omega), List.take_of_length_le (by omega), List.drop_eq_nil_of_le (by omega), List.drop_eq_nil_of_le (by omega)]
  simp
theorem exch_len {A P Q R B : List Int} {n k : Nat} (hP : P.length = n) (hR : R.length = n) : (exch A P Q R B k).length = (A ++ P ++ Q ++ R ++ B).length := by
  unfold exch
  simp [List.length_append, List.length_take, List.length_drop]
  omega
theorem exch_at {A P Q R B : List Int} {n k : Nat} (hP : P.length = n) (hR : R.length = n) (hk : k < n) :
    at0 (exch A P Q R B k) (A.length + k) = at0 P k ∧ at0 (exch A P Q R B k) (A.length + n + Q.length + k) = at0 R k := by
  have e : exch A P Q R B k = (A ++ R.take k) ++ (P.drop k ++ (Q ++ (P.take k ++ (R.drop k ++ B)))) := by simp [exch, List.append_assoc]
  have e2 : exch A P Q R B k = (A ++ (R.take k ++ P.drop k) ++ Q ++ P.take k) ++ (R.drop k ++ B) := by simp [exch, List.append_assoc]
  constructor
  · rw [e, at0_app_r (by simp; omega)]
    have h0 : A.length + k - (A ++ R.take k).length = 0 := by simp; omega
    rw [h0, at0_app_l (by simp; omega)]
    unfold at0
    rw [List.getElem?_drop]; rfl
  · rw [e2, at0_app_r (by simp; omega)]
    have h0 : A.length + n + Q.length + k - (A ++ (R.take k ++ P.drop k) ++ Q ++ P.take k).length = 0 := by simp; omega
    rw [h0, at0_app_l (by simp; omega)]
    unfold at0
    rw [List.getElem?_drop]; rfl
theorem exch_step {A P Q R B : List Int} {n k : Nat} (hP : P.length = n) (hR : R.length = n) (hk : k < n) {x y : Int} (hx : at0 P k = x) (hy : at0 R k = y) :
    ((exch A P Q R B k).set (A.length + k) y).set (A.length + n + Q.length + k) x = exch A P Q R B (k + 1) := by
  have hPk : P.drop k = x :: P.drop (k + 1) := by
    rw [List.drop_eq_getElem_cons (by omega)]
    have : P[k] = x := by rw [← hx]; simp [at0, show k < P.length by omega]
    rw [this]
  have hRk : R.drop k = y :: R.drop (k + 1) := by
    rw [List.drop_eq_getElem_cons (by omega)]
    have : R[k] = y := by rw [← hy]; simp [at0, show k < R.length by omega]
    rw [this]
  have hPt : P.take (k + 1) = P.take k ++ [x] := by
    rw [List.take_add_one]
    have : P[k]? = some x := by rw [← hx]; simp [at0, show k < P.length by omega]
    rw [this]; rfl
  have hRt : R.take (k + 1) = R.take k ++ [y] := by
    rw [List.take_add_one]
    have : R[k]? = some y := by rw [← hy]; simp [at0, show k < R.length by omega]
    rw [this]; rfl
  have e : exch A P Q R B k = (A ++ R.take k) ++ (x :: (P.drop (k + 1) ++ (Q ++ (P.take k ++ (y :: (R.drop (k + 1) ++ B)))))) := by
    simp [exch, List.append_assoc, hPk, hRk]
  rw [e, List.set_append_right _ _ (by simp; omega)]
  have h0 : A.length + k - (A ++ R.take k).length = 0 := by simp; omega
  rw [h0, List.set_cons_zero]
  have e2 : (A ++ R.take k) ++ (y :: (P.drop (k + 1) ++ (Q ++ (P.take k ++ (y :: (R.drop (k + 1) ++ B)))))) = (A ++ (R.take k ++ (y :: P.drop (k + 1))) ++ Q ++ P.take k) ++ (y :: (R.drop (k + 1) ++ B)) := by simp [List.append_assoc]
  rw [e2, List.set_append_right _ _ (by simp; omega)]
  have h1 : A.length + n + Q.length + k - (A ++ (R.take k ++ (y :: P.drop (k + 1))) ++ Q ++ P.take k).length = 0 := by simp; omega
  rw [h1, List.set_cons_zero]
  simp [exch, List.append_assoc, hPt, hRt]

set_option maxRecDepth 8000 in
set_option maxHeartbeats 2000000 in
theorem swapR_own {f : Value} {val : Int → Int} {w : World} {base : Nat} {a : Option Addr} {c : Nat} {ts A P Q R B : List Int} {lo hi n : Nat}
    (ho : Own (vI val) 2 w base a c ts) (hn : ts.length ≤ 1048576) (he : ts = A ++ P ++ Q ++ R ++ B) (hP : P.length = n) (hR : R.length = n) (hA : A.length = lo) (hQ : lo + n + Q.length = hi) :
    Calls Tryd.prog 96 #[.slice a ts.length c, .int .i64 lo, .int .i64 hi, .int .i64 n, f] w fun e w' =>
      e = .returned (.tuple #[]) ∧ Own (vI val) 2 w' base a c (A ++ R ++ Q ++ P ++ B) ∧ w.grownBy w' (a.map (·.block)) := by
  obtain ⟨m, hm⟩ : ∃ m, ts.length = m := ⟨_, rfl⟩
  have hlen : ∀ k, (exch A P Q R B k).length = m := fun k => by rw [exch_len hP hR, ← he, hm]
  have hlm : hi + n ≤ m := by rw [← hm, he]; simp; omega
  have hlh : lo + n ≤ hi := by omega
  have HE := Lib.hid (And.intro (And.intro hP hR) (And.intro hA hQ))
  have HO : Hid (Own (vI val) 2 w base a c (exch A P Q R B 0)) := Lib.hid (ho.cast (by rw [exch_zero, he]))
  have HL := Lib.hid hlen
  rw [hm] at hn ⊢
  clear ho he hP hR hA hQ hm hlen
  go_enter Tryd.func96, Tryd.ntmps96
  go_wp2
  go_loopg [10] n (fun g1 vi wr => ∃ k : Nat, vi = .int .i64 k ∧ k ≤ n ∧ n - k ≤ g1 ∧ Own (vI val) 2 wr base a c (exch A P Q R B k) ∧ w.grownBy wr (a.map (·.block)))
  case atStart => exact ⟨0, rfl, by omega, by omega, HO.out, grown_refl _ _⟩
  case round =>
    obtain ⟨k, rfl, hk, hg1, ho, hg⟩ := hrel
    by_cases hlt : k < n
    · have hltz : (k : Int) < (n : Int) := by omega
      obtain ⟨wk, hwk⟩ : ∃ wi : World, wi = wr := ⟨_, rfl⟩
      rw [← hwk]
      rw [← hwk] at ho hg
      have hat := exch_at (A := A) (Q := Q) (B := B) HE.out.1.1 HE.out.1.2 hlt
      obtain ⟨x, hx⟩ : ∃ x, at0 P k = x := ⟨_, rfl⟩
      obtain ⟨y, hy⟩ : ∃ x, at0 R k = x := ⟨_, rfl⟩
      have hst := exch_step (A := A) (Q := Q) (B := B) HE.out.1.1 HE.out.1.2 hlt hx hy
      rw [HE.out.2.1] at hat hst
      rw [HE.out.2.2] at hat hst
      rw [hx, hy] at hat
      have hixk := ownI_idx ho und_is siz_is (lo + k) (by rw [HL.out]; omega) ((lo : Int) + k) (by omega)
      have hixp := ownI_idx ho und_is siz_is (hi + k) (by rw [HL.out]; omega) ((hi : Int) + k) (by omega)
      rw [HL.out] at hixk hixp
      have ew1 : IntKind.i64.wrap ((lo : Int) + k) = (lo : Int) + k := IntWalk.i64_in _ (by omega)
      have ew2 : IntKind.i64.wrap ((hi : Int) + k) = (hi : Int) + k := IntWalk.i64_in _ (by omega)
      have hck := ownI_cell ho (p := lo + k) (by rw [HL.out]; omega) hat.1
      have hcp := ownI_cell ho (p := hi + k) (by rw [HL.out]; omega) hat.2
      have hsw := swp2_of ho (p := lo + k) (q := hi + k) (by rw [HL.out]; omega) (by rw [HL.out]; omega) hst
      have hfk := hsw.fp
      obtain ⟨v2, hcp2⟩ := hsw.c2
      have hfp2 := hsw.fq
      have HSW := Lib.hid hsw.own
      have HGW2 := Lib.hid (grown_trans hg hsw.grown)
      clear hsw ho hg hat hst hwk hx hy
      go_wp2_with fail
      go_region
      all_goals go_wp2
      go_roundg (n - (k + 1))
      case measure => omega
      case rel => exact ⟨k + 1, by go_num, by omega, Nat.le_refl _, HSW.out, HGW2.out⟩
    · have hltz : ¬ (k : Int) < (n : Int) := by omega
      have HOK := Lib.hid ho
      have HG := Lib.hid hg
      obtain rfl : k = n := by omega
      clear ho hg
      go_wp2
      go_end0
      exact ⟨rfl, HOK.out.cast (by rw [exch_all HE.out.1.1 HE.out.1.2]; simp), HG.out⟩

end Go.Proofs.YtncbkbfkdgggkaaDoor

namespace Go.Proofs.YtncbkbfkdgggkaaDoor
open Go.RowKit

set_option maxRecDepth 8000 in
set_option maxHeartbeats 2000000 in
theorem rotate_own {f : Value} {val : Int → Int} {w : World} {base : Nat} {a : Option Addr} {c : Nat} {ts A X Y B : List Int} {lo m hi : Nat}
    (ho : Own (vI val) 2 w base a c ts) (hn : ts.length ≤ 1048576) (he : ts = A ++ X ++ Y ++ B) (hA : A.length = lo) (hX : lo + X.length = m) (hY : m + Y.length = hi) (h1 : lo < m) (h2 : m < hi) :
    Calls Tryd.prog 90 #[.slice a ts.length c, .int .i64 lo, .int .i64 m, .int .i64 hi, f] w fun e w' =>
      e = .returned (.tuple #[]) ∧ Own (vI val) 2 w' base a c (A ++ Y ++ X ++ B) ∧ w.grownBy w' (a.map (·.block)) := by
  obtain ⟨n, hnn⟩ : ∃ n, ts.length = n := ⟨_, rfl⟩
  obtain ⟨us, hus⟩ : ∃ us, us = A ++ Y ++ X ++ B := ⟨_, rfl⟩
  have hul : us.length = n := by rw [hus, ← hnn, he]; simp; omega
  have hhn : hi ≤ n := by rw [← hnn, he]; simp; omega
  have HE := Lib.hid (show ∃ A' X' Y' B', ts = A' ++ X' ++ Y' ++ B' ∧ A'.length + X'.length = m ∧ X'.length = m - lo ∧ Y'.length = hi - m ∧ A' ++ Y' ++ X' ++ B' = us from ⟨A, X, Y, B, he, by omega, by omega, by omega, hus.symm⟩)
  have HO := Lib.hid ho
  have HN := Lib.hid hnn
  rw [hnn] at hn ⊢
  rw [← hus]
  clear ho he hA hX hY hnn hus
  have ew1 : IntKind.i64.wrap ((m : Int) - lo) = ((m - lo : Nat) : Int) := by rw [IntWalk.i64_in _ (by omega)]; omega
  have ew2 : IntKind.i64.wrap ((hi : Int) - m) = ((hi - m : Nat) : Int) := by rw [IntWalk.i64_in _ (by omega)]; omega
  go_enter Tryd.func90, Tryd.ntmps90
  go_wp2
  go_loopg [10, 11] (hi - lo) (fun g1 vi vj wr => ∃ (i j : Nat) (cs : List Int), vi = .int .i64 i ∧ vj = .int .i64 j ∧ 0 < i ∧ 0 < j ∧ i ≤ m ∧ m + j ≤ n ∧ i + j ≤ g1 ∧ Hid (cs.length = n) ∧ Hid (∃ A' X' Y' B', cs = A' ++ X' ++ Y' ++ B' ∧ A'.length + X'.length = m ∧ X'.length = i ∧ Y'.length = j ∧ A' ++ Y' ++ X' ++ B' = us) ∧ Own (vI val) 2 wr base a c cs ∧ w.grownBy wr (a.map (·.block)))
  case atStart => exact ⟨m - lo, hi - m, ts, rfl, rfl, by omega, by omega, by omega, by omega, by omega, HN, HE, HO.out, grown_refl _ _⟩
  case round =>
    obtain ⟨i, j, cs, rfl, rfl, hi0, hj0, him, hjn, hg1, HL, HS, ho, hg⟩ := hrel
    have HOC := Lib.hid ho
    have HG := Lib.hid hg
    clear ho hg
    by_cases hij : i = j
    · have hne : ((i : Int) != (j : Int)) = false := by simp; omega
      have hC : Calls Tryd.prog 96 #[.slice a n c, .int .i64 ((m - i : Nat) : Int), .int .i64 m, .int .i64 i, f] wr fun e w' =>
          e = .returned (.tuple #[]) ∧ Own (vI val) 2 w' base a c us ∧ wr.grownBy w' (a.map (·.block)) := by
        obtain ⟨A', X', Y', B', hcs, h3, h4, h5, h6⟩ := HS.out
        have := swapR_own (f := f) (P := X') (Q := []) (R := Y') (A := A') (B := B') (lo := m - i) (hi := m) (n := i) HOC.out (by rw [HL.out]; exact hn) (by rw [hcs]; simp) h4 (by omega) (by omega) (by simp; omega)
        rw [HL.out] at this
        refine this.mono ?_
        rintro e w' ⟨rfl, h7, h8⟩
        exact ⟨rfl, h7.cast (by rw [← h6]; simp), h8⟩
      have HC := Lib.hid hC
      have ew3 : IntKind.i64.wrap ((m : Int) - i) = ((m - i : Nat) : Int) := by rw [IntWalk.i64_in _ (by omega)]; omega
      clear hC
      subst hij
      go_wp2_with fail
      refine HC.out.mono ?_
      rintro e w1 ⟨rfl, ho1, hg1'⟩
      have HO1 := Lib.hid ho1
      have HG1 := Lib.hid (grown_trans HG.out hg1')
      clear ho1 hg1'
      go_wp2
      go_end0
      exact ⟨rfl, HO1.out, HG1.out⟩
    · have hne : ((i : Int) != (j : Int)) = true := by simp; omega
      by_cases hgt : j < i
      · have hd : (decide ((j : Int) < (i : Int))) = true := decide_eq_true (by omega)
        have hC : Calls Tryd.prog 96 #[.slice a n c, .int .i64 ((m - i : Nat) : Int), .int .i64 m, .int .i64 j, f] wr fun e w' =>
            e = .returned (.tuple #[]) ∧ ∃ ds, Own (vI val) 2 w' base a c ds ∧ wr.grownBy w' (a.map (·.block)) ∧ ds.length = n ∧ ∃ A' X' Y' B', ds = A' ++ X' ++ Y' ++ B' ∧ A'.length + X'.length = m ∧ X'.length = i - j ∧ Y'.length = j ∧ A' ++ Y' ++ X' ++ B' = us := by
          obtain ⟨A', X', Y', B', hcs, h3, h4, h5, h6⟩ := HS.out
          have hx := List.take_append_drop j X'
          have l1 : (X'.take j).length = j := by simp; omega
          have l2 : (X'.drop j).length = i - j := by simp; omega
          generalize X'.take j = X1 at hx l1
          generalize X'.drop j = X2 at hx l2
          subst hx
          have := swapR_own (f := f) (P := X1) (Q := X2) (R := Y') (A := A') (B := B') (lo := m - i) (hi := m) (n := j) HOC.out (by rw [HL.out]; exact hn) (by rw [hcs]; simp) l1 h5 (by omega) (by omega)
          rw [HL.out] at this
          refine this.mono ?_
          rintro e w' ⟨rfl, h7, h8⟩
          refine ⟨rfl, _, h7, h8, ?_, A' ++ Y', X2, X1, B', rfl, by simp; omega, l2, l1, by rw [← h6]; simp⟩
          rw [← HL.out, hcs]; simp; omega
        have HC := Lib.hid hC
        have ew3 : IntKind.i64.wrap ((m : Int) - i) = ((m - i : Nat) : Int) := by rw [IntWalk.i64_in _ (by omega)]; omega
        have ew4 : IntKind.i64.wrap ((i : Int) - j) = ((i - j : Nat) : Int) := by rw [IntWalk.i64_in _ (by omega)]; omega
        clear hC
        go_wp2_with fail
        refine HC.out.mono ?_
        rintro e w1 ⟨rfl, ds, ho1, hg1', hl1, hs1⟩
        have HO1 := Lib.hid ho1
        have HG1 := Lib.hid (grown_trans HG.out hg1')
        have HL1 := Lib.hid hl1
        have HS1 := Lib.hid hs1
        clear ho1 hg1' hl1 hs1 HC HS
        go_wp2
        go_roundg i
        case measure => omega
        case rel => exact ⟨i - j, j, ds, rfl, rfl, by omega, by omega, by omega, by omega, by omega, HL1, HS1, HO1.out, HG1.out⟩
      · have hd : (decide ((j : Int) < (i : Int))) = false := decide_eq_false (by omega)
        have hC : Calls Tryd.prog 96 #[.slice a n c, .int .i64 ((m - i : Nat) : Int), .int .i64 ((m + j - i : Nat) : Int), .int .i64 i, f] wr fun e w' =>
            e = .returned (.tuple #[]) ∧ ∃ ds, Own (vI val) 2 w' base a c ds ∧ wr.grownBy w' (a.map (·.block)) ∧ ds.length = n ∧ ∃ A' X' Y' B', ds = A' ++ X' ++ Y' ++ B' ∧ A'.length + X'.length = m ∧ X'.length = i ∧ Y'.length = j - i ∧ A' ++ Y' ++ X' ++ B' = us := by
          obtain ⟨A', X', Y', B', hcs, h3, h4, h5, h6⟩ := HS.out
          have hx := List.take_append_drop (j - i) Y'
          have l1 : (Y'.take (j - i)).length = j - i := by simp; omega
          have l2 : (Y'.drop (j - i)).length = i := by simp; omega
          generalize Y'.take (j - i) = Y1 at hx l1
          generalize Y'.drop (j - i) = Y2 at hx l2
          subst hx
          have := swapR_own (f := f) (P := X') (Q := Y1) (R := Y2) (A := A') (B := B') (lo := m - i) (hi := m + j - i) (n := i) HOC.out (by rw [HL.out]; exact hn) (by rw [hcs]; simp) h4 l2 (by omega) (by omega)
          rw [HL.out] at this
          refine this.mono ?_
          rintro e w' ⟨rfl, h7, h8⟩
          refine ⟨rfl, _, h7, h8, ?_, A', Y2, Y1, X' ++ B', by simp, by omega, l2, l1, by rw [← h6]; simp⟩
          rw [← HL.out, hcs]; simp; omega
        have HC := Lib.hid hC
        have ew3 : IntKind.i64.wrap ((m : Int) - i) = ((m - i : Nat) : Int) := by rw [IntWalk.i64_in _ (by omega)]; omega
        have ew5 : IntKind.i64.wrap ((m : Int) + j) = (m : Int) + j := IntWalk.i64_in _ (by omega)
        have ew6 : IntKind.i64.wrap ((m : Int) + j - i) = ((m + j - i : Nat) : Int) := by rw [IntWalk.i64_in _ (by omega)]; omega
        have ew4 : IntKind.i64.wrap ((j : Int) - i) = ((j - i : Nat) : Int) := by rw [IntWalk.i64_in _ (by omega)]; omega
        clear hC
        go_wp2_with fail
        refine HC.out.mono ?_
        rintro e w1 ⟨rfl, ds, ho1, hg1', hl1, hs1⟩
        have HO1 := Lib.hid ho1
        have HG1 := Lib.hid (grown_trans HG.out hg1')
        have HL1 := Lib.hid hl1
        have HS1 := Lib.hid hs1
        clear ho1 hg1' hl1 hs1 HC HS
        go_wp2
        go_roundg j
        case measure => omega
        case rel => exact ⟨i, j - i, ds, rfl, rfl, by omega, by omega, by omega, by omega, by omega, HL1, HS1, HO1.out, HG1.out⟩

end Go.Proofs.YtncbkbfkdgggkaaDoor
