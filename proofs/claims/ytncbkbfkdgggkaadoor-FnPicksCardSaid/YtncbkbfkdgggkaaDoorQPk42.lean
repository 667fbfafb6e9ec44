/- FnPicks: hashes of keys: HashOf, LeastHash and what they call: walked. FnPicks: the first of the least: SampleSeen, TimeSample: walked. FnPicks: the marks of weights: plain; share, compareNumbers: walked. FnPicks: TimeSample where all times are in the window, or none: walked. -/
import Derived.Test.YtncbkbfkdgggkaaDoorQPk31
import Derived.Test.YtncbkbfkdgggkaaDoorQPk13
import Derived.Test.YtncbkbfkdgggkaaDoorQPk36
import Derived.Test.YtncbkbfkdgggkaaDoorQPk3
import Derived.Test.YtncbkbfkdgggkaaDoorQPk6
set_option linter.unusedVariables false
set_option linter.unusedSimpArgs false
namespace Go.Proofs.YtncbkbfkdgggkaaDoor
open Go.RowKit

theorem key_bd {k : Int} (h : isKey k = true) : 0 ≤ k ∧ k < 4294967296 := by
  have := (inR_eq _ _ _).1 (show inR k 0 4294967295 = true from h)
  omega
set_option maxHeartbeats 400000 in
theorem hashOf_any {k s : Int} {w : World} (hk : isKey k = true) (hs : isKey s = true) : Calls Tryd.prog 14 #[.int .i64 k, .int .i64 s] w fun e w' => e = .returned (.tuple #[.int .i64 (hashZ k s), .bool true]) ∧ w = w' := by
  have HC := Lib.hid (fun w : World => hash_any (w := w) (key_bd hk).1 (key_bd hk).2 (key_bd hs).1 (key_bd hs).2)
  generalize hashZ k s = z at HC ⊢
  go_enter Tryd.func14, Tryd.ntmps14
  go_wp2_with fail
  refine implIsKey_any.mono ?_
  rintro e w1 ⟨rfl, rfl⟩
  rw [hk]
  go_wp2_with fail
  refine implIsKey_any.mono ?_
  rintro e w1 ⟨rfl, rfl⟩
  rw [hs]
  go_wp2_with fail
  refine (HC.out _).mono ?_
  rintro e w1 ⟨rfl, rfl⟩
  go_wp2
  go_ret2
  exact ⟨rfl, rfl⟩
theorem areKeys_any {a : Option Addr} {c : Nat} {xs : List Int} {w : World} (hr : Rd (Value.int .i64) w a c xs) (hn : xs.length ≤ 256) (hk : keysB xs = true) :
    Calls Tryd.prog 45 #[.slice a xs.length c] w fun e w' => e = .returned (.bool true) ∧ Below w.heap.size w w' := by
  have z1 : (xs.length : Int) ≤ 256 := by omega
  have HC := Lib.hid (areAllKeys_any hr)
  rw [hk] at HC
  clear hr
  go_enter Tryd.func45, Tryd.ntmps45
  go_wp2_with fail
  refine HC.out.mono ?_
  rintro e w1 ⟨rfl, hb⟩
  go_wp2
  go_ret
  exact ⟨rfl, hb⟩

/-- The hashes of a list. -/
def hashL (xs : List Int) (s : Int) : List Int := xs.map fun k => hashZ k s
theorem hashL_take {xs : List Int} {s : Int} {k : Nat} (hk : k < xs.length) : hashL (xs.take (k + 1)) s = hashL (xs.take k) s ++ [hashZ (at0 xs k) s] := by
  unfold hashL
  rw [List.take_add_one, List.getElem?_eq_getElem hk, List.map_append]
  unfold at0
  rw [List.getElem?_eq_getElem hk]
  rfl
theorem keys_at {xs : List Int} (h : keysB xs = true) {k : Nat} (hk : k < xs.length) : 0 ≤ at0 xs k ∧ at0 xs k < 4294967296 := by
  unfold keysB at h
  have := List.all_eq_true.1 h xs[k] (List.getElem_mem hk)
  have e : at0 xs k = xs[k] := by unfold at0; rw [List.getElem?_eq_getElem hk]; rfl
  rw [e]
  exact key_bd this
set_option maxRecDepth 20000 in
set_option maxHeartbeats 2000000 in
theorem hashRow_any {a : Option Addr} {c : Nat} {xs : List Int} {s : Int} {w : World} (hr : Rd (Value.int .i64) w a c xs) (hn : xs.length ≤ 256) (hk : keysB xs = true) (hs : isKey s = true) :
    Calls Tryd.prog 63 #[.slice a xs.length c, .int .i64 s] w fun e w' => ∃ a' c', e = .returned (.slice a' xs.length c') ∧ Own (Value.int .i64) 2 w' w.heap.size a' c' (hashL xs s) ∧ Below w.heap.size w w' := by
  have HR := Lib.hid hr
  have HK := Lib.hid hk
  have hsb := key_bd hs
  have HE := Lib.hid (own_empty (f := Value.int .i64) (e := 2) (α := Int) w (by_ := 0) w.heap.size (Nat.le_refl _) rfl)
  have HB1 := Lib.hid ((Below.refl w.heap.size w).alloc (Nat.le_refl _) (.cells #[] 2))
  clear hr hk hs
  go_enter Tryd.func63, Tryd.ntmps63
  go_wp2_with fail
  go_loopw [5, 11] (fun o i wr => ∃ (k : Nat) (b : Option Addr) (cc : Nat), k ≤ xs.length ∧ i = .int .i64 k ∧ o = .slice b k cc ∧ Hid (Own (Value.int .i64) 2 wr w.heap.size b cc (hashL (xs.take k) s)) ∧ Hid (Below w.heap.size w wr)) (fun _ i _ => xs.length - (intOf i).toNat)
  case atStart => exact ⟨0, _, _, Nat.zero_le _, rfl, rfl, HE, HB1⟩
  case round =>
    clear HE HB1
    obtain ⟨k, b, cc, hk, rfl, rfl, HO, HB⟩ := hrel
    by_cases hlt : k < xs.length
    · have hlz : (k : Int) < (xs.length : Int) := by omega
      have hr1 := HR.out.below HB.out (Nat.le_refl _)
      have hix := hr1.idx und_is siz_is wr k hlt
      have hkb := keys_at HK.out hlt
      obtain ⟨x, hx⟩ : ∃ x, at0 xs k = x := ⟨_, rfl⟩
      have hcx := at0_cell hr1 hlt hx
      rw [hx] at hkb
      have HC := Lib.hid (fun w : World => hash_any (w := w) hkb.1 hkb.2 hsb.1 hsb.2)
      have HS : Hid (hashL (xs.take (k + 1)) s = hashL (xs.take k) s ++ [hashZ x s]) := Lib.hid (by rw [hashL_take hlt, hx])
      have ewk : IntKind.i64.wrap ((k : Int) + 1) = (k : Int) + 1 := IntWalk.i64_in _ (by omega)
      have hz3 := HB.out.size
      have hlk : (hashL (xs.take k) s).length = k := by unfold hashL; rw [List.length_map, List.length_take]; omega
      obtain ⟨vs, hvs⟩ : ∃ vs, hashL (xs.take k) s = vs := ⟨_, rfl⟩
      rw [hvs] at hlk HS HO
      generalize hashZ x s = z at HC HS
      clear hr1 hvs hx
      subst hlk
      go_wp2_with fail
      refine (HC.out _).mono ?_
      rintro e w1 ⟨rfl, rfl⟩
      go_wp2_with (at_builtin; refine wpl_append1 (f := Value.int .i64) (d := 0) (base := w.heap.size) und_ise info_i (fun _ => rfl) z HO.out rfl _ _ rfl rfl rfl (by omega) (by omega) hz3 ?_; intro a4 c4 w4 ho4 hg4)
      go_roundw
      case rel => exact ⟨vs.length + 1, a4, c4, by omega, by go_num, by simp, Lib.hid (ho4.cast HS.out.symm), Lib.hid (HB.out.trans (grown_belowOwn HO.out hg4 (Nat.le_refl _) hz3))⟩
      case measure => simp [intOf]; omega
    · obtain rfl : k = xs.length := by omega
      have hlz : ¬ (xs.length : Int) < (xs.length : Int) := by omega
      rw [List.take_length] at HO
      go_wp2
      go_ret
      exact ⟨b, cc, rfl, HO.out, HB.out⟩
set_option maxHeartbeats 1000000 in
theorem leastHash_any {a : Option Addr} {c : Nat} {xs : List Int} {s : Int} {w : World} (hr : Rd (Value.int .i64) w a c xs) (h1 : 1 ≤ xs.length) (hn : xs.length ≤ 256) (hk : keysB xs = true) (hs : isKey s = true) :
    Calls Tryd.prog 15 #[.slice a xs.length c, .int .i64 s] w fun e w' => ∃ i : Int, e = .returned (.tuple #[.int .i64 (minG (hashL xs s)), .int .i64 i, .bool true]) ∧ Below w.heap.size w w' := by
  have HL : Hid (∀ w1 : World, Below w.heap.size w w1 → Calls Tryd.prog 46 #[.slice a xs.length c, .int .i64 s] w1 fun e w' => ∃ i : Int, e = .returned (.tuple #[.int .i64 (minG (hashL xs s)), .int .i64 i]) ∧ Below w1.heap.size w1 w') := Lib.hid (fun w1 hb1 => by
    have HR := Lib.hid (hashRow_any (hr.below hb1 (Nat.le_refl _)) hn hk hs)
    have hne : hashL xs s ≠ [] := by intro h; have := congrArg List.length h; unfold hashL at this; rw [List.length_map] at this; simp at this; subst this; simp at h1
    have hll : (hashL xs s).length = xs.length := by unfold hashL; rw [List.length_map]
    clear hr hk hs
    generalize hashL xs s = zs at HR hne hll ⊢
    have HLL := Lib.hid hll
    clear hll
    go_enter Tryd.func46, Tryd.ntmps46
    go_wp2_with fail
    refine HR.out.mono ?_
    rintro e w2 ⟨a', c', rfl, ho, hb⟩
    rw [← HLL.out]
    have HO := Lib.hid ho.rd
    have HB := Lib.hid hb
    clear ho hb HR
    go_wp2_with fail
    refine (slicesMin_any HO.out hne).mono ?_
    rintro e w3 ⟨rfl, rfl⟩
    go_wp2_with fail
    refine (index_any HO.out).mono ?_
    rintro e w3 ⟨rfl, rfl⟩
    go_wp2
    go_ret2
    exact ⟨_, rfl, HB.out⟩)
  have HA := Lib.hid (areKeys_any hr hn hk)
  have z1 : ¬ (xs.length : Int) = 0 := by omega
  have z2 : ((xs.length : Int) == 0) = false := beq_eq_false_iff_ne.2 (by omega)
  clear hr hk
  generalize minG (hashL xs s) = z at HL ⊢
  go_enter Tryd.func15, Tryd.ntmps15
  go_wp2_with fail
  refine HA.out.mono ?_
  rintro e w1 ⟨rfl, hb1⟩
  have HB1 := Lib.hid hb1
  clear hb1
  go_wp2_with fail
  refine implIsKey_any.mono ?_
  rintro e w2 ⟨rfl, rfl⟩
  rw [hs]
  go_wp2_with fail
  refine (HL.out _ HB1.out).mono ?_
  rintro e w3 ⟨i, rfl, hb3⟩
  have HB3 := Lib.hid (HB1.out.trans (hb3.mono HB1.out.size))
  clear hb3
  go_wp2
  go_ret3
  exact ⟨i, rfl, HB3.out⟩

end Go.Proofs.YtncbkbfkdgggkaaDoor

namespace Go.Proofs.YtncbkbfkdgggkaaDoor
open Go.RowKit

/-- The first index of the least, of k + 1 ones. -/
def bst (h : Nat → Int) : Nat → Nat
  | 0 => 0
  | k + 1 => if h (k + 1) < h (bst h k) then k + 1 else bst h k
theorem bst_ok (h : Nat → Int) : ∀ k, bst h k ≤ k ∧ ∀ j, j ≤ k → h (bst h k) < h j ∨ (h (bst h k) = h j ∧ bst h k ≤ j)
  | 0 => ⟨Nat.le_refl _, fun j hj => by
    obtain rfl : j = 0 := by omega
    exact .inr ⟨rfl, Nat.le_refl _⟩⟩
  | k + 1 => by
    obtain ⟨h1, h2⟩ := bst_ok h k
    unfold bst
    by_cases hlt : h (k + 1) < h (bst h k)
    · rw [if_pos hlt]
      refine ⟨Nat.le_refl _, fun j hj => ?_⟩
      by_cases e : j = k + 1
      · subst e; exact .inr ⟨rfl, Nat.le_refl _⟩
      · have := h2 j (by omega); left; omega
    · rw [if_neg hlt]
      refine ⟨by omega, fun j hj => ?_⟩
      by_cases e : j = k + 1
      · subst e; omega
      · exact h2 j (by omega)
/-- The first ones by a key, the index deciding among equal ones. -/
theorem pick_lex {h : Int → Int} {n : Nat} {room : Int} (hn : n ≤ 1048576) {i j : Nat} (hi : i < n) (hj : j < n) (hin : (i : Int) ∈ pickL h n room) (hout : ¬ (j : Int) ∈ pickL h n room) : h i < h j ∨ (h i = h j ∧ i < j) := by
  obtain ⟨m, hm⟩ : ∃ m, min n room.toNat = m := ⟨_, rfl⟩
  obtain ⟨ts, hts⟩ : ∃ ts, srt (ordT h n) = ts := ⟨_, rfl⟩
  have hpm : ∀ t, t ∈ ts ↔ t ∈ ordT h n := fun t => by rw [← hts]; exact (srt_perm _).mem_iff
  have hpw : ts.Pairwise (· ≤ ·) := by rw [← hts]; exact srt_pw _
  have hsel : ∀ x, x ∈ pickL h n room ↔ ∃ t, t ∈ ts.take m ∧ t % tagM = x := by
    intro x
    unfold pickL ordL
    rw [hm, (srt_perm _).mem_iff, hts, ← List.map_take, List.mem_map]
  have htag : ∀ t, t ∈ ts → ∃ i : Nat, i < n ∧ t = tag (h i) i := fun t ht => ordT_mem ((hpm t).1 ht)
  obtain ⟨t, ht, hti⟩ := (hsel i).1 hin
  obtain ⟨i', hi', rfl⟩ := htag t (List.mem_of_mem_take ht)
  rw [tag_mod _ (by omega)] at hti
  obtain rfl : i' = i := by omega
  have hj2 : tag (h j) j ∈ ts := (hpm _).2 (ordT_in hj)
  rw [← List.take_append_drop m ts] at hj2 hpw
  rcases List.mem_append.1 hj2 with g | g
  · exact absurd ((hsel j).2 ⟨_, g, tag_mod _ (by omega)⟩) hout
  · have h1 := (List.pairwise_append.1 hpw).2.2 _ ht _ g
    have hne : i' ≠ j := fun e => hout (e ▸ hin)
    unfold tag tagM at h1
    omega
/-- The first of the least is among the first ones. -/
theorem bst_pick {h : Int → Int} {n : Nat} {room : Int} (hn0 : 0 < n) (hn : n ≤ 1048576) (hr : 1 ≤ room) : ((bst (fun i => h i) (n - 1) : Nat) : Int) ∈ pickL h n room := by
  have P := pick_ok (h := h) (room := room) hn
  obtain ⟨b1, b2⟩ := bst_ok (fun i => h i) (n - 1)
  refine Decidable.byContradiction fun hno => ?_
  have hl : 0 < (pickL h n room).length := by rw [P.len]; omega
  have hx := List.getElem_mem hl
  have hb := P.rng _ hx
  obtain ⟨i, hi⟩ := Int.eq_ofNat_of_zero_le hb.1
  rw [hi] at hx hb
  have h1 := pick_lex (room := room) hn (show i < n by omega) (show bst (fun i => h i) (n - 1) < n by omega) hx hno
  have h2 := b2 i (by omega)
  omega
theorem pick_one {h : Int → Int} {n : Nat} (hn0 : 0 < n) (hn : n ≤ 1048576) : pickL h n 1 = [((bst (fun i => h i) (n - 1) : Nat) : Int)] := by
  have P := pick_ok (h := h) (room := 1) hn
  have hm := bst_pick (h := h) (room := 1) hn0 hn (by omega)
  have hl := P.len
  rw [show min n (1 : Int).toNat = 1 by omega] at hl
  obtain ⟨x, hx⟩ := List.length_eq_one_iff.1 hl
  rw [hx] at hm ⊢
  rw [List.mem_singleton.1 hm]

set_option maxRecDepth 20000 in
set_option maxHeartbeats 2000000 in
/-- For each key the one of the least hash of an index so far. -/
theorem sampleSeen_any {a : Option Addr} {c : Nat} {xs : List Int} {s : Int} {w : World} (hr : Rd (Value.int .i64) w a c xs) (h1 : 1 ≤ xs.length) (hn : xs.length ≤ 128) (hk : keysB xs = true) (hs : isKey s = true) :
    Calls Tryd.prog 8 #[.slice a xs.length c, .int .i64 s] w fun e w' => ∃ a' c', e = .returned (.tuple #[.slice a' xs.length c', .bool true]) ∧ Own (Value.int .i64) 2 w' w.heap.size a' c' ((List.range xs.length).map fun i => at0 xs (bst (fun i => hashZ i s) i)) ∧ Below w.heap.size w w' := by
  have HK0 := Lib.hid (areStreamKeys_any hr)
  rw [hk, (inR_eq _ _ _).2 ⟨by omega, by omega⟩] at HK0
  have HR := Lib.hid hr
  have hsb := key_bd hs
  clear hr hk
  go_enter Tryd.func8, Tryd.ntmps8
  go_wp2_with fail
  refine HK0.out.mono ?_
  rintro e w0 ⟨rfl, hb0⟩
  have HB0 := Lib.hid hb0
  clear hb0 HK0
  go_wp2_with fail
  refine implIsKey_any.mono ?_
  rintro e w2 ⟨rfl, rfl⟩
  rw [hs]
  have hz0 := HB0.out.size
  have HE := Lib.hid (own_empty (f := Value.int .i64) (e := 2) (α := Int) w0 (by_ := 0) w.heap.size hz0 rfl)
  have HB1 := Lib.hid (HB0.out.alloc hz0 (.cells #[] 2))
  clear HB0 hz0
  go_wp2_with fail
  go_loopw [6, 7, 20] (fun o b i wr => ∃ (k : Nat) (g : Option Addr) (cc : Nat), k ≤ xs.length ∧ i = .int .i64 k ∧ b = .int .i64 ((bst (fun i => hashZ i s) (k - 1) : Nat) : Int) ∧ o = .slice g k cc ∧ Hid (Own (Value.int .i64) 2 wr w.heap.size g cc ((List.range k).map fun i => at0 xs (bst (fun i => hashZ i s) i))) ∧ Hid (Below w.heap.size w wr)) (fun _ _ i _ => xs.length - (intOf i).toNat)
  case atStart => exact ⟨0, _, _, Nat.zero_le _, rfl, rfl, rfl, HE, HB1⟩
  case round =>
    clear HE HB1
    obtain ⟨k, g, cc, hk, rfl, rfl, rfl, HO, HB⟩ := hrel
    by_cases hlt : k < xs.length
    · have hlz : (k : Int) < (xs.length : Int) := by omega
      obtain ⟨p, hp⟩ : ∃ p, bst (fun i => hashZ i s) (k - 1) = p := ⟨_, rfl⟩
      obtain ⟨q, hq⟩ : ∃ q, bst (fun i => hashZ i s) k = q := ⟨_, rfl⟩
      have hpk : p ≤ k := by rw [← hp]; have := (bst_ok (fun i => hashZ i s) (k - 1)).1; omega
      have hqk : q ≤ k := by rw [← hq]; exact (bst_ok (fun i => hashZ i s) k).1
      have hqp : if hashZ k s < hashZ p s then q = k else q = p := by
        cases k with
        | zero =>
          obtain rfl : p = 0 := by omega
          obtain rfl : q = 0 := by omega
          rw [if_neg (Int.lt_irrefl _)]
        | succ k =>
          rw [Nat.add_sub_cancel] at hp
          unfold bst at hq
          rw [hp] at hq
          by_cases h : hashZ ((k + 1 : Nat) : Int) s < hashZ (p : Int) s
          · rw [if_pos h] at hq ⊢; exact hq.symm
          · rw [if_neg h] at hq ⊢; exact hq.symm
      have hr1 := HR.out.below HB.out (Nat.le_refl _)
      have hix := hr1.idx und_is siz_is wr q (by omega)
      obtain ⟨x, hx⟩ : ∃ x, at0 xs q = x := ⟨_, rfl⟩
      have hcx := at0_cell hr1 (show q < xs.length by omega) hx
      have HC1 := Lib.hid (fun w : World => hash_any (k := (k : Int)) (w := w) (by omega) (by omega) hsb.1 hsb.2)
      have HC2 := Lib.hid (fun w : World => hash_any (k := (p : Int)) (w := w) (by omega) (by omega) hsb.1 hsb.2)
      have HS : Hid (((List.range (k + 1)).map fun i => at0 xs (bst (fun i => hashZ i s) i)) = ((List.range k).map fun i => at0 xs (bst (fun i => hashZ i s) i)) ++ [x]) := Lib.hid (by rw [List.range_succ, List.map_append, ← hx, ← hq]; rfl)
      have ewk : IntKind.i64.wrap ((k : Int) + 1) = (k : Int) + 1 := IntWalk.i64_in _ (by omega)
      have hz3 := HB.out.size
      have hlk : ((List.range k).map fun i => at0 xs (bst (fun i => hashZ i s) i)).length = k := by rw [List.length_map, List.length_range]
      obtain ⟨vs, hvs⟩ : ∃ vs, ((List.range k).map fun i => at0 xs (bst (fun i => hashZ i s) i)) = vs := ⟨_, rfl⟩
      rw [hvs] at hlk HS HO
      rw [hp]
      have HQ : Hid (bst (fun i => hashZ i s) (k + 1 - 1) = q) := Lib.hid (by rw [Nat.add_sub_cancel]; exact hq)
      generalize hashZ (k : Int) s = z1 at HC1 hqp
      generalize hashZ (p : Int) s = z2 at HC2 hqp
      clear hr1 hvs hx hp hq
      go_wp2_with fail
      refine (HC1.out _).mono ?_
      rintro e w1 ⟨rfl, rfl⟩
      go_wp2_with fail
      refine (HC2.out _).mono ?_
      rintro e w1 ⟨rfl, rfl⟩
      have HLK := Lib.hid hlk
      by_cases hz : z1 < z2
      · rw [if_pos hz] at hqp
        subst hqp
        clear hlk
        obtain rfl : q = vs.length := HLK.out.symm
        go_wp2_with (at_builtin; refine wpl_append1 (f := Value.int .i64) (d := 0) (base := w.heap.size) und_ise info_i (fun _ => rfl) x HO.out rfl _ _ rfl rfl rfl (by omega) (by omega) hz3 ?_; intro a4 c4 w4 ho4 hg4)
        go_roundw
        case rel => exact ⟨vs.length + 1, a4, c4, by omega, by go_num, by rw [HQ.out], by simp, Lib.hid (ho4.cast HS.out.symm), Lib.hid (HB.out.trans (grown_belowOwn HO.out hg4 (Nat.le_refl _) hz3))⟩
        case measure => simp [intOf]; omega
      · rw [if_neg hz] at hqp
        subst hqp
        clear hlk
        obtain rfl : k = vs.length := HLK.out.symm
        go_wp2_with (at_builtin; refine wpl_append1 (f := Value.int .i64) (d := 0) (base := w.heap.size) und_ise info_i (fun _ => rfl) x HO.out rfl _ _ rfl rfl rfl (by omega) (by omega) hz3 ?_; intro a4 c4 w4 ho4 hg4)
        go_roundw
        case rel => exact ⟨vs.length + 1, a4, c4, by omega, by go_num, by rw [HQ.out], by simp, Lib.hid (ho4.cast HS.out.symm), Lib.hid (HB.out.trans (grown_belowOwn HO.out hg4 (Nat.le_refl _) hz3))⟩
        case measure => simp [intOf]; omega
    · obtain rfl : k = xs.length := by omega
      have hlz : ¬ (xs.length : Int) < (xs.length : Int) := by omega
      go_wp2
      go_ret2
      exact ⟨g, cc, rfl, HO.out, HB.out⟩

end Go.Proofs.YtncbkbfkdgggkaaDoor

namespace Go.Proofs.YtncbkbfkdgggkaaDoor
open Go.RowKit

theorem ar3p {op : BinOp} {a b r : Nat} (h : fbin op .f32 (some a) (some b) = some r) (t : TypeId) (w : World) : (binOp op t (.float .f32 a) (.float .f32 b)).run Tryd.prog w = .ok (.float .f32 r) w := run_float_arith w op t .f32 a b r h
def cTiny : Nat := 864026624
theorem n_tiny : isN .f32 cTiny := isN_of (by decide +kernel)
theorem v_tiny : val .f32 cTiny = tp (-24) := by decide +kernel
/-- A share, and what a weight is divided by. -/
def shF (q : Nat) : Nat := fo3 .mul (floatOfInt .f32 (q : Int)) cTiny
def dnF (q : Nat) : Nat := fo3 .add (shF q) cTiny
def mkF (x q : Nat) : Nat := fo3 .quo x (dnF q)
theorem tiny_sum (q : Nat) : (q : Rat) * tp (-24) + tp (-24) = ((q + 1 : Nat) : Rat) * tp (-24) := by
  rw [Rat.natCast_add]
  have : ((1 : Nat) : Rat) = 1 := rfl
  rw [this]; grind
theorem rep_tiny {q : Nat} (hq : q ≤ 16777216) : Rep .f32 ((q : Rat) * tp (-24)) := ⟨(q : Int), -24, by show (q : Int).natAbs ≤ 2 ^ 24; omega, by decide, by rw [Rat.intCast_natCast]⟩
theorem tiny_bd {q : Nat} (hq : q ≤ 16777216) : 0 ≤ (q : Rat) * tp (-24) ∧ (q : Rat) * tp (-24) ≤ 1 := by
  refine ⟨Rat.mul_nonneg Rat.natCast_nonneg (Rat.le_of_lt (tp_pos _)), ?_⟩
  have h : (q : Rat) ≤ ((16777216 : Nat) : Rat) := Rat.natCast_le_natCast.2 hq
  have h2 := Rat.mul_le_mul_of_nonneg_right h (Rat.le_of_lt (tp_pos (-24)))
  have h3 : ((16777216 : Nat) : Rat) * tp (-24) = 1 := by decide +kernel
  rw [h3] at h2
  exact h2
structure ShOk (q : Nat) : Prop where
  m : fbin .mul .f32 (some (floatOfInt .f32 (q : Int))) (some cTiny) = some (shF q)
  sN : isN .f32 (shF q)
  a : fbin .add .f32 (some (shF q)) (some cTiny) = some (dnF q)
  dN : isN .f32 (dnF q)
  dv : val .f32 (dnF q) = ((q + 1 : Nat) : Rat) * tp (-24)
theorem sh_ok {q : Nat} (hq : q < 16777216) : ShOk q := by
  obtain ⟨n1, v1⟩ := ofInt_val (k := .f32) (n := (q : Int)) (by show (q : Int).natAbs ≤ 2 ^ 24; omega)
  rw [Rat.intCast_natCast] at v1
  have b1 := tiny_bd (q := q) (by omega)
  have b2 := tiny_bd (q := q + 1) (by omega)
  have m := fo3_mul n1 n_tiny (by rw [v1, v_tiny]; grind) (by rw [v1, v_tiny]; grind)
  have mv := m.2.2.exact (by rw [v1, v_tiny]; exact rep_tiny (by omega))
  rw [v1, v_tiny] at mv
  have e : val .f32 (fo3 .mul (floatOfInt .f32 (q : Int)) cTiny) + val .f32 cTiny = ((q + 1 : Nat) : Rat) * tp (-24) := by rw [mv, v_tiny]; exact tiny_sum q
  have a := fo3_add m.2.1 n_tiny (by rw [e]; grind) (by rw [e]; grind)
  have av := a.2.2.exact (by rw [e]; exact rep_tiny (by omega))
  exact ⟨m.1, m.2.1, a.1, a.2.1, by rw [← e]; exact av⟩
/-- A weight from 1/2 to 8. -/
structure WtOk (x : Nat) : Prop where
  N : isN .f32 x
  lo : 1 / 2 ≤ val .f32 x
  hi : val .f32 x ≤ 8
structure MkOk (m : Nat) : Prop where
  N : isN .f32 m
  lo : 1 / 2 ≤ val .f32 m
  hi : val .f32 m ≤ 134217728
theorem rep_half : Rep .f32 (1 / 2) := ⟨1, -1, by decide, by decide, by decide +kernel⟩
theorem rep_p27 : Rep .f32 134217728 := ⟨1, 27, by decide, by decide, by decide +kernel⟩
theorem inT_p29 {x : Rat} (h1 : -536870912 ≤ x) (h2 : x ≤ 536870912) : inT .f32 x := by
  have h3 : (536870912 : Rat) < tp 127 := by
    have : (536870912 : Rat) = tp 29 := by decide +kernel
    rw [this]; exact tp_lt (by decide)
  have h4 : tB .f32 = 127 := rfl
  constructor <;> (rw [h4]; grind)
theorem mk_ok {x q : Nat} (hx : WtOk x) (hq : q < 16777216) : fbin .quo .f32 (some x) (some (dnF q)) = some (mkF x q) ∧ MkOk (mkF x q) := by
  have S := sh_ok hq
  have b2 := tiny_bd (q := q + 1) (by omega)
  have hp : 0 < val .f32 (dnF q) := by
    rw [S.dv]
    exact Rat.mul_pos (Rat.natCast_pos.2 (by omega)) (tp_pos _)
  have hp2 : tp (-24) ≤ val .f32 (dnF q) := by
    rw [S.dv]
    have h : ((1 : Nat) : Rat) ≤ ((q + 1 : Nat) : Rat) := Rat.natCast_le_natCast.2 (by omega)
    have h2 := Rat.mul_le_mul_of_nonneg_right h (Rat.le_of_lt (tp_pos (-24)))
    have e1 : ((1 : Nat) : Rat) = 1 := rfl
    rw [e1, Rat.one_mul] at h2
    exact h2
  rw [← S.dv] at b2
  obtain ⟨y, hy, _⟩ := div_ex (a := val .f32 x) hp
  have hx1 := hx.lo
  have hx2 := hx.hi
  have y1 : 1 / 2 ≤ y := by
    refine Rat.le_of_mul_le_mul_right (c := val .f32 (dnF q)) ?_ hp
    rw [hy]
    have := b2.2
    grind
  have y2 : y ≤ 134217728 := by
    refine Rat.le_of_mul_le_mul_right (c := val .f32 (dnF q)) ?_ hp
    rw [hy]
    have h2 := Rat.mul_le_mul_of_nonneg_left hp2 (show (0 : Rat) ≤ 134217728 by decide +kernel)
    have e1 : (134217728 : Rat) * tp (-24) = 8 := by decide +kernel
    grind
  obtain ⟨r, e, rN, hr⟩ := quo_RN hx.N S.dN (by grind) hy (inT_p29 (by grind) (by grind))
  have : mkF x q = r := by unfold mkF fo3; rw [e]; rfl
  rw [this]
  exact ⟨e, rN, hr.dn _ rep_half y1, hr.up _ rep_p27 y2⟩

/-- The first digits of a hash. -/
def hq (k s : Int) : Nat := ((hashZ k s).tdiv 256).toNat
theorem hq_ok (k s : Int) : hq k s < 16777216 ∧ (hashZ k s).tdiv 256 = (hq k s : Int) := by
  have h := hashZ_bd k s
  unfold hq
  generalize hashZ k s = z at h ⊢
  have e : z.tdiv 256 = z / 256 := Int.tdiv_eq_ediv_of_nonneg h.1
  rw [e]
  omega
set_option maxHeartbeats 400000 in
theorem share_any {k s : Int} {w : World} (k0 : 0 ≤ k) (k1 : k < 4294967296) (s0 : 0 ≤ s) (s1 : s < 4294967296) :
    Calls Tryd.prog 35 #[.int .i64 k, .int .i64 s] w fun e w' => e = .returned (.float .f32 (shF (hq k s))) ∧ w = w' := by
  have HC := Lib.hid (hash_any (w := w) k0 k1 s0 s1)
  obtain ⟨h1, h2⟩ := hq_ok k s
  have hb := hashZ_bd k s
  have S := sh_ok h1
  have hcv : ∀ w' : World, (convert 2 32 (.int .i64 (hq k s : Int))).run Tryd.prog w' = .ok (.float .f32 (floatOfInt .f32 (hq k s : Int))) w' := fun w' => run_convert_int_float w' _ _ _ _ _ (by kernel_rfl) (by kernel_rfl)
  have ha := ar3p S.m 32
  rw [show cTiny = 864026624 from rfl] at ha
  generalize shF (hq k s) = r at ha ⊢
  generalize hq k s = q at h2 hcv ha h1
  generalize floatOfInt .f32 (q : Int) = fq at hcv ha
  have ew : IntKind.i64.wrap (q : Int) = (q : Int) := IntWalk.i64_in _ (by omega)
  generalize hashZ k s = z at HC h2 hb
  clear S
  go_enter Tryd.func35, Tryd.ntmps35
  go_wp2_with fail
  refine HC.out.mono ?_
  rintro e w1 ⟨rfl, rfl⟩
  go_wp2
  go_ret
  exact ⟨rfl, rfl⟩
set_option maxHeartbeats 400000 in
theorem compareN_any {x y : Nat} {w : World} (hx : isN .f32 x) (hy : isN .f32 y) :
    Calls Tryd.prog 37 #[.float .f32 x, .float .f32 y] w fun e w' => e = .returned (.int .i64 (cmp3 (-(keyF y)) (-(keyF x)))) ∧ w = w' := by
  have o1 := order_val hx hy
  have o2 : FloatKind.f32.format.order x y = some (if val .f32 x < val .f32 y then .lt else if val .f32 x = val .f32 y then .eq else .gt) := o1
  obtain ⟨res, hres⟩ : ∃ r, cmp3 (-(keyF y)) (-(keyF x)) = r := ⟨_, rfl⟩
  rw [hres]
  by_cases h1 : val .f32 x < val .f32 y
  · have hk := (keyF_lt hx hy).1 h1
    rw [if_pos h1] at o2
    have hr : res = -1 := by rw [← hres]; unfold cmp3; rw [if_pos (by omega)]
    subst hr
    clear hres o1 h1 hk hx hy
    go_enter Tryd.func37, Tryd.ntmps37
    go_wp2
    go_ret
    exact ⟨rfl, rfl⟩
  · have hk : ¬ keyF x < keyF y := fun h => h1 ((keyF_lt hx hy).2 h)
    rw [if_neg h1] at o2
    by_cases h2 : val .f32 x = val .f32 y
    · have hk2 : ¬ keyF y < keyF x := fun h => by have := (keyF_lt hy hx).2 h; grind
      rw [if_pos h2] at o2
      have hr : res = 0 := by rw [← hres]; unfold cmp3; rw [if_neg (by omega), if_neg (by omega)]
      subst hr
      clear hres o1 h1 h2 hk hk2 hx hy
      go_enter Tryd.func37, Tryd.ntmps37
      go_wp2
      go_ret
      exact ⟨rfl, rfl⟩
    · have hk2 : keyF y < keyF x := (keyF_lt hy hx).1 (by grind)
      rw [if_neg h2] at o2
      have hr : res = 1 := by rw [← hres]; unfold cmp3; rw [if_neg (by omega), if_pos (by omega)]
      subst hr
      clear hres o1 h1 h2 hk hk2 hx hy
      go_enter Tryd.func37, Tryd.ntmps37
      go_wp2
      go_ret
      exact ⟨rfl, rfl⟩

end Go.Proofs.YtncbkbfkdgggkaaDoor

namespace Go.Proofs.YtncbkbfkdgggkaaDoor
open Go.RowKit

/-- The best one so far, -1 if there is none. -/
def tbI (h : Nat → Int) : Nat → Int
  | 0 => -1
  | k + 1 => (bst h k : Int)
theorem tb_step (h : Nat → Int) (k : Nat) : (k = 0 ∧ tbI h k = -1 ∧ tbI h (k + 1) = (k : Int)) ∨ ∃ p, p < k ∧ tbI h k = (p : Int) ∧ tbI h (k + 1) = if h k < h p then (k : Int) else (p : Int) := by
  cases k with
  | zero => exact .inl ⟨rfl, rfl, rfl⟩
  | succ j =>
    refine .inr ⟨bst h j, by have := (bst_ok h j).1; omega, rfl, ?_⟩
    show ((if h (j + 1) < h (bst h j) then j + 1 else bst h j : Nat) : Int) = _
    by_cases g : h (j + 1) < h (bst h j)
    · rw [if_pos g, if_pos g]
    · rw [if_neg g, if_neg g]
theorem tb_len {n : Nat} : ((n : Int) != (n : Int)) = false := by simp
set_option maxRecDepth 20000 in
set_option maxHeartbeats 2000000 in
theorem timeSample_yes {a b : Option Addr} {c d n : Nat} {ts ks : List Int} {t L s : Int} {w : World} (hr : Rd (Value.int .i64) w a c ts) (hr2 : Rd (Value.int .i64) w b d ks) (hl : ts.length = n) (hl2 : ks.length = n) (h1 : 1 ≤ n) (hn : n ≤ 128) (hk : keysB ks = true) (hs : isKey s = true)
    (hT : (List.range n).all (timeOk ts) = true) (ht : 0 ≤ t ∧ t ≤ 1000000) (hL : 1 ≤ L ∧ L ≤ 1000000) (hin : ∀ j, j < n → t - L < at0 ts j ∧ at0 ts j ≤ t) :
    Calls Tryd.prog 13 #[.slice a n c, .slice b n d, .int .i64 t, .int .i64 L, .int .i64 s] w fun e w' => e = .returned (.tuple #[.int .i64 (at0 ks (bst (fun i => hashZ (at0 ks i) s) (n - 1))), .bool true]) ∧ Below w.heap.size w w' := by
  have hA := areStreamKeys_any hr2
  rw [hl2, hk, (inR_eq _ _ _).2 ⟨by omega, by omega⟩] at hA
  have hB : ∀ w1 : World, Below w.heap.size w w1 → Calls Tryd.prog 42 #[.slice a n c] w1 fun e w' => e = .returned (.bool true) ∧ Below w1.heap.size w1 w' := fun w1 hb => by
    have h := areTimes_any (hr.below hb (Nat.le_refl _))
    rw [hl, hT] at h
    exact h
  obtain ⟨res, hres⟩ : ∃ r, at0 ks (bst (fun i => hashZ (at0 ks i) s) (n - 1)) = r := ⟨_, rfl⟩
  rw [hres]
  have HRES := Lib.hid hres
  clear hres
  have HA := Lib.hid hA
  have HBT := Lib.hid hB
  have HR := Lib.hid (And.intro hr hl)
  have HR2 := Lib.hid (And.intro hr2 (And.intro hl2 hk))
  have HIN := Lib.hid hin
  have hsb := key_bd hs
  have i1 : inR t 0 1000000 = true := (inR_eq _ _ _).2 ht
  have i2 : inR L 1 1000000 = true := (inR_eq _ _ _).2 hL
  have hne := tb_len (n := n)
  have ewl : IntKind.i64.wrap (t - L) = t - L := IntWalk.i64_in _ (by omega)
  clear hr hr2 hl hl2 hk hT hin hA hB
  go_enter Tryd.func13, Tryd.ntmps13
  go_wp2_with fail
  refine HA.out.mono ?_
  rintro e w1 ⟨rfl, hb1⟩
  have B1 := Lib.hid hb1
  clear hb1 HA
  go_wp2_with fail
  refine (HBT.out _ B1.out).mono ?_
  rintro e w2 ⟨rfl, hb2⟩
  have B2 := Lib.hid (B1.out.trans (hb2.mono B1.out.size))
  clear hb2 B1 HBT
  go_wp2_with fail
  refine isTime_any.mono ?_
  rintro e w3 ⟨rfl, rfl⟩
  rw [i1]
  go_wp2_with fail
  refine (within_any _ _ _ _).mono ?_
  rintro e w3 ⟨rfl, rfl⟩
  rw [i2]
  go_wp2_with fail
  refine implIsKey_any.mono ?_
  rintro e w3 ⟨rfl, rfl⟩
  rw [hs]
  go_wp2_with fail
  go_loopw [12, 47] (fun b i wr => ∃ (k : Nat), k ≤ n ∧ i = .int .i64 k ∧ b = .int .i64 (tbI (fun i => hashZ (at0 ks i) s) k) ∧ Hid (Below w.heap.size w wr)) (fun _ i _ => n - (intOf i).toNat)
  case atStart => exact ⟨0, Nat.zero_le _, rfl, rfl, B2⟩
  case round =>
    clear B2
    obtain ⟨k, hkn, rfl, rfl, HB⟩ := hrel
    by_cases hlt : k < n
    · have hlz : (k : Int) < (n : Int) := by omega
      have hr1 := HR.out.1.below HB.out (Nat.le_refl _)
      have hr3 := HR2.out.1.below HB.out (Nat.le_refl _)
      have hix := fun w' : World => hr1.idx und_is siz_is w' k (by rw [HR.out.2]; exact hlt)
      rw [HR.out.2] at hix
      obtain ⟨x, hx⟩ : ∃ x, at0 ts k = x := ⟨_, rfl⟩
      have hcx := at0_cell hr1 (show k < ts.length by rw [HR.out.2]; exact hlt) hx
      have hxb := HIN.out k hlt
      rw [hx] at hxb
      obtain ⟨hx1, hx2⟩ := hxb
      have ewk : IntKind.i64.wrap ((k : Int) + 1) = (k : Int) + 1 := IntWalk.i64_in _ (by omega)
      clear hx
      rcases tb_step (fun i => hashZ (at0 ks i) s) k with ⟨hk0, e0, e1⟩ | ⟨p, hpk, e0, e1⟩
      · have HN := Lib.hid e1
        rw [e0]
        have hm1 : (-1 : Int) < 0 := by omega
        clear hr1 hr3 e0 e1 hk0
        go_wp2_with fail
        go_quiet (fail)
        go_wp2
        go_roundw
        case rel => exact ⟨k + 1, by omega, by go_num, by rw [HN.out], Lib.hid (HB.out.trans (below_of_drewN _ _ _))⟩
        case measure => simp [intOf]; omega
      · rw [e0]
        have hp0 : ¬ ((p : Int) < 0) := by omega
        have hk1 := keys_at HR2.out.2.2 (show k < ks.length by rw [HR2.out.2.1]; exact hlt)
        have hk2 := keys_at HR2.out.2.2 (show p < ks.length by rw [HR2.out.2.1]; omega)
        have hiy := fun w' : World => hr3.idx und_is siz_is w' k (by rw [HR2.out.2.1]; exact hlt)
        have hiz := fun w' : World => hr3.idx und_is siz_is w' p (by rw [HR2.out.2.1]; omega)
        rw [HR2.out.2.1] at hiy hiz
        obtain ⟨y, hy⟩ : ∃ y, at0 ks k = y := ⟨_, rfl⟩
        obtain ⟨z, hz⟩ : ∃ z, at0 ks p = z := ⟨_, rfl⟩
        have hcy := at0_cell hr3 (show k < ks.length by rw [HR2.out.2.1]; exact hlt) hy
        have hcz := at0_cell hr3 (show p < ks.length by rw [HR2.out.2.1]; omega) hz
        rw [hy] at hk1 e1
        rw [hz] at hk2 e1
        have HC1 : Hid (∀ (w : World) (m : Nat), Calls Tryd.prog 30 #[.int .i64 y, .int .i64 s] (w.drewN m) fun e w'' => e = .returned (.int .i64 (hashZ y s)) ∧ ∃ q, w'' = w.drewN q) := Lib.hid (fun w m => hash_quiet hk1.1 hk1.2 hsb.1 hsb.2)
        have HC2 : Hid (∀ (w : World) (m : Nat), Calls Tryd.prog 30 #[.int .i64 z, .int .i64 s] (w.drewN m) fun e w'' => e = .returned (.int .i64 (hashZ z s)) ∧ ∃ q, w'' = w.drewN q) := Lib.hid (fun w m => hash_quiet hk2.1 hk2.2 hsb.1 hsb.2)
        generalize hashZ y s = g1 at HC1 e1
        generalize hashZ z s = g2 at HC2 e1
        clear hr1 hr3 hy hz e0
        by_cases hg : g1 < g2
        · rw [if_pos hg] at e1
          have HN := Lib.hid e1
          clear e1
          go_wp2_with fail
          go_quiet (first | (go_at_call 30; first | with_reducible exact HC1.out _ _ | with_reducible exact HC2.out _ _))
          go_wp2
          go_roundw
          case rel => exact ⟨k + 1, by omega, by go_num, by rw [HN.out], Lib.hid (HB.out.trans (below_of_drewN _ _ _))⟩
          case measure => simp [intOf]; omega
        · rw [if_neg hg] at e1
          have HN := Lib.hid e1
          clear e1
          go_wp2_with fail
          go_quiet (first | (go_at_call 30; first | with_reducible exact HC1.out _ _ | with_reducible exact HC2.out _ _))
          go_wp2
          go_roundw
          case rel => exact ⟨k + 1, by omega, by go_num, by rw [HN.out], Lib.hid (HB.out.trans (below_of_drewN _ _ _))⟩
          case measure => simp [intOf]; omega
    · obtain rfl : k = n := by omega
      have hlz : ¬ (k : Int) < (k : Int) := by omega
      ·
        obtain ⟨p, hp⟩ : ∃ p, bst (fun i => hashZ (at0 ks i) s) (k - 1) = p := ⟨_, rfl⟩
        have hpj : p < k := by have := (bst_ok (fun i => hashZ (at0 ks i) s) (k - 1)).1; omega
        have e2 : tbI (fun i => hashZ (at0 ks i) s) k = (p : Int) := by
          obtain ⟨m, rfl⟩ : ∃ m, k = m + 1 := ⟨k - 1, by omega⟩
          rw [Nat.add_sub_cancel] at hp
          rw [← hp]; rfl
        rw [e2]
        rw [hp] at HRES
        have hp0 : ¬ ((p : Int) < 0) := by omega
        have hr3 := HR2.out.1.below HB.out (Nat.le_refl _)
        have hiz := hr3.idx und_is siz_is wr p (by rw [HR2.out.2.1]; omega)
        rw [HR2.out.2.1] at hiz
        have hcz := at0_cell hr3 (show p < ks.length by rw [HR2.out.2.1]; omega) HRES.out
        clear hr3 hp e2
        go_wp2
        go_ret2
        exact ⟨rfl, HB.out⟩

set_option maxRecDepth 20000 in
set_option maxHeartbeats 2000000 in
theorem timeSample_no {a b : Option Addr} {c d n : Nat} {ts ks : List Int} {t L s : Int} {w : World} (hr : Rd (Value.int .i64) w a c ts) (hr2 : Rd (Value.int .i64) w b d ks) (hl : ts.length = n) (hl2 : ks.length = n) (h1 : 1 ≤ n) (hn : n ≤ 128) (hk : keysB ks = true) (hs : isKey s = true)
    (hT : (List.range n).all (timeOk ts) = true) (ht : 0 ≤ t ∧ t ≤ 1000000) (hL : 1 ≤ L ∧ L ≤ 1000000) (hin : ∀ j, j < n → at0 ts j ≤ t - L) :
    Calls Tryd.prog 13 #[.slice a n c, .slice b n d, .int .i64 t, .int .i64 L, .int .i64 s] w fun e w' => e = .returned (.tuple #[.int .i64 0, .bool false]) ∧ Below w.heap.size w w' := by
  have hA := areStreamKeys_any hr2
  rw [hl2, hk, (inR_eq _ _ _).2 ⟨by omega, by omega⟩] at hA
  have hB : ∀ w1 : World, Below w.heap.size w w1 → Calls Tryd.prog 42 #[.slice a n c] w1 fun e w' => e = .returned (.bool true) ∧ Below w1.heap.size w1 w' := fun w1 hb => by
    have h := areTimes_any (hr.below hb (Nat.le_refl _))
    rw [hl, hT] at h
    exact h
  have HA := Lib.hid hA
  have HBT := Lib.hid hB
  have HR := Lib.hid (And.intro hr hl)
  have HIN := Lib.hid hin
  have i1 : inR t 0 1000000 = true := (inR_eq _ _ _).2 ht
  have i2 : inR L 1 1000000 = true := (inR_eq _ _ _).2 hL
  have hne := tb_len (n := n)
  have ewl : IntKind.i64.wrap (t - L) = t - L := IntWalk.i64_in _ (by omega)
  clear hr hr2 hl hl2 hk hT hin hA hB
  go_enter Tryd.func13, Tryd.ntmps13
  go_wp2_with fail
  refine HA.out.mono ?_
  rintro e w1 ⟨rfl, hb1⟩
  have B1 := Lib.hid hb1
  clear hb1 HA
  go_wp2_with fail
  refine (HBT.out _ B1.out).mono ?_
  rintro e w2 ⟨rfl, hb2⟩
  have B2 := Lib.hid (B1.out.trans (hb2.mono B1.out.size))
  clear hb2 B1 HBT
  go_wp2_with fail
  refine isTime_any.mono ?_
  rintro e w3 ⟨rfl, rfl⟩
  rw [i1]
  go_wp2_with fail
  refine (within_any _ _ _ _).mono ?_
  rintro e w3 ⟨rfl, rfl⟩
  rw [i2]
  go_wp2_with fail
  refine implIsKey_any.mono ?_
  rintro e w3 ⟨rfl, rfl⟩
  rw [hs]
  go_wp2_with fail
  go_loopw [12, 47] (fun b i wr => ∃ (k : Nat), k ≤ n ∧ i = .int .i64 k ∧ b = .int .i64 (-1) ∧ Hid (Below w.heap.size w wr)) (fun _ i _ => n - (intOf i).toNat)
  case atStart => exact ⟨0, Nat.zero_le _, rfl, rfl, B2⟩
  case round =>
    clear B2
    obtain ⟨k, hkn, rfl, rfl, HB⟩ := hrel
    by_cases hlt : k < n
    · have hlz : (k : Int) < (n : Int) := by omega
      have hr1 := HR.out.1.below HB.out (Nat.le_refl _)
      have hix := fun w' : World => hr1.idx und_is siz_is w' k (by rw [HR.out.2]; exact hlt)
      rw [HR.out.2] at hix
      obtain ⟨x, hx⟩ : ∃ x, at0 ts k = x := ⟨_, rfl⟩
      have hcx := at0_cell hr1 (show k < ts.length by rw [HR.out.2]; exact hlt) hx
      have hxb := HIN.out k hlt
      rw [hx] at hxb
      have hx1 : ¬ (t - L < x) := by omega
      have hx1' : decide (t - L < x) = false := decide_eq_false hx1
      have ewk : IntKind.i64.wrap ((k : Int) + 1) = (k : Int) + 1 := IntWalk.i64_in _ (by omega)
      clear hx hr1
      go_wp2_with fail
      go_quiet (fail)
      go_wp2
      go_roundw
      case rel => exact ⟨k + 1, by omega, by go_num, rfl, Lib.hid (HB.out.trans (below_of_drewN _ _ _))⟩
      case measure => simp [intOf]; omega
    · obtain rfl : k = n := by omega
      have hlz : ¬ (k : Int) < (k : Int) := by omega
      have hm1 : (-1 : Int) < 0 := by omega
      go_wp2
      go_ret2
      exact ⟨rfl, HB.out⟩

end Go.Proofs.YtncbkbfkdgggkaaDoor
