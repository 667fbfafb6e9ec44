/- FnPicks: equal lists, different keys, keys that a source draws: walked. FnPicks: keys that a source draws: walked. -/
import Derived.Test.YtncbkbfkdgggkaaDoorQPk42
import Derived.Test.YtncbkbfkdgggkaaDoorQPk49
import Derived.Test.YtncbkbfkdgggkaaDoorQPk14
set_option linter.unusedVariables false
set_option linter.unusedSimpArgs false
namespace Go.Proofs.YtncbkbfkdgggkaaDoor
open Go.RowKit

set_option maxRecDepth 20000 in
set_option maxHeartbeats 1000000 in
theorem r8Same_any {a b : Option Addr} {c d : Nat} {xs : List Int} {w : World} (hr : Rd (Value.int .i64) w a c xs) (hr2 : Rd (Value.int .i64) w b d xs) :
    Calls Tryd.prog 18 #[.slice a xs.length c, .slice b xs.length d] w fun e w' => e = .returned (.bool true) ∧ ∃ q, w' = w.drewN q := by
  have hln := hr.len
  have hne : ((xs.length : Int) != (xs.length : Int)) = false := by simp
  have HR := Lib.hid (And.intro hr hr2)
  clear hr hr2
  go_enter Tryd.func18, Tryd.ntmps18
  go_wp2_with fail
  go_loopw [5] (fun i wr => ∃ k : Nat, k ≤ xs.length ∧ i = .int .i64 k ∧ Hid (∃ q, wr = w.drewN q)) (fun i _ => xs.length - (intOf i).toNat)
  case atStart => exact ⟨0, Nat.zero_le _, rfl, Lib.hid ⟨0, rfl⟩⟩
  case round =>
    obtain ⟨k, hk, rfl, HQ⟩ := hrel
    have hb : Below w.heap.size w wr := by obtain ⟨q, rfl⟩ := HQ.out; exact below_of_drewN _ _ _
    by_cases hlt : k < xs.length
    · have hlz : (k : Int) < (xs.length : Int) := by omega
      have hr1 := HR.out.1.below hb (Nat.le_refl _)
      have hr3 := HR.out.2.below hb (Nat.le_refl _)
      have hix := fun w' : World => hr1.idx und_is siz_is w' k hlt
      have hiy := fun w' : World => hr3.idx und_is siz_is w' k hlt
      obtain ⟨x, hx⟩ : ∃ x, at0 xs k = x := ⟨_, rfl⟩
      have hcx := at0_cell hr1 hlt hx
      have hcy := at0_cell hr3 hlt hx
      have ewk : IntKind.i64.wrap ((k : Int) + 1) = (k : Int) + 1 := IntWalk.i64_in _ (by omega)
      have hxx : (x != x) = false := by simp
      clear hr1 hr3 hx hb
      go_wp2_with fail
      go_quiet (fail)
      go_wp2
      go_roundw
      case rel => exact ⟨k + 1, by omega, by go_num, Lib.hid (by obtain ⟨q, rfl⟩ := HQ.out; exact ⟨q + _, (World.drewN_drewN _ _ _)⟩)⟩
      case measure => simp [intOf]; omega
    · obtain rfl : k = xs.length := by omega
      have hlz : ¬ (xs.length : Int) < (xs.length : Int) := by omega
      go_wp2
      go_ret
      exact ⟨rfl, HQ.out⟩

/-- How many different ones there are among the first k. -/
theorem uniq_take {xs : List Int} {k : Nat} (hk : k < xs.length) : (uniq (xs.take (k + 1))).length = (uniq (xs.take k)).length + if at0 xs k ∈ xs.take k then 0 else 1 := by
  have e : xs.take (k + 1) = xs.take k ++ [at0 xs k] := by
    rw [List.take_add_one, List.getElem?_eq_getElem hk]; unfold at0; rw [List.getElem?_eq_getElem hk]; rfl
  rw [e, uniq_snoc]
  by_cases h : at0 xs k ∈ xs.take k
  · rw [if_pos h, insU_skip (uniq_up _) (uniq_mem.2 h)]; rfl
  · rw [if_neg h]
    have hn : ¬ at0 xs k ∈ uniq (xs.take k) := fun g => h (uniq_mem.1 g)
    generalize at0 xs k = x at hn
    generalize uniq (xs.take k) = ys at hn
    unfold insU
    rw [List.length_append, List.length_cons]
    have : (ys.filter (fun y => decide (y < x))).length + (ys.filter (fun y => decide (x < y))).length = ys.length := by
      clear h e hk
      induction ys with
      | nil => rfl
      | cons y l ih =>
        have h1 : y ≠ x := fun g => hn (by rw [g]; exact List.mem_cons_self)
        have h2 := ih (fun g => hn (List.mem_cons_of_mem _ g))
        rw [List.filter_cons, List.filter_cons]
        by_cases h3 : y < x
        · rw [if_pos (by simpa using h3), if_neg (by simp; omega)]
          simp only [List.length_cons]; omega
        · rw [if_neg (by simpa using h3), if_pos (by simp; omega)]
          simp only [List.length_cons]; omega
    omega
set_option maxRecDepth 20000 in
set_option maxHeartbeats 2000000 in
theorem r8Distinct_any {a : Option Addr} {c : Nat} {xs : List Int} {w : World} (hr : Rd (Value.int .i64) w a c xs) :
    Calls Tryd.prog 19 #[.slice a xs.length c] w fun e w' => e = .returned (.int .i64 ((uniq xs).length : Int)) ∧ ∃ q, w' = w.drewN q := by
  have hln := hr.len
  have hcap := hr.cap
  have hmx := hr.max
  have HR := Lib.hid hr
  clear hr
  obtain ⟨res, hres⟩ : ∃ r, (uniq xs).length = r := ⟨_, rfl⟩
  rw [hres]
  have HRES := Lib.hid hres
  clear hres
  go_enter Tryd.func19, Tryd.ntmps19
  go_wp2_with fail
  go_loopw [3, 4] (fun nv i wr => ∃ k m : Nat, k ≤ xs.length ∧ m ≤ k ∧ i = .int .i64 k ∧ nv = .int .i64 m ∧ Hid ((uniq (xs.take k)).length = m) ∧ Hid (∃ q, wr = w.drewN q)) (fun _ i _ => xs.length - (intOf i).toNat)
  case atStart => exact ⟨0, 0, Nat.zero_le _, Nat.le_refl _, rfl, rfl, Lib.hid rfl, Lib.hid ⟨0, rfl⟩⟩
  case round =>
    obtain ⟨k, m, hk, hmk, rfl, rfl, HM, HQ⟩ := hrel
    by_cases hlt : k < xs.length
    · have hlz : (k : Int) < (xs.length : Int) := by omega
      obtain ⟨wo, rfl⟩ : ∃ z : World, z = wr := ⟨_, rfl⟩
      obtain ⟨x, hx⟩ : ∃ x, at0 xs k = x := ⟨_, rfl⟩
      have HX := Lib.hid hx
      clear hx
      go_wp2_with fail
      go_loopw [5, 6] (fun bv j wr => ∃ (l : Nat) (bb : Bool), l ≤ k ∧ j = .int .i64 l ∧ bv = .bool bb ∧ Hid (bb = !decide (x ∈ xs.take l)) ∧ Hid (∃ q, wr = w.drewN q)) (fun _ j _ => k - (intOf j).toNat)
      case atStart => exact ⟨0, true, Nat.zero_le _, rfl, rfl, Lib.hid (by simp), HQ⟩
      case round =>
        obtain ⟨l, bb, hl, rfl, rfl, HBB, HQ2⟩ := hrel
        have hb : Below w.heap.size w wr := by obtain ⟨q, rfl⟩ := HQ2.out; exact below_of_drewN _ _ _
        by_cases hlt2 : l < k
        · have hlz2 : (l : Int) < (k : Int) := by omega
          have hr1 := HR.out.below hb (Nat.le_refl _)
          have hix := fun w' : World => hr1.idx und_is siz_is w' l (by omega)
          have hiy := fun w' : World => hr1.idx und_is siz_is w' k hlt
          obtain ⟨y, hy⟩ : ∃ y, at0 xs l = y := ⟨_, rfl⟩
          have hcx := at0_cell hr1 (show l < xs.length by omega) hy
          have hcy := at0_cell hr1 hlt HX.out
          have ewk : IntKind.i64.wrap ((l : Int) + 1) = (l : Int) + 1 := IntWalk.i64_in _ (by omega)
          have HN : Hid ((bb && (y != x)) = !decide (x ∈ xs.take (l + 1))) := Lib.hid (by
            rw [HBB.out]
            have e : xs.take (l + 1) = xs.take l ++ [y] := by
              rw [List.take_add_one, List.getElem?_eq_getElem (show l < xs.length by omega), ← hy]; unfold at0; rw [List.getElem?_eq_getElem (show l < xs.length by omega)]; rfl
            rw [e]
            by_cases h1 : x ∈ xs.take l
            · simp [h1]
            · by_cases h2 : y = x
              · simp [h1, h2]
              · have h3 : ¬ x = y := fun g => h2 g.symm
                simp [h1, h2, h3])
          clear hr1 hy hb
          cases bb with
          | false =>
            have HN2 : Hid (false = !decide (x ∈ xs.take (l + 1))) := Lib.hid (by rw [← HN.out]; rfl)
            go_wp2_with fail
            go_quiet (fail)
            go_wp2
            go_roundw
            case rel => exact ⟨l + 1, false, by omega, by go_num, rfl, HN2, Lib.hid (by obtain ⟨q, rfl⟩ := HQ2.out; exact ⟨q + _, (World.drewN_drewN _ _ _)⟩)⟩
            case measure => simp [intOf]; omega
          | true =>
            cases hyx : (y != x) with
            | false =>
              have HN2 : Hid (false = !decide (x ∈ xs.take (l + 1))) := Lib.hid (by rw [← HN.out, hyx]; rfl)
              go_wp2_with fail
              go_quiet (fail)
              go_wp2
              go_roundw
              case rel => exact ⟨l + 1, false, by omega, by go_num, rfl, HN2, Lib.hid (by obtain ⟨q, rfl⟩ := HQ2.out; exact ⟨q + _, (World.drewN_drewN _ _ _)⟩)⟩
              case measure => simp [intOf]; omega
            | true =>
              have HN2 : Hid (true = !decide (x ∈ xs.take (l + 1))) := Lib.hid (by rw [← HN.out, hyx]; rfl)
              go_wp2_with fail
              go_quiet (fail)
              go_wp2
              go_roundw
              case rel => exact ⟨l + 1, true, by omega, by go_num, rfl, HN2, Lib.hid (by obtain ⟨q, rfl⟩ := HQ2.out; exact ⟨q + _, (World.drewN_drewN _ _ _)⟩)⟩
              case measure => simp [intOf]; omega
        · obtain rfl : l = k := by omega
          have hlz2 : ¬ (l : Int) < (l : Int) := by omega
          have ewk : IntKind.i64.wrap ((l : Int) + 1) = (l : Int) + 1 := IntWalk.i64_in _ (by omega)
          have ewm : IntKind.i64.wrap ((m : Int) + 1) = (m : Int) + 1 := IntWalk.i64_in _ (by omega)
          have hu := uniq_take hlt
          rw [HX.out, HM.out] at hu
          have HB2 := HBB.out
          cases bb with
          | false =>
            have h1 : x ∈ xs.take l := by simpa using HB2
            rw [if_pos h1] at hu
            have HU := Lib.hid hu
            clear hu HB2 h1
            go_wp2
            go_roundw
            case rel => exact ⟨l + 1, m, by omega, by omega, by go_num, rfl, Lib.hid (by have := HU.out; omega), HQ2⟩
            case measure => simp [intOf]; omega
          | true =>
            have h1 : ¬ x ∈ xs.take l := by simpa using HB2
            rw [if_neg h1] at hu
            have HU := Lib.hid hu
            clear hu HB2 h1
            go_wp2
            go_roundw
            case rel => exact ⟨l + 1, m + 1, by omega, by omega, by go_num, by go_num, Lib.hid (by have := HU.out; omega), HQ2⟩
            case measure => simp [intOf]; omega
    · obtain rfl : k = xs.length := by omega
      have hlz : ¬ (xs.length : Int) < (xs.length : Int) := by omega
      have HM2 := HM.out
      rw [List.take_length, HRES.out] at HM2
      subst HM2
      go_wp2
      go_ret
      exact ⟨rfl, HQ.out⟩

end Go.Proofs.YtncbkbfkdgggkaaDoor

namespace Go.Proofs.YtncbkbfkdgggkaaDoor
open Go.RowKit

set_option maxHeartbeats 1000000 in
theorem pickBig_any {w : World} {b : Nat} {a : Option Addr} {c : Nat} {xs : List Int} {k : Nat} (h : Src w b a c xs k) (hk : k ≤ 1099511627000) :
    Calls Tryd.prog 22 #[.pointer (some ⟨b, 0, none⟩), .int .i64 4294967296] w fun e w' => ∃ v : Nat, e = .returned (.int .i64 (v : Int)) ∧ v < 65536 ∧ Src w' b a c xs (k + 2) ∧ w.grownBy w' (some b) := by
  have H := Lib.hid h
  clear h
  go_enter Tryd.func22, Tryd.ntmps22
  go_wp2_with fail
  refine (next_any H.out (by omega)).mono ?_
  rintro e w1 ⟨v, rfl, hv, hs, hg⟩
  have HS := Lib.hid hs
  have HG := Lib.hid hg
  clear hs hg H
  go_wp2_with fail
  refine (next_any HS.out (by omega)).mono ?_
  rintro e w2 ⟨u, rfl, hu, hs2, hg2⟩
  have HS2 := Lib.hid hs2
  have HG2 := Lib.hid (HG.out.trans hg2)
  clear hs2 hg2 HS HG
  have e1 : IntKind.i64.wrap ((v : Int) * 256) = (v : Int) * 256 := IntWalk.i64_in _ (by omega)
  have e2 : IntKind.i64.wrap ((v : Int) * 256 + (u : Int)) = (v : Int) * 256 + (u : Int) := IntWalk.i64_in _ (by omega)
  have e3 : ((v : Int) * 256 + (u : Int)).tmod 4294967296 = ((v * 256 + u : Nat) : Int) := by
    rw [Int.tmod_eq_emod_of_nonneg (by omega)]; omega
  have e4 : IntKind.i64.wrap ((v * 256 + u : Nat) : Int) = ((v * 256 + u : Nat) : Int) := IntWalk.i64_in _ (by omega)
  go_wp2
  go_ret
  exact ⟨v * 256 + u, ret_int (by first | rfl | exact e3), by omega, HS2.out, HG2.out⟩
set_option maxHeartbeats 1000000 in
theorem one_any {w : World} {b : Nat} {a : Option Addr} {c : Nat} {xs : List Int} {k : Nat} (h : Src w b a c xs k) (hk : k ≤ 1099511627000) :
    Calls Tryd.prog 23 #[.pointer (some ⟨b, 0, none⟩), .int .i64 3] w fun e w' => ∃ v : Bool, e = .returned (.bool v) ∧ Src w' b a c xs (k + 1) ∧ w.grownBy w' (some b) := by
  have H := Lib.hid h
  clear h
  go_enter Tryd.func23, Tryd.ntmps23
  go_wp2_with fail
  refine (pick_any (n := 3) H.out (by omega) (by omega) (by omega)).mono ?_
  rintro e w1 ⟨v, rfl, hv, hs, hg⟩
  have HS := Lib.hid (And.intro hs hg)
  clear hs hg H
  go_wp2
  go_ret
  exact ⟨_, rfl, HS.out⟩

set_option maxRecDepth 20000 in
set_option maxHeartbeats 4000000 in
theorem r8Keys_any {a : Option Addr} {c : Nat} {xs : List Int} {n : Nat} {w : World} (hr : Rd (Value.int .u8) w a c xs) (hb : ∀ x ∈ xs, 0 ≤ x ∧ x < 256) (hn : n ≤ 1024) :
    Calls Tryd.prog 6 #[.slice a xs.length c, .int .i64 (n : Int)] w fun e w' => ∃ a' c' zs, e = .returned (.slice a' n c') ∧ zs.length = n ∧ (∀ z ∈ zs, 0 ≤ z ∧ z < 65536) ∧ Own (Value.int .i64) 2 w' w.heap.size a' c' zs ∧ Below w.heap.size w w' := by
  have HS := Lib.hid (src_new hr hb)
  have HH : Hid (0 < xs.length → ∀ p, a = some p → p.block < w.heap.size) := Lib.hid (fun h0 p hp => by obtain ⟨g, o, e, hlt⟩ := hr.here h0; rw [e] at hp; simp at hp; subst hp; exact hlt)
  have HB0 := Lib.hid ((Below.refl w.heap.size w).alloc (Nat.le_refl _) (.cells #[.slice a xs.length c, .int .i64 0, .int .u64 0] 76))
  have hsz : (w.alloc (.cells #[.slice a xs.length c, .int .i64 0, .int .u64 0] 76)).heap.size = w.heap.size + 1 := Array.size_push _
  clear hr hb
  go_enter Tryd.func6, Tryd.ntmps6
  go_wp2_with fail
  refine l00From_any.mono ?_
  rintro e w1 ⟨rfl, rfl⟩
  generalize w.alloc (.cells #[.slice a xs.length c, .int .i64 0, .int .u64 0] 76) = w1 at *
  have HE := Lib.hid (own_empty (f := Value.int .i64) (e := 2) (α := Int) w1 (by_ := 0) (w.heap.size + 1) (by omega) rfl)
  have HB1 := Lib.hid (HB0.out.alloc (by omega) (.cells #[] 2))
  have HS1 := Lib.hid (HS.out.below ((Below.refl w1.heap.size w1).alloc (Nat.le_refl _) (.cells #[] 2)) (Nat.le_refl _))
  clear HS HB0 hsz
  go_wp2_with fail
  go_loopw [1, 6] (fun nv ov wr => ∃ (k : Nat) (b : Option Addr) (cc : Nat) (zs : List Int), k ≤ n ∧ nv = .int .i64 ((n - k : Nat) : Int) ∧ ov = .slice b k cc ∧ zs.length = k ∧ Hid (∀ z ∈ zs, 0 ≤ z ∧ z < 65536) ∧ Hid (Own (Value.int .i64) 2 wr (w.heap.size + 1) b cc zs) ∧ Hid (Src wr w.heap.size a c xs (4 * k)) ∧ Hid (Below w.heap.size w wr)) (fun nv _ _ => (intOf nv).toNat)
  case atStart => exact ⟨0, _, _, [], by omega, rfl, rfl, rfl, Lib.hid (by simp), HE, HS1, HB1⟩
  case round =>
    clear HE HB1 HS1
    obtain ⟨k, b, cc, zs, hk, rfl, rfl, hzl, HZ, HO, HS, HB⟩ := hrel
    by_cases hlt : k < n
    · obtain ⟨wi, rfl⟩ : ∃ wi : World, wi = wr := ⟨_, rfl⟩
      have z1 : (0 : Int) < ((n - k : Nat) : Int) := by omega
      have ewn : IntKind.i64.wrap (((n - k : Nat) : Int) - 1) = ((n - (k + 1) : Nat) : Int) := by rw [IntWalk.i64_in _ (by omega)]; omega
      subst hzl
      go_wp2_with fail
      refine (pick_any (n := 30) HS.out (by omega) (by omega) (by omega)).mono ?_
      rintro e w2 ⟨v0, rfl, hv0, hs2, hg2⟩
      have HO2 := Lib.hid (HO.out.kept hg2 (fun g hg p hp => by
        have h1 := HO.out.blk p hp
        simp only [Option.some.injEq] at hg
        omega))
      have HB2 := Lib.hid (HB.out.grown hg2 HB.out.size (fun k hk => by simp only [Option.some.injEq] at hk; omega))
      have HS2 := Lib.hid hs2
      clear hs2 hg2 HO HB HS
      go_wp2_with fail
      refine (one_any HS2.out (by omega)).mono ?_
      rintro e w3 ⟨ob, rfl, hs3, hg3⟩
      have HO3 := Lib.hid (HO2.out.kept hg3 (fun g hg p hp => by
        have h1 := HO2.out.blk p hp
        simp only [Option.some.injEq] at hg
        omega))
      have HB3 := Lib.hid (HB2.out.grown hg3 HB2.out.size (fun k hk => by simp only [Option.some.injEq] at hk; omega))
      have HS3 := Lib.hid hs3
      clear hs3 hg3 HO2 HB2 HS2
      cases ob with
      | false =>
        have hz2 : w.heap.size + 1 ≤ w3.heap.size := by have := HS3.out.lt; omega
        go_wp2_with (at_builtin; refine wpl_append1 (f := Value.int .i64) (d := 0) (base := w.heap.size + 1) und_ise info_i (fun _ => rfl) (v0 : Int) HO3.out rfl _ _ rfl rfl rfl (by omega) (by omega) hz2 ?_; intro a4 c4 w4 ho4 hg4)
        have HS4 := Lib.hid (HS3.out.kept hg4 (by
          intro e
          cases b with
          | none => simp at e
          | some p =>
            have h1 := HO3.out.blk p rfl
            simp only [Option.map_some, Option.some.injEq] at e
            omega) (by
          intro h0 p hp e
          have h2 := HH.out h0 p hp
          cases b with
          | none => simp at e
          | some q =>
            have h1 := HO3.out.blk q rfl
            simp only [Option.map_some, Option.some.injEq] at e
            omega))
        have HB4 := Lib.hid (HB3.out.trans (grown_belowOwn HO3.out hg4 (by omega) (by omega)))
        have HO4 := Lib.hid ho4
        clear ho4 hg4 HS3 HB3 HO3
        go_roundw
        case rel =>
          refine ⟨zs.length + 1, a4, c4, zs ++ [(v0 : Int)], by omega, by first | rfl | (congr 1), by simp, by simp, Lib.hid (fun z hz => ?_), HO4, Lib.hid (HS4.out.mono (by omega)), HB4⟩
          rcases List.mem_append.1 hz with h | h
          · exact HZ.out z h
          · simp at h; omega
        case measure => simp [intOf]; omega
      | true =>
        go_wp2_with fail
        refine (pickBig_any HS3.out (by omega)).mono ?_
        rintro e w5 ⟨v1, rfl, hv1, hs5, hg5⟩
        have HO5 := Lib.hid (HO3.out.kept hg5 (fun g hg p hp => by
          have h1 := HO3.out.blk p hp
          simp only [Option.some.injEq] at hg
          omega))
        have HB5 := Lib.hid (HB3.out.grown hg5 HB3.out.size (fun k hk => by simp only [Option.some.injEq] at hk; omega))
        have HS5 := Lib.hid hs5
        clear hs5 hg5 HO3 HB3 HS3
        have hz2 : w.heap.size + 1 ≤ w5.heap.size := by have := HS5.out.lt; omega
        go_wp2_with (at_builtin; refine wpl_append1 (f := Value.int .i64) (d := 0) (base := w.heap.size + 1) und_ise info_i (fun _ => rfl) (v1 : Int) HO5.out rfl _ _ rfl rfl rfl (by omega) (by omega) hz2 ?_; intro a4 c4 w4 ho4 hg4)
        have HS4 := Lib.hid (HS5.out.kept hg4 (by
          intro e
          cases b with
          | none => simp at e
          | some p =>
            have h1 := HO5.out.blk p rfl
            simp only [Option.map_some, Option.some.injEq] at e
            omega) (by
          intro h0 p hp e
          have h2 := HH.out h0 p hp
          cases b with
          | none => simp at e
          | some q =>
            have h1 := HO5.out.blk q rfl
            simp only [Option.map_some, Option.some.injEq] at e
            omega))
        have HB4 := Lib.hid (HB5.out.trans (grown_belowOwn HO5.out hg4 (by omega) (by omega)))
        have HO4 := Lib.hid ho4
        clear ho4 hg4 HS5 HB5 HO5
        go_roundw
        case rel =>
          refine ⟨zs.length + 1, a4, c4, zs ++ [(v1 : Int)], by omega, by first | rfl | (congr 1), by simp, by simp, Lib.hid (fun z hz => ?_), HO4, Lib.hid (HS4.out.mono (by omega)), HB4⟩
          rcases List.mem_append.1 hz with h | h
          · exact HZ.out z h
          · simp at h; omega
        case measure => simp [intOf]; omega
    · obtain rfl : k = n := by omega
      have z1 : ¬ (0 : Int) < ((k - k : Nat) : Int) := by omega
      go_wp2
      go_ret
      exact ⟨b, cc, rfl, zs, hzl, HZ.out, HO.out.mono (by omega), HB.out⟩

end Go.Proofs.YtncbkbfkdgggkaaDoor
