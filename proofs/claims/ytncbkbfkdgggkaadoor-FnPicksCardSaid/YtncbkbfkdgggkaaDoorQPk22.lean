/- slices.Compact of a list in ascending order, slices.DeleteFunc, at []int64, on a list of the call's own. -/
import Derived.Test.YtncbkbfkdgggkaaDoorQPk14
import Derived.Test.YtncbkbfkdgggkaaDoorQPk13
import Derived.Test.YtncbkbfkdgggkaaDoorQPk4
set_option linter.unusedVariables false
set_option linter.unusedSimpArgs false
namespace Go.Proofs.YtncbkbfkdgggkaaDoor
open Go.RowKit

theorem Own.pokes {α : Type} {f : α → Value} {e : TypeId} {base g c : Nat} {xs : List α} (vs : List Value) : ∀ {w : World} (_ : Own f e w base (some ⟨g, 0, none⟩) c xs) (k : Nat) (_ : xs.length ≤ k),
    Own f e (w.setCells g k vs) base (some ⟨g, 0, none⟩) c xs ∧ w.grownBy (w.setCells g k vs) (some g) := by
  induction vs with
  | nil => intro w h k _; exact ⟨h, World.grownBy.refl _ _⟩
  | cons v vs ih =>
    intro w h k hk
    have h1 := h.poke k hk v
    have h2 := ih h1.1 (k + 1) (by omega)
    exact ⟨h2.1, grown_trans h1.2 h2.2⟩

/-- 'clear(s[k:])' behind the list's end. -/
theorem clear_from {w : World} {base g c n k : Nat} {ys : List Int} (ho : Own (Value.int .i64) 2 w base (some ⟨g, 0, none⟩) c ys) (hl : ys.length = k) (hk : k < n) (hc : n ≤ c) :
    ∃ w2, (∀ ty, (Builtin.clear_ #[25] ty #[.slice (some ⟨g, k, none⟩) (n - k) (c - k)]).run Tryd.prog w = .ok (.tuple #[]) w2) ∧ Own (Value.int .i64) 2 w2 base (some ⟨g, 0, none⟩) c ys ∧ w.grownBy w2 (some g) := by
  have hp := ho.pokes (List.replicate (n - k) (.int .i64 0)) k (by omega)
  refine ⟨w.setCells g k (List.replicate (n - k) (.int .i64 0)), fun ty => ?_, hp.1, hp.2⟩
  have hsh : ∃ cur, w.heap[g]? = some (.cells cur 2 (0, 0)) ∧ cur.size = c := by
    rcases ho.shape with ⟨h, _⟩ | ⟨g', h, _, _, _, _, cur, h2, h3, _⟩
    · simp at h
    · simp at h; subst h; exact ⟨cur, h2, h3⟩
  obtain ⟨cur, hg, hs⟩ := hsh
  exact Lib.run_clear_slice (P := Tryd.prog) w 25 2 ty (.int .i64 0) und_ise zero_i rfl rfl g k (n - k) (c - k) (by omega)
    (fun j hj => by rw [cell_of_row w g (k + j) cur _ (0, 0) hg, Array.getElem?_eq_getElem (by omega)]; rfl)
    (fun j hj => frozen_of_row w g _ cur _ hg)

/-- A list cut to its beginning. -/
theorem Own.cutTo {α : Type} {f : α → Value} {e : TypeId} {w : World} {base : Nat} {a : Option Addr} {c : Nat} {xs ys : List α} (h : Own f e w base a c xs) (hl : ys.length ≤ xs.length) (hy : xs.take ys.length = ys) : Own f e w base a c ys := by
  unfold Own
  have := h.pre hl
  rwa [hy] at this

theorem below_grown {w w' : World} (hb : Below w.heap.size w w') (row : Option Nat) : w.grownBy w' row := ⟨hb.os, hb.tape, hb.output, hb.size, fun k hk _ => hb.block k hk⟩

theorem cmpU_one {xs : List Int} {k : Nat} (h : uniq (xs.take k) = xs.take k) (hk : k ≤ xs.length) : cmpU xs k = xs := by
  unfold cmpU
  rw [h, List.length_take, Nat.min_eq_left hk, List.take_append_drop]
theorem eqb_at0 {xs : List Int} {p q : Nat} {x y : Int} (hx : at0 xs p = x) (hy : at0 xs q = y) : (x == y) = decide (at0 xs p = at0 xs q) := by
  rw [hx, hy]
  by_cases h : x = y
  · simp [h]
  · simp [h]

theorem own_at {w : World} {base g c : Nat} {ys : List Int} (ho : Own (Value.int .i64) 2 w base (some ⟨g, 0, none⟩) c ys) {p : Nat} (hp : p < ys.length) {x : Int} (hx : at0 ys p = x) : w.cell? ⟨g, p, none⟩ = some (.int .i64 x) := by
  have := ho.rd.cell p hp
  rw [elt_some, Nat.zero_add] at this
  rw [this, ← hx]
  rfl
theorem idx_off {P : Program} {T : TypeId} (hT : P.underlying T = some (.slice (P.elem T))) (hs : ∀ w, (sizeOf (P.elem T)).run P w = .ok 1 w) {g o n c k : Nat} (hk : k < n) (i : Int) (hi : i = k) :
    ∀ w' : World, (Instr.indexAt T (.slice (some ⟨g, o, none⟩) n c) (.int .i64 i)).run P w' = .ok (.pointer (some ⟨g, o + k, none⟩)) w' := by
  subst hi
  intro w'
  have := idx_run (P := P) (T := T) (a := some ⟨g, o, none⟩) (n := n) (c := c) hT hs (fun _ => ⟨_, _, rfl⟩) w' k hk
  rw [elt_some] at this
  exact this

set_option maxRecDepth 8000 in
set_option maxHeartbeats 2000000 in
theorem compact_own {w : World} {base : Nat} {a : Option Addr} {c : Nat} {xs : List Int} (ho : Own (Value.int .i64) 2 w base a c xs) (hm : xs.length ≤ 1048576) (hs : xs.Pairwise (· ≤ ·)) :
    Calls Tryd.prog 77 #[.slice a xs.length c] w fun e w' => e = .returned (.slice a (uniq xs).length c) ∧ Own (Value.int .i64) 2 w' base a c (uniq xs) ∧ w.grownBy w' (a.map (·.block)) := by
  by_cases h2 : xs.length < 2
  · have he : uniq xs = xs := by
      have := uniq_self (xs := xs) (n := xs.length) hs (Nat.le_refl _) (fun j h1 h3 => by omega)
      rwa [List.take_length] at this
    rw [he]
    have hd : decide ((xs.length : Int) < 2) = true := decide_eq_true (by omega)
    go_enter Tryd.func77, Tryd.ntmps77
    go_wp2
    go_ret
    exact ⟨rfl, ho, World.grownBy.refl _ _⟩
  · have hd : decide ((xs.length : Int) < 2) = false := decide_eq_false (by omega)
    obtain ⟨g, rfl⟩ : ∃ g, a = some ⟨g, 0, none⟩ := by
      rcases ho.shape with ⟨_, _, h⟩ | ⟨g, h, _⟩
      · rw [h] at h2; simp at h2
      · exact ⟨g, h⟩
    have hcap := ho.cap.1
    have hcm := ho.cap.2
    obtain ⟨n, hn⟩ : ∃ n, xs.length = n := ⟨_, rfl⟩
    have HN := Lib.hid hn
    have HO := Lib.hid ho
    have HS := Lib.hid hs
    have h2' : 2 ≤ n := by omega
    rw [hn] at hcap hm hd ⊢
    obtain ⟨us, hus⟩ : ∃ us, uniq xs = us := ⟨_, rfl⟩
    have HUS := Lib.hid hus
    rw [hus]
    clear ho hs hn hus h2
    go_enter Tryd.func77, Tryd.ntmps77
    go_wp2
    go_loopw [3] (fun vk wr => ∃ k : Nat, vk = .int .i64 k ∧ 1 ≤ k ∧ k ≤ n ∧ Hid (uniq (xs.take k) = xs.take k) ∧ Own (Value.int .i64) 2 wr base (some ⟨g, 0, none⟩) c xs ∧ w.grownBy wr (some g)) (fun vk _ => n - (intOf vk).toNat)
    case atStart => exact ⟨1, rfl, Nat.le_refl _, by omega, Lib.hid (uniq_one (by have := HN.out; omega)), HO.out, World.grownBy.refl _ _⟩
    case round =>
      obtain ⟨k, rfl, hk1, hkn, HU, ho, hg⟩ := hrel
      have HOI := Lib.hid ho
      have HG := Lib.hid hg
      obtain ⟨wi, hwi⟩ : ∃ wi : World, wi = wr := ⟨_, rfl⟩
      rw [← hwi]
      rw [← hwi] at HOI HG
      clear ho hg hwi
      by_cases hlt : k < n
      · obtain ⟨kp, rfl⟩ : ∃ kp, k = kp + 1 := ⟨k - 1, by omega⟩
        have hix := rd_idxAt HOI.out.rd und_is siz_is (kp + 1) (by rw [HN.out]; exact hlt) ((kp : Int) + 1) (by omega)
        have hip := rd_idxAt HOI.out.rd und_is siz_is kp (by rw [HN.out]; omega) (kp : Int) rfl
        rw [HN.out] at hix hip
        obtain ⟨x, hx⟩ : ∃ x, at0 xs (kp + 1) = x := ⟨_, rfl⟩
        obtain ⟨y, hy⟩ : ∃ x, at0 xs kp = x := ⟨_, rfl⟩
        have hcx : wi.cell? (elt (some ⟨g, 0, none⟩) (kp + 1)) = some (.int .i64 x) := by rw [HOI.out.rd.cell (kp + 1) (by rw [HN.out]; exact hlt), ← hx]; rfl
        have hcy : wi.cell? (elt (some ⟨g, 0, none⟩) kp) = some (.int .i64 y) := by rw [HOI.out.rd.cell kp (by rw [HN.out]; omega), ← hy]; rfl
        have ew : IntKind.i64.wrap (kp : Int) = (kp : Int) := IntWalk.i64_in _ (by omega)
        have HXY := Lib.hid (And.intro hx hy)
        clear hx hy
        by_cases hxy : x = y
        · have hb : (x == y) = true := by simpa using hxy
          have HE : Hid (at0 xs (kp + 1) = at0 xs (kp + 1 - 1)) := Lib.hid (by rw [HXY.out.1, Nat.add_sub_cancel, HXY.out.2]; exact hxy)
          have htl := tail_run und_is siz_is (g := g) (n := n) (c := c) (k := kp + 1) (by omega) hcap
          have etl : tailA g c (kp + 1) = some ⟨g, kp + 1, none⟩ := by unfold tailA; rw [if_neg (by omega)]
          rw [etl] at htl
          have HTL := Lib.hid htl
          clear hxy htl etl
          have htl : ∀ w' : World, (Instr.sliceAt 25 (.slice (some ⟨g, 0, none⟩) n c) (some (.int .i64 ((kp : Int) + 1))) none none).run Tryd.prog w' = .ok (.slice (some ⟨g, kp + 1, none⟩) (n - (kp + 1)) (c - (kp + 1))) w' := HTL.out
          go_wp2_with fail
          go_quiet (fail)
          have HOW := Lib.hid (HOI.out.drewN nq)
          have HGW := Lib.hid (grown_trans HG.out (below_grown (below_of_drewN wi nq _) (some g)))
          clear HOI HG hcx hcy hix hip
          generalize wi.drewN nq = wz at HOW HGW ⊢
          have h0' : uniq (xs.take (kp + 1)) = xs.take (kp + 1) := HU.out
          have hz0 : (uniq (xs.take (kp + 1))).length = kp + 1 := by rw [h0', List.length_take, HN.out]; omega
          have hsk := uniq_take_skip (xs := xs) (m := kp + 1) (by omega) (by rw [HN.out]; exact hlt) HE.out
          have hck := cmpU_skip (xs := xs) (m := kp + 1) (by omega) (by rw [HN.out]; exact hlt) HE.out
          have hc1 := cmpU_one h0' (by rw [HN.out]; omega)
          have HZ0 := Lib.hid (And.intro hsk (And.intro hz0 (hck.trans hc1)))
          clear h0' hz0 hsk hck hc1
          go_wp2_with fail
          go_loopw [3, 5] (fun vk v2 wr => ∃ k2 q : Nat, v2 = .int .i64 k2 ∧ vk = .int .i64 q ∧ 1 ≤ k2 ∧ kp + 1 + k2 ≤ n ∧ q < kp + 1 + k2 ∧ Hid ((uniq (xs.take (kp + 1 + k2))).length = q) ∧ Own (Value.int .i64) 2 wr base (some ⟨g, 0, none⟩) c (cmpU xs (kp + 1 + k2)) ∧ w.grownBy wr (some g)) (fun _ v2 _ => n - (intOf v2).toNat)
          case atStart => exact ⟨1, kp + 1, rfl, by go_num, Nat.le_refl _, by omega, by omega, Lib.hid (by rw [HZ0.out.1]; exact HZ0.out.2.1), HOW.out.cast HZ0.out.2.2.symm, HGW.out⟩
          case round =>
            clear HOW HGW HZ0
            obtain ⟨k2, q, rfl, rfl, hk2, hm2, hqm, HQ, ho, hg⟩ := hrel
            have HOI := Lib.hid ho
            have HG := Lib.hid hg
            obtain ⟨wi, hwi⟩ : ∃ wi : World, wi = wr := ⟨_, rfl⟩
            rw [← hwi]
            rw [← hwi] at HOI HG
            clear ho hg hwi
            have hcl : (cmpU xs (kp + 1 + k2)).length = n := by rw [cmpU_len]; exact HN.out
            by_cases hlt2 : kp + 1 + k2 < n
            · obtain ⟨j, rfl⟩ : ∃ j, k2 = j + 1 := ⟨k2 - 1, by omega⟩
              have hltz : (j : Int) + 1 < ((n - (kp + 1) : Nat) : Int) := by omega
              obtain ⟨x, hx⟩ : ∃ x, at0 xs (kp + 1 + (j + 1)) = x := ⟨_, rfl⟩
              obtain ⟨y, hy⟩ : ∃ x, at0 xs (kp + 1 + j) = x := ⟨_, rfl⟩
              have hax : at0 (cmpU xs (kp + 1 + (j + 1))) (kp + 1 + (j + 1)) = x := by rw [cmpU_at (by rw [HQ.out]; omega) (by rw [HN.out]; exact hlt2)]; exact hx
              have hay : at0 (cmpU xs (kp + 1 + (j + 1))) (kp + 1 + j) = y := by rw [cmpU_at (by rw [HQ.out]; omega) (by rw [HN.out]; omega)]; exact hy
              have hcx := own_at HOI.out (p := kp + 1 + (j + 1)) (by rw [hcl]; exact hlt2) hax
              have hcy := own_at HOI.out (p := kp + 1 + j) (by rw [hcl]; omega) hay
              have hix := idx_off (P := Tryd.prog) (T := 25) und_is siz_is (g := g) (o := kp + 1) (n := n - (kp + 1)) (c := c - (kp + 1)) (k := j + 1) (by omega) ((j : Int) + 1) (by omega)
              have hiy := idx_off (P := Tryd.prog) (T := 25) und_is siz_is (g := g) (o := kp + 1) (n := n - (kp + 1)) (c := c - (kp + 1)) (k := j) (by omega) (j : Int) rfl
              have ew1 : IntKind.i64.wrap (j : Int) = (j : Int) := IntWalk.i64_in _ (by omega)
              have ew2 : IntKind.i64.wrap ((j : Int) + 1 + 1) = (j : Int) + 1 + 1 := IntWalk.i64_in _ (by omega)
              have HXY := Lib.hid (And.intro hx (And.intro hy (And.intro hax hcl)))
              clear hx hy hax hay hcl
              by_cases hxy : x = y
              · have hb : (x != y) = false := by simpa using hxy
                have hep : kp + 1 + (j + 1) - 1 = kp + 1 + j := by omega
                have hea : at0 xs (kp + 1 + (j + 1)) = at0 xs (kp + 1 + (j + 1) - 1) := by rw [hep, HXY.out.1, HXY.out.2.1]; exact hxy
                have h1 := uniq_take_skip (xs := xs) (m := kp + 1 + (j + 1)) (by omega) (by rw [HN.out]; exact hlt2) hea
                have h2 := cmpU_skip (xs := xs) (m := kp + 1 + (j + 1)) (by omega) (by rw [HN.out]; exact hlt2) hea
                have HE2 := Lib.hid (And.intro h1 h2)
                clear hxy hep hea h1 h2
                go_wp2_with fail
                go_quiet (fail)
                have HOW := Lib.hid (HOI.out.drewN nq)
                have HGW := Lib.hid (grown_trans HG.out (below_grown (below_of_drewN wi nq _) (some g)))
                clear HOI HG hcx hcy hix hiy
                generalize wi.drewN nq = wz at HOW HGW ⊢
                go_wp2
                go_roundw
                case rel => exact ⟨j + 1 + 1, q, by go_num, rfl, by omega, by omega, by omega, Lib.hid (by rw [← Nat.add_assoc (kp + 1) (j + 1) 1, HE2.out.1]; exact HQ.out), HOW.out.cast (by rw [← Nat.add_assoc (kp + 1) (j + 1) 1]; exact HE2.out.2.symm), HGW.out⟩
                case measure => simp [intOf]; omega
              · have hb : (x != y) = true := by simpa using hxy
                have hep : kp + 1 + (j + 1) - 1 = kp + 1 + j := by omega
                have hea : ¬ at0 xs (kp + 1 + (j + 1)) = at0 xs (kp + 1 + (j + 1) - 1) := by rw [hep, HXY.out.1, HXY.out.2.1]; exact hxy
                have h1 := uniq_take_keep (xs := xs) (m := kp + 1 + (j + 1)) (by omega) (by rw [HN.out]; exact hlt2) HS.out hea
                have h2 := cmpU_keep (xs := xs) (m := kp + 1 + (j + 1)) (by omega) (by rw [HN.out]; exact hlt2) HS.out hea
                rw [HQ.out, HXY.out.1] at h2
                have h3 : (uniq (xs.take (kp + 1 + (j + 1) + 1))).length = q + 1 := by rw [h1, List.length_append, HQ.out]; rfl
                have HE2 := Lib.hid (And.intro h2 h3)
                have hiq := idx_off (P := Tryd.prog) (T := 25) und_is siz_is (g := g) (o := 0) (n := n) (c := c) (k := q) (by omega) (q : Int) rfl
                rw [Nat.zero_add] at hiq
                have ew3 : IntKind.i64.wrap ((q : Int) + 1) = (q : Int) + 1 := IntWalk.i64_in _ (by omega)
                clear hxy hep hea h1 h2 h3
                go_wp2_with fail
                go_quiet (fail)
                have HOW := Lib.hid (HOI.out.drewN nq)
                have HGW := Lib.hid (grown_trans HG.out (below_grown (below_of_drewN wi nq _) (some g)))
                clear HOI HG hcx hcy hiy
                generalize wi.drewN nq = wz at HOW HGW ⊢
                have hcx := own_at HOW.out (p := kp + 1 + (j + 1)) (by rw [HXY.out.2.2.2]; exact hlt2) HXY.out.2.2.1
                have hql : q < (cmpU xs (kp + 1 + (j + 1))).length := by rw [HXY.out.2.2.2]; omega
                have hfq : wz.frozen? ⟨g, q, none⟩ = false := by have := HOW.out.free q hql; rw [elt_some, Nat.zero_add] at this; exact this
                obtain ⟨v0, hcq⟩ : ∃ v, wz.cell? ⟨g, q, none⟩ = some v := ⟨_, own_at HOW.out hql rfl⟩
                have hset := HOW.out.set q hql x
                rw [elt_some, Nat.zero_add] at hset
                have HSE := Lib.hid (hset.1.cast HE2.out.1)
                have HGE := Lib.hid (grown_trans HGW.out hset.2)
                clear hset hql HOW HGW
                go_wp2
                go_roundw
                case rel => exact ⟨j + 1 + 1, q + 1, by go_num, by go_num, by omega, by omega, by omega, Lib.hid HE2.out.2, HSE.out, HGE.out⟩
                case measure => simp [intOf]; omega
            · have hmn : kp + 1 + k2 = n := by omega
              have hltz : ¬ (k2 : Int) < ((n - (kp + 1) : Nat) : Int) := by omega
              have hut : uniq (xs.take (kp + 1 + k2)) = us := by rw [hmn, ← HN.out, List.take_length]; exact HUS.out
              have hul : us.length = q := by rw [← hut]; exact HQ.out
              have hou := HOI.out.cutTo (ys := us) (by rw [hcl]; omega) (by rw [← hut]; exact cmpU_take)
              have htq := tail_run (P := Tryd.prog) (T := 25) und_is siz_is (g := g) (n := n) (c := c) (k := q) (by omega) hcap
              have etq : tailA g c q = some ⟨g, q, none⟩ := by unfold tailA; rw [if_neg (by omega)]
              rw [etq] at htq
              have hhq := head_run (P := Tryd.prog) (T := 25) und_is siz_is (g := g) (n := n) (c := c) (k := q) (by omega) hcap (by omega)
              obtain ⟨w2, hclr, ho2, hg2⟩ := clear_from hou hul (show q < n by omega) hcap
              have HE := Lib.hid (And.intro ho2 (grown_trans HG.out hg2))
              have HL := Lib.hid hul
              clear hou hut hul etq ho2 hg2 HOI HG HQ hcl
              go_wp2
              go_ret
              exact ⟨by rw [HL.out]; rfl, HE.out.1, HE.out.2⟩
        · have hb : (x == y) = false := by simpa using hxy
          have HE : Hid (uniq (xs.take (kp + 1 + 1)) = xs.take (kp + 1 + 1)) := by
            refine Lib.hid ?_
            rw [uniq_take_keep (by omega) (by rw [HN.out]; exact hlt) HS.out (by rw [HXY.out.1, Nat.add_sub_cancel, HXY.out.2]; exact hxy), HU.out, List.take_add_one (i := kp + 1), List.getElem?_eq_getElem (by rw [HN.out]; exact hlt)]
            simp [at0, show kp + 1 < xs.length by rw [HN.out]; exact hlt]
          clear hxy
          go_wp2_with fail
          go_quiet (fail)
          have HOW := Lib.hid (HOI.out.drewN nq)
          have HGW := Lib.hid (grown_trans HG.out (below_grown (below_of_drewN wi nq _) (some g)))
          clear HOI HG hcx hcy hix hip
          generalize wi.drewN nq = wz at HOW HGW ⊢
          go_wp2
          go_roundw
          case rel => exact ⟨kp + 1 + 1, by go_num, by omega, by omega, HE, HOW.out, HGW.out⟩
          case measure => simp [intOf]; omega
      · obtain rfl : k = n := by omega
        have he : xs = us := by rw [← HUS.out, ← List.take_length (l := xs), HN.out]; exact HU.out.symm
        have hl : us.length = k := by rw [← he]; exact HN.out
        have HE := Lib.hid (HOI.out.cast he)
        have HL := Lib.hid hl
        clear he hl
        go_wp2
        go_ret
        exact ⟨by rw [HL.out]; rfl, HE.out, HG.out⟩

theorem idxOf_cases {p : Int → Bool} {xs : List Int} : (idxOf p xs = -1 ∧ ∀ x ∈ xs, p x = false) ∨ ∃ i : Nat, idxOf p xs = i ∧ i < xs.length ∧ p (at0 xs i) = true ∧ ∀ x ∈ xs.take i, p x = false := by
  unfold idxOf
  cases h : xs.findIdx? p with
  | none => rw [List.findIdx?_eq_none_iff] at h; exact .inl ⟨rfl, h⟩
  | some i =>
    rw [List.findIdx?_eq_some_iff_getElem] at h
    obtain ⟨hi, hp, hb⟩ := h
    refine .inr ⟨i, rfl, hi, by simpa [at0, hi] using hp, fun x hx => ?_⟩
    obtain ⟨j, hj, rfl⟩ := List.mem_take_iff_getElem.1 hx
    simpa using hb j (by omega)

set_option maxRecDepth 8000 in
set_option maxHeartbeats 2000000 in
theorem deleteFunc_own {w : World} {base : Nat} {a : Option Addr} {c : Nat} {xs : List Int} {F : Nat} {caps : Array Value} {p : Int → Bool} (hF : ∀ (vs : Array Value) (w : World), (callFunc F vs).run Tryd.prog w = .ok (.enter F vs) w) (ho : Own (Value.int .i64) 2 w base a c xs) (hm : xs.length ≤ 1048576)
    (hclo : ∀ wr, w.grownBy wr (a.map (·.block)) → ∀ k, k < xs.length → Calls Tryd.prog F (#[.int .i64 (at0 xs k)] ++ caps) wr fun e w' => e = .returned (.bool (p (at0 xs k))) ∧ Below wr.heap.size wr w') :
    Calls Tryd.prog 68 #[.slice a xs.length c, .func (.func F) #[] caps] w fun e w' => e = .returned (.slice a (xs.filter fun x => !p x).length c) ∧ Own (Value.int .i64) 2 w' base a c (xs.filter fun x => !p x) ∧ w.grownBy w' (a.map (·.block)) := by
  have HCL : Hid (∀ wr, w.grownBy wr (a.map (·.block)) → ∀ k, k < xs.length → Calls Tryd.prog F (#[.int .i64 (at0 xs k)] ++ caps) wr fun e w' => e = .returned (.bool (p (at0 xs k))) ∧ Below wr.heap.size wr w') := hclo
  have hidx := Lib.hid (indexFunci_any a c xs w F caps p hF ho.rd (fun k h wr hb => by
    have := HCL.out wr (below_grown hb _) k h
    have e : at0 xs k = xs[k] := by simp [at0, h]
    rw [e] at this
    exact this))
  rcases idxOf_cases (p := p) (xs := xs) with ⟨hi, hall⟩ | ⟨i, hi, hil, hpi, hbe⟩
  · have hfl : xs.filter (fun x => !p x) = xs := List.filter_eq_self.2 (fun x hx => by rw [hall x hx]; rfl)
    rw [hfl]
    rw [hi] at hidx
    have HO := Lib.hid ho
    clear hclo ho hall hfl hi
    go_enter Tryd.func68, Tryd.ntmps68
    go_wp2_with fail
    refine hidx.out.mono ?_
    rintro e w1 ⟨rfl, hb1⟩
    have HB := Lib.hid hb1
    clear hb1
    go_wp2
    go_ret
    exact ⟨rfl, HO.out.below HB.out (Nat.le_refl _), below_grown HB.out _⟩
  · obtain ⟨g, rfl⟩ : ∃ g, a = some ⟨g, 0, none⟩ := by
      rcases ho.shape with ⟨_, _, h⟩ | ⟨g, h, _⟩
      · rw [h] at hil; simp at hil
      · exact ⟨g, h⟩
    rw [hi] at hidx
    have hcap := ho.cap.1
    have hcm := ho.cap.2
    obtain ⟨np, hnp⟩ : ∃ np : Int → Bool, np = fun x => !p x := ⟨_, rfl⟩
    have hnpx : ∀ x, np x = !p x := fun x => by rw [hnp]
    rw [← hnp]
    have hsk : ∀ m, m ≤ i → (xs.take m).filter np = xs.take m := fun m hm => filter_take_all (fun x hx => by
      rw [hnpx, hbe x (by
        obtain ⟨j, hj, rfl⟩ := List.mem_take_iff_getElem.1 hx
        exact List.mem_take_iff_getElem.2 ⟨j, by omega, rfl⟩)]
      rfl)
    have h1 : (xs.take (i + 1)).filter np = xs.take i := by
      rw [filter_take_succ hil, hsk i (Nat.le_refl _), hnpx, hpi]
      simp
    have h1l : ((xs.take (i + 1)).filter np).length = i := by rw [h1, List.length_take]; omega
    have h1d : delU np xs (i + 1) = xs := by unfold delU; rw [h1l, h1, List.take_append_drop]
    obtain ⟨n, hn⟩ : ∃ n, xs.length = n := ⟨_, rfl⟩
    have HN := Lib.hid hn
    have HO : Hid (Own (Value.int .i64) 2 w base (some ⟨g, 0, none⟩) c (delU np xs (i + 1))) := Lib.hid (ho.cast h1d.symm)
    have HNP : Hid (∀ x, np x = !p x) := hnpx
    have H1L := Lib.hid h1l
    rw [hn] at hcap hm hil hidx ⊢
    obtain ⟨us, hus⟩ : ∃ us, xs.filter np = us := ⟨_, rfl⟩
    have HUS := Lib.hid hus
    rw [hus]
    have hzi : ((i : Int) == -1) = false := beq_eq_false_iff_ne.2 (by omega)
    have ew : IntKind.i64.wrap ((i : Int) + 1) = (i : Int) + 1 := IntWalk.i64_in _ (by omega)
    clear hclo ho hn hus hnp hnpx hi hpi hbe hsk h1 h1l h1d
    go_enter Tryd.func68, Tryd.ntmps68
    go_wp2_with fail
    refine hidx.out.mono ?_
    rintro e w1 ⟨rfl, hb1⟩
    have HO1 := Lib.hid (HO.out.below hb1 (Nat.le_refl _))
    have HG1 := Lib.hid (below_grown hb1 (some g))
    clear hb1 hidx HO
    go_wp2_with fail
    go_loopw [5, 6, 7] (fun vi vj _ wr => ∃ m q : Nat, vj = .int .i64 m ∧ vi = .int .i64 q ∧ m ≤ n ∧ q < m ∧ Hid (((xs.take m).filter np).length = q) ∧ Own (Value.int .i64) 2 wr base (some ⟨g, 0, none⟩) c (delU np xs m) ∧ w.grownBy wr (some g)) (fun _ vj _ _ => n - (intOf vj).toNat)
    case atStart => exact ⟨i + 1, i, by go_num, rfl, by omega, by omega, H1L, HO1.out, HG1.out⟩
    case round =>
      clear HO1 HG1 H1L
      obtain ⟨m, q, rfl, rfl, hmn, hqm, HQ, ho, hg⟩ := hrel
      have HOI := Lib.hid ho
      have HG := Lib.hid hg
      obtain ⟨wi, hwi⟩ : ∃ wi : World, wi = wr := ⟨_, rfl⟩
      rw [← hwi]
      rw [← hwi] at HOI HG
      clear ho hg hwi
      have hcl : (delU np xs m).length = n := by rw [delU_len]; exact HN.out
      by_cases hlt : m < n
      · have hltz : (m : Int) < (n : Int) := by omega
        obtain ⟨x, hx⟩ : ∃ x, at0 xs m = x := ⟨_, rfl⟩
        have hcall := HCL.out wi HG.out m (by rw [HN.out]; exact hlt)
        rw [hx] at hcall
        have HCA := Lib.hid hcall
        have hax : at0 (delU np xs m) m = x := by rw [delU_at (by rw [HQ.out]; omega)]; exact hx
        have hcx := own_at HOI.out (p := m) (by rw [hcl]; exact hlt) hax
        have hix := idx_off (P := Tryd.prog) (T := 25) und_is siz_is (g := g) (o := 0) (n := n) (c := c) (k := m) hlt (m : Int) rfl
        rw [Nat.zero_add] at hix
        have ew2 : IntKind.i64.wrap ((m : Int) + 1) = (m : Int) + 1 := IntWalk.i64_in _ (by omega)
        have HX := Lib.hid (And.intro hx hcl)
        clear hcall hx hax hcl
        go_wp2_with fail
        refine HCA.out.mono ?_
        rintro e w2 ⟨rfl, hb2⟩
        have HOW := Lib.hid (HOI.out.below hb2 (Nat.le_refl _))
        have HGW := Lib.hid (grown_trans HG.out (below_grown hb2 (some g)))
        clear hb2 HOI HG hcx hix HCA
        by_cases hpx : p x = true
        · have hns := filter_take_succ (p := np) (xs := xs) (m := m) (by rw [HN.out]; exact hlt)
          have hnf : np (at0 xs m) = false := by rw [HX.out.1, HNP.out, hpx]; rfl
          rw [hnf] at hns
          have h2 : ((xs.take (m + 1)).filter np).length = q := by rw [hns]; simpa using HQ.out
          have h3 := delU_skip (p := np) (xs := xs) (m := m) (by rw [HN.out]; exact hlt) hnf
          have HE := Lib.hid (And.intro h2 h3)
          rw [hpx]
          clear hns hnf h2 h3 hpx
          go_wp2
          go_roundw
          case rel => exact ⟨m + 1, q, by go_num, rfl, by omega, by omega, Lib.hid HE.out.1, HOW.out.cast HE.out.2.symm, HGW.out⟩
          case measure => simp [intOf]; omega
        · have hpf : p x = false := by simpa using hpx
          have hnf : np (at0 xs m) = true := by rw [HX.out.1, HNP.out, hpf]; rfl
          have hns := filter_take_succ (p := np) (xs := xs) (m := m) (by rw [HN.out]; exact hlt)
          rw [if_pos hnf] at hns
          have h2 : ((xs.take (m + 1)).filter np).length = q + 1 := by rw [hns, List.length_append, HQ.out]; rfl
          have h3 := delU_keep (p := np) (xs := xs) (m := m) (by rw [HN.out]; exact hlt) hnf
          rw [HQ.out, HX.out.1] at h3
          have HE := Lib.hid (And.intro h2 h3)
          have hiq := idx_off (P := Tryd.prog) (T := 25) und_is siz_is (g := g) (o := 0) (n := n) (c := c) (k := q) (by omega) (q : Int) rfl
          rw [Nat.zero_add] at hiq
          have ew3 : IntKind.i64.wrap ((q : Int) + 1) = (q : Int) + 1 := IntWalk.i64_in _ (by omega)
          have hql : q < (delU np xs m).length := by rw [HX.out.2]; omega
          have hfq : w2.frozen? ⟨g, q, none⟩ = false := by have := HOW.out.free q hql; rw [elt_some, Nat.zero_add] at this; exact this
          obtain ⟨v0, hcq⟩ : ∃ v, w2.cell? ⟨g, q, none⟩ = some v := ⟨_, own_at HOW.out hql rfl⟩
          have hset := HOW.out.set q hql x
          rw [elt_some, Nat.zero_add] at hset
          have HSE := Lib.hid (hset.1.cast HE.out.2)
          have HGE := Lib.hid (grown_trans HGW.out hset.2)
          rw [hpf]
          clear hset hql HOW HGW hns hnf h2 h3 hpx hpf
          go_wp2
          go_roundw
          case rel => exact ⟨m + 1, q + 1, by go_num, by go_num, by omega, by omega, Lib.hid HE.out.1, HSE.out, HGE.out⟩
          case measure => simp [intOf]; omega
      · obtain rfl : m = n := by omega
        have hltz : ¬ (m : Int) < (m : Int) := by omega
        have hut : (xs.take m).filter np = us := by rw [← HN.out, List.take_length]; exact HUS.out
        have hul : us.length = q := by rw [← hut]; exact HQ.out
        have hou := HOI.out.cutTo (ys := us) (by rw [hcl]; omega) (by rw [← hut]; exact delU_take)
        have htq := tail_run (P := Tryd.prog) (T := 25) und_is siz_is (g := g) (n := m) (c := c) (k := q) (by omega) hcap
        have etq : tailA g c q = some ⟨g, q, none⟩ := by unfold tailA; rw [if_neg (by omega)]
        rw [etq] at htq
        have hhq := head_run (P := Tryd.prog) (T := 25) und_is siz_is (g := g) (n := m) (c := c) (k := q) (by omega) hcap (by omega)
        obtain ⟨w2, hclr, ho2, hg2⟩ := clear_from hou hul (show q < m by omega) hcap
        have HE := Lib.hid (And.intro ho2 (grown_trans HG.out hg2))
        have HL := Lib.hid hul
        clear hou hut hul etq ho2 hg2 HOI HG HQ hcl
        go_wp2
        go_ret
        exact ⟨by rw [HL.out]; rfl, HE.out.1, HE.out.2⟩

end Go.Proofs.YtncbkbfkdgggkaaDoor
