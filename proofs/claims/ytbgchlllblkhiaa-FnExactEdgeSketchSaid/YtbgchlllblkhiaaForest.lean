/- Forests: both texts join the parts of each edge's ends. -/
import Derived.Test.YtbgchlllblkhiaaEdges
namespace Go.Proofs.Ytbgchlllblkhiaa
open Go.RowKit

/-- One edge: the parts, and the indices of edges that have joined. -/
def fstep (xs : List Int) (st : List Int × List Int) (j : Nat) : List Int × List Int :=
  if st.1[(xs[2 * j]?.getD 0).toNat]?.getD 0 = st.1[(xs[2 * j + 1]?.getD 0).toNat]?.getD 0 then st
  else (st.1.map (fun p => if p = st.1[(xs[2 * j + 1]?.getD 0).toNat]?.getD 0 then st.1[(xs[2 * j]?.getD 0).toNat]?.getD 0 else p), st.2 ++ [(j : Int)])
def iota (N : Nat) : List Int := (List.range N).map fun (i : Nat) => (i : Int)
def forestK (xs : List Int) (N k : Nat) : List Int × List Int := (List.range k).foldl (fstep xs) (iota N, [])
theorem forestK_succ (xs : List Int) (N k : Nat) : forestK xs N (k + 1) = fstep xs (forestK xs N k) k := by
  unfold forestK; rw [List.range_succ, List.foldl_append]; rfl
theorem iota_snoc (k : Nat) : iota (k + 1) = iota k ++ [(k : Int)] := by simp [iota, List.range_succ]
theorem iota_length (k : Nat) : (iota k).length = k := by simp [iota]
theorem fstep_eq {xs : List Int} {gs os : List Int} {j : Nat} {p q : Int} (hq : gs[(xs[2 * j]?.getD 0).toNat]?.getD 0 = q) (hp : gs[(xs[2 * j + 1]?.getD 0).toNat]?.getD 0 = p) :
    fstep xs (gs, os) j = if q = p then (gs, os) else (gs.map (fun r => if r = p then q else r), os ++ [(j : Int)]) := by
  unfold fstep; simp only [hq, hp]
theorem forestK_len (xs : List Int) (N k : Nat) : (forestK xs N k).1.length = N ∧ (forestK xs N k).2.length ≤ k := by
  induction k with
  | zero => simp [forestK, iota]
  | succ k ih =>
    rw [forestK_succ]
    unfold fstep
    split
    · exact ⟨ih.1, by omega⟩
    · simp; omega

/-- What the law's edges say: bounds of the two ends. -/
theorem edges_bd {n : Int} {xs : List Int} (h : edgesB n xs = true) : 2 ≤ n ∧ n ≤ 32 ∧ xs.length % 2 = 0 ∧ xs.length ≤ 128 ∧ ∀ k, k < xs.length → 0 ≤ xs[k]?.getD 0 ∧ xs[k]?.getD 0 ≤ n - 1 := by
  simp only [edgesB, Bool.and_eq_true, decide_eq_true_eq] at h
  obtain ⟨⟨⟨⟨h1, h2⟩, h3⟩, h4⟩, _⟩ := h
  have hn := (inR_eq _ _ _).1 h1
  refine ⟨hn.1, hn.2, h2, h3, fun k hk => ?_⟩
  rw [List.all_eq_true] at h4
  have := (inR_eq _ _ _).1 (h4 xs[k] (List.getElem_mem hk))
  simpa [hk] using this

theorem map_set {gs : List Int} {m : Nat} {p q : Int} (hm : m < gs.length) (h : gs[m] = p) :
    ((gs.take m).map (fun r => if r = p then q else r) ++ gs.drop m).set m q = (gs.take (m + 1)).map (fun r => if r = p then q else r) ++ gs.drop (m + 1) := by
  have hl : ((gs.take m).map (fun r => if r = p then q else r)).length = m := by simp; omega
  rw [List.set_append_right _ _ (by omega), hl, Nat.sub_self]
  have hd := List.drop_eq_getElem_cons hm
  rw [hd, List.set_cons_zero, List.take_add_one, List.getElem?_eq_getElem hm]
  simp [h]
theorem map_keep {gs : List Int} {m : Nat} {p q : Int} (hm : m < gs.length) (h : ¬ gs[m] = p) :
    ((gs.take m).map (fun r => if r = p then q else r) ++ gs.drop m) = (gs.take (m + 1)).map (fun r => if r = p then q else r) ++ gs.drop (m + 1) := by
  have hd := List.drop_eq_getElem_cons hm
  rw [hd, List.take_add_one, List.getElem?_eq_getElem hm, Option.toList_some, List.map_append, List.append_assoc]
  simp only [List.map_cons, List.map_nil, if_neg h]
  rfl
theorem map_at {gs : List Int} {m : Nat} {p q : Int} (hm : m < gs.length) (hm2 : m < ((gs.take m).map (fun r => if r = p then q else r) ++ gs.drop m).length) :
    ((gs.take m).map (fun r => if r = p then q else r) ++ gs.drop m)[m] = gs[m] := by
  have hl : ((gs.take m).map (fun r => if r = p then q else r)).length = m := by simp; omega
  rw [List.getElem_append_right (by omega), List.getElem_drop]
  congr 1
  omega

/-- A list in new memory, and a number. -/
def RetSI (w : World) (xs : List Int) (n : Int) (en : Ending) (w' : World) : Prop :=
  ∃ a c, en = .returned (.tuple #[.slice a xs.length c, .int .i64 n]) ∧ Own (Value.int .i64) 2 w' w.heap.size a c xs ∧ Below w.heap.size w w'

set_option maxRecDepth 4000 in
set_option maxHeartbeats 2000000 in
theorem l07Forest_any {a1 : Option Addr} {c1 : Nat} {xs : List Int} {N : Nat} {w : World} (hr : Rd (Value.int .i64) w a1 c1 xs) (he : edgesB (N : Int) xs = true) :
    Calls Try.prog 70 #[.int .i64 N, .slice a1 xs.length c1] w (RetSI w (forestK xs N (xs.length / 2)).2 ((N : Int) - ((forestK xs N (xs.length / 2)).2.length : Int))) := by
  obtain ⟨hn1, hn2, hev, hl128, hbd⟩ := edges_bd he
  have hN1 : 2 ≤ N := by omega
  have hN2 : N ≤ 32 := by omega
  have hevn : xs.length = 2 * (xs.length / 2) := by omega
  have HEV := Lib.hid hevn
  have HBD := Lib.hid hbd
  clear he hn1 hn2 hev hbd hevn
  go_enter Try.func70, Try.ntmps70
  go_wp2_with fail
  go_loopw [6, 7] (fun g i wr => ∃ (k : Nat) (a : Option Addr) (c : Nat) (gs : List Int), k ≤ N ∧ i = .int .i64 k ∧ g = .slice a gs.length c ∧ Own (Value.int .i64) 2 wr w.heap.size a c gs ∧ Hid (gs = iota k) ∧ Below w.heap.size w wr) (fun _ i _ => N - (intOf i).toNat)
  case atStart => exact ⟨0, _, _, [], Nat.zero_le _, rfl, rfl, own_empty w _ (Nat.le_refl _) rfl, by show _ = _; rfl, (Below.refl _ _).alloc (Nat.le_refl _) _⟩
  case round =>
    obtain ⟨k, a, c, gs, hk, rfl, rfl, ho, HG, hb⟩ := hrel
    have HO := Lib.hid ho
    clear ho
    have hz := hb.size
    by_cases hlt : k < N
    · have hgl : gs.length ≤ 32 := by rw [HG.out, iota_length]; omega
      go_wp2_with (at_builtin; refine wpl_append1 (f := Value.int .i64) (d := 0) (base := w.heap.size) und_ise info_i (fun _ => rfl) _ HO.out rfl _ _ rfl rfl rfl (by omega) (by omega) hz ?_; intro a3 c3 w3 ho3 hg3)
      have hb3 := hb.trans (grown_belowOwn HO.out hg3 (Nat.le_refl _) hz)
      go_roundw
      case rel => exact ⟨k + 1, a3, c3, _, by omega, by go_num, by rw [List.length_append]; rfl, ho3, by show _ = _; rw [HG.out, iota_snoc], hb3⟩
      case measure => simp [intOf]; omega
    · obtain rfl : k = N := by omega
      have hgl : gs.length = k := by rw [HG.out, iota_length]
      rw [hgl]
      have HGL := Lib.hid hgl
      have HB := Lib.hid HO.out.blk
      clear hgl hlt hk
      obtain ⟨wa, rfl⟩ : ∃ wa : World, wa = wr := ⟨_, rfl⟩
      go_wp2_with fail
      go_loopw [8, 9, 10, 11, 12, 55] (fun out i _ _ _ _ wq => ∃ (m : Nat) (gs' os : List Int) (ao : Option Addr) (co : Nat), m ≤ xs.length / 2 ∧ i = .int .i64 ((2 * m : Nat) : Int) ∧ out = .slice ao os.length co ∧ Own (Value.int .i64) 2 wq w.heap.size a c gs' ∧ Own (Value.int .i64) 2 wq wa.heap.size ao co os ∧ Hid ((gs', os) = forestK xs k m) ∧ Below w.heap.size w wq ∧ wa.heap.size ≤ wq.heap.size) (fun _ i _ _ _ _ _ => xs.length - (intOf i).toNat)
      case atStart => exact ⟨0, gs, [], _, 0, Nat.zero_le _, rfl, rfl, HO.out.alloc _, own_empty wa _ (Nat.le_refl _) rfl, by show _ = _; rw [HG.out]; rfl, hb.alloc hb.size _, by simp⟩
      case round =>
        obtain ⟨m, gs', os, ao, co, hm, rfl, rfl, hog, hoo, HF, hbq, hM⟩ := hrel
        have hlen := forestK_len xs k m
        rw [← HF.out] at hlen
        have HL := Lib.hid hlen.1
        have hos : os.length ≤ m := hlen.2
        have hzq := hbq.size
        have HOO := Lib.hid hoo
        have HOG := Lib.hid hog
        clear hlen hoo HGL HG HO
        obtain ⟨wo, rfl⟩ : ∃ wo : World, wo = wr := ⟨_, rfl⟩
        by_cases hlt : m < xs.length / 2
        · have hm1 : 2 * m + 1 < xs.length := by omega
          have hxr := hr.below hbq (Nat.le_refl _)
          have hi0 := rd_idxAt hxr und_is siz_is (2 * m) (by omega) (2 * (m : Int)) (by omega)
          have hi1 := rd_idxAt hxr und_is siz_is (2 * m + 1) (by omega) (2 * (m : Int) + 1) (by omega)
          have hc0 := hxr.cell (2 * m) (by omega)
          have hc1 := hxr.cell (2 * m + 1) (by omega)
          have ew : IntKind.i64.wrap (2 * (m : Int) + 1) = 2 * (m : Int) + 1 := IntWalk.i64_in _ (by omega)
          have hb0 := HBD.out (2 * m) (by omega)
          have hb1 := HBD.out (2 * m + 1) (by omega)
          obtain ⟨x, hx⟩ : ∃ s, xs[2 * m]?.getD 0 = s := ⟨_, rfl⟩
          obtain ⟨y, hy⟩ : ∃ s, xs[2 * m + 1]?.getD 0 = s := ⟨_, rfl⟩
          have hd : (default : Int) = 0 := rfl
          rw [hx] at hb0
          rw [hy] at hb1
          rw [hd, hx] at hc0
          rw [hd, hy] at hc1
          obtain ⟨X, rfl⟩ : ∃ X : Nat, x = (X : Int) := ⟨x.toNat, by omega⟩
          obtain ⟨Y, rfl⟩ : ∃ X : Nat, y = (X : Int) := ⟨y.toNat, by omega⟩
          have hX : X < k := by omega
          have hY : Y < k := by omega
          have hX0 : (0 : Int) ≤ (X : Int) := by omega
          have hXi : (X : Int) < (k : Int) := by omega
          have hig := hog.idx und_is siz_is
          have hgX := hog.rd.cell X (by rw [HL.out]; exact hX)
          have hgY := hog.rd.cell Y (by rw [HL.out]; exact hY)
          rw [HL.out] at hig
          obtain ⟨q, hq⟩ : ∃ s, gs'[X]?.getD 0 = s := ⟨_, rfl⟩
          obtain ⟨p, hp⟩ : ∃ s, gs'[Y]?.getD 0 = s := ⟨_, rfl⟩
          have HS : Hid (forestK xs k (m + 1) = if q = p then (gs', os) else (gs'.map (fun r => if r = p then q else r), os ++ [(m : Int)])) := by
            show _ = _
            rw [forestK_succ, ← HF.out]
            exact fstep_eq (by rw [hx]; simpa using hq) (by rw [hy]; simpa using hp)
          rw [hd, hq] at hgX
          rw [hd, hp] at hgY
          clear hd hx hy hq hp hb0 hb1 HF
          by_cases hpq : p = q
          · have dpq : (p == q) = true := by simp [hpq]
            have HPQ := Lib.hid hpq
            clear hpq
            go_wp2
            go_roundw
            case rel => exact ⟨m + 1, gs', os, ao, co, by omega, by go_num, rfl, HOG.out.below (Below.refl _ _) (Nat.le_refl _), HOO.out.below (Below.refl _ _) (Nat.le_refl _), by show _ = _; rw [HS.out, if_pos HPQ.out.symm], hbq.trans (Below.refl _ _), hM⟩
            case measure => simp [intOf]; omega
          · have dpq : (p == q) = false := by simp [hpq]
            have HPQ := Lib.hid hpq
            clear hpq
            go_wp2_with (at_builtin; refine wpl_append1 (f := Value.int .i64) (d := 0) (base := wa.heap.size) und_ise info_i (fun _ => rfl) (m : Int) (HOO.out.below (Below.refl _ _) (Nat.le_refl _)) rfl _ _ rfl rfl rfl (by omega) (by omega) (by first | exact hM | (simp; exact hM)) ?_; intro a3 c3 w3 ho3 hg3)
            have hog3 := HOG.out.keptBlk hg3 HB.out HOO.out.blk (.inl (Nat.le_refl _))
            have hb3 := hbq.trans (grown_belowOwn HOO.out hg3 hb.size hbq.size)
            have hM3 := Nat.le_trans hM hg3.size
            have hl3 : (os ++ [(m : Int)]).length = os.length + 1 := by simp
            clear hg3
            go_loopw [12, 55] (fun _ j w4 => ∃ (t : Nat), t ≤ k ∧ j = .int .i64 t ∧ Own (Value.int .i64) 2 w4 w.heap.size a c ((gs'.take t).map (fun r => if r = p then q else r) ++ gs'.drop t) ∧ Own (Value.int .i64) 2 w4 wa.heap.size a3 c3 (os ++ [(m : Int)]) ∧ Below w.heap.size w w4 ∧ wa.heap.size ≤ w4.heap.size) (fun _ j _ => k - (intOf j).toNat)
            case atStart => exact ⟨0, Nat.zero_le _, rfl, by simpa using hog3, ho3, hb3, hM3⟩
            case round =>
              obtain ⟨t, ht, rfl, hg4, ho4, hb4, hM4⟩ := hrel
              clear hog3 ho3 hb3 hM3
              have hgl4 : ((gs'.take t).map (fun r => if r = p then q else r) ++ gs'.drop t).length = k := by have := HL.out; simp; omega
              by_cases hlt4 : t < k
              · have htg : t < gs'.length := by rw [HL.out]; exact hlt4
                have hig4 := hg4.idx und_is siz_is
                rw [hgl4] at hig4
                have hc4 := hg4.cell t (by omega)
                rw [map_at htg] at hc4
                have hf4 := hg4.free t (by omega)
                have HG4 := Lib.hid hg4
                have HO4 := Lib.hid ho4
                have HT4 := Lib.hid htg
                by_cases hgp : gs'[t] = p
                · have dgp : (gs'[t] == p) = true := by simp [hgp]
                  have hst := hg4.set t (by omega) q
                  rw [map_set htg hgp] at hst
                  have HG5 := Lib.hid hst.1
                  have HW5 := Lib.hid hst.2
                  clear hst hgp hg4 ho4 hgl4 hig hgX hgY hi0 hi1 hc0 hc1 HPQ dpq
                  go_wp2
                  go_roundw
                  case rel => exact ⟨t + 1, by omega, by go_num, HG5.out, HO4.out.keptBlk HW5.out HO4.out.blk HB.out (.inr (Nat.le_refl _)), hb4.trans (grown_belowOwn HG4.out HW5.out (Nat.le_refl _) hb4.size), Nat.le_trans hM4 HW5.out.size⟩
                  case measure => simp [intOf]; omega
                · have dgp : (gs'[t] == p) = false := by simp [hgp]
                  have HK4 := Lib.hid (map_keep (q := q) htg hgp)
                  clear hgp hg4 ho4 hgl4 hig hgX hgY hi0 hi1 hc0 hc1 HPQ dpq
                  go_wp2
                  go_roundw
                  case rel => exact ⟨t + 1, by omega, by go_num, HG4.out.cast HK4.out, HO4.out, hb4, hM4⟩
                  case measure => simp [intOf]; omega
              · obtain rfl : t = k := by omega
                have hfull : (gs'.take t).map (fun r => if r = p then q else r) ++ gs'.drop t = gs'.map (fun r => if r = p then q else r) := by
                  rw [List.take_of_length_le (by rw [HL.out]; exact Nat.le_refl _), List.drop_eq_nil_of_le (by rw [HL.out]; exact Nat.le_refl _)]; simp
                rw [hfull] at hg4
                have HG4 := Lib.hid hg4
                have HO4 := Lib.hid ho4
                clear hg4 ho4 hfull hgl4 hig hgX hgY hi0 hi1 hc0 hc1 dpq
                go_wp2
                go_roundw
                case rel => exact ⟨m + 1, _, _, a3, c3, by omega, by go_num, by rw [hl3], HG4.out, HO4.out, by show _ = _; rw [HS.out, if_neg (fun e => HPQ.out e.symm)], hb4, hM4⟩
                case measure => simp [intOf]; omega
        · have hmm : m = xs.length / 2 := by omega
          have hge : (xs.length : Int) ≤ ((2 * m : Nat) : Int) := by have := HEV.out; omega
          have HM := Lib.hid hmm
          clear hmm
          go_wp2
          go_ret2
          have hos2 : os = (forestK xs k (xs.length / 2)).2 := by rw [← HM.out, ← HF.out]
          subst hos2
          exact ⟨ao, co, rfl, HOO.out.mono hb.size, hbq⟩

end Go.Proofs.Ytbgchlllblkhiaa
