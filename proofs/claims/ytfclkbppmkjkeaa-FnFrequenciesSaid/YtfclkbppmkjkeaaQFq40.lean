/- SampleStream in the program's text. firstOf, with no room too. -/
import Derived.Test.YtfclkbppmkjkeaaQFq15
import Derived.Test.YtfclkbppmkjkeaaQFq30
import Derived.Test.YtfclkbppmkjkeaaQFq33
import Derived.Test.YtfclkbppmkjkeaaQFq10
import Derived.Test.YtfclkbppmkjkeaaQFq34
import Derived.Test.YtfclkbppmkjkeaaQFq6
namespace Go.Proofs.Ytfclkbppmkjkeaa
open Go.RowKit

theorem hash_quiet {k s : Int} {w : World} {n : Nat} (k0 : 0 ≤ k) (k1 : k < 4294967296) (s0 : 0 ≤ s) (s1 : s < 4294967296) :
    Calls Try.prog 178 #[.int .i64 k, .int .i64 s] (w.drewN n) fun e w'' => e = .returned (.int .i64 (hashZ k s)) ∧ ∃ m, w'' = w.drewN m :=
  (hash_any k0 k1 s0 s1).mono fun _ _ ⟨he, hw⟩ => ⟨he, n, hw.symm⟩
/-- 's[:hi]', whatever the capacity is. -/
theorem Rd.headRun {α : Type} [Inhabited α] {f : α → Value} {w : World} {a : Option Addr} {c : Nat} {xs : List α} (h : Rd f w a c xs) {P : Program} {T : TypeId} (hT : P.underlying T = some (.slice (P.elem T))) (hs : ∀ w, (sizeOf (P.elem T)).run P w = .ok 1 w) {hi : Nat} (hk : hi ≤ xs.length) :
    ∃ a2 c2, (∀ w' : World, (Instr.sliceAt T (.slice a xs.length c) none (some (.int .i64 (hi : Int))) none).run P w' = .ok (.slice a2 hi c2) w') ∧ ∀ w', Rd f w' a c xs → Rd f w' a2 c2 (xs.take hi) := by
  have hcap := h.cap
  refine ⟨_, _, fun w' => ?_, fun w' hr => by have := (hr.take hi).cut (k := 0) (by simp); simpa using this⟩
  rw [run_sliceAt_slice (h := hT), run_slice_h (ht := hT) (h0 := by omega) (h2 := by omega), hs]
  simp [Result.andThen, sliced]

theorem pickL_len (h : Int → Int) (n : Nat) (room : Int) : (pickL h n room).length ≤ n := by
  unfold pickL
  rw [srt_len, List.length_take, ordL_len]
  omega

set_option maxRecDepth 8000 in
set_option maxHeartbeats 4000000 in
theorem firstOf_any {n : Nat} {room : Int} {F : Nat} {caps : Array Value} {h : Int → Int} {w : World} (hn : 1 ≤ n ∧ n ≤ 128) (hrm : 1 ≤ room ∧ room ≤ 128) (eF : ∀ (vs : Array Value) (w : World), (callFunc F vs).run Try.prog w = .ok (.enter F vs) w)
    (hcl : ∀ w', Below w.heap.size w w' → ∀ i j : Nat, i < n → j < n → Calls Try.prog F (#[.int .i64 i, .int .i64 j] ++ caps) w' fun e w'' => e = .returned (.int .i64 (cmp3 (h i) (h j))) ∧ ∃ q, w'' = w'.drewN q) :
    Calls Try.prog 115 #[.int .i64 n, .int .i64 room, .func (.func F) #[] caps] w fun e w' => ∃ a c bh, e = .returned (.tuple #[.slice a (pickL h n room).length c, .int .i64 bh]) ∧ Own (Value.int .i64) 2 w' w.heap.size a c (pickL h n room) ∧ Below w.heap.size w w' := by
  have HF : Hid (∀ (vs : Array Value) (w : World), (callFunc F vs).run Try.prog w = .ok (.enter F vs) w) := eF
  have HCL : Hid (∀ w', Below w.heap.size w w' → ∀ i j : Nat, i < n → j < n → Calls Try.prog F (#[.int .i64 i, .int .i64 j] ++ caps) w' fun e w'' => e = .returned (.int .i64 (cmp3 (h i) (h j))) ∧ ∃ q, w'' = w'.drewN q) := hcl
  have HE := Lib.hid (own_empty (f := Value.int .i64) (e := 2) (α := Int) w (by_ := 0) w.heap.size (Nat.le_refl _) rfl)
  have HB1 := Lib.hid ((Below.refl w.heap.size w).alloc (Nat.le_refl _) (.cells #[] 2))
  clear eF hcl
  go_enter Try.func115, Try.ntmps115
  go_wp2_with fail
  go_loopw [8, 9, 15] (fun o _ i wr => ∃ (k : Nat) (b : Option Addr) (cc : Nat), k ≤ n ∧ i = .int .i64 k ∧ o = .slice b k cc ∧ Hid (Own (Value.int .i64) 2 wr w.heap.size b cc (idxN k)) ∧ Hid (Below w.heap.size w wr)) (fun _ _ i _ => n - (intOf i).toNat)
  case atStart => exact ⟨0, _, _, Nat.zero_le _, rfl, rfl, HE, HB1⟩
  case round =>
    obtain ⟨k, b, cc, hk, rfl, rfl, HO, HB⟩ := hrel
    by_cases hlt : k < n
    · have hltz : (k : Int) < (n : Int) := by omega
      have ewk : IntKind.i64.wrap ((k : Int) + 1) = (k : Int) + 1 := IntWalk.i64_in _ (by omega)
      have hzw := HB.out.size
      have hlk := idxN_len k
      obtain ⟨vs, hvs⟩ : ∃ vs, idxN k = vs := ⟨_, rfl⟩
      have hsu : idxN (k + 1) = vs ++ [(k : Int)] := by rw [idxN_succ, hvs]
      have HSU := Lib.hid hsu
      rw [hvs] at hlk HO
      clear hvs hsu
      subst hlk
      go_wp2_with (at_builtin; refine wpl_append1 (f := Value.int .i64) (d := 0) (base := w.heap.size) und_ise info_i (fun _ => rfl) (vs.length : Int) HO.out rfl _ _ rfl rfl rfl (by omega) (by omega) hzw ?_; intro a4 c4 w4 ho4 hg4)
      go_roundw
      case rel => exact ⟨vs.length + 1, a4, c4, by omega, by go_num, by simp, Lib.hid (ho4.cast HSU.out.symm), Lib.hid (HB.out.trans (grown_belowOwn HO.out hg4 (Nat.le_refl _) hzw))⟩
      case measure => simp [intOf]; omega
    · have hltz : ¬ (k : Int) < (n : Int) := by omega
      obtain rfl : k = n := by omega
      obtain ⟨wr, rfl⟩ : ∃ wq : World, wq = wr := ⟨_, rfl⟩
      have hto := own_as (g := vI (· % tagM)) (ys := ordT h k) HO.out (by rw [ordT_len, idxN_len]) (ordT_val (by omega))
      have hcmp : CmpOk Try.prog F caps wr (b.map (·.block)) (· % tagM) (tagK tagM) (fun s t => cmp3 (s / tagM) (t / tagM)) (fun t => ∃ i : Nat, i < k ∧ t = tag (h i) i) := by
        refine ⟨HF, fun s t _ _ => cmp3_neg _ _, ?_⟩
        rintro w' hg s t ⟨i, hi, rfl⟩ ⟨j, hj, rfl⟩
        simp only [tag_mod _ (show i ≤ 1048576 by omega), tag_mod _ (show j ≤ 1048576 by omega), tag_div _ (show i ≤ 1048576 by omega), tag_div _ (show j ≤ 1048576 by omega)]
        exact (show ∀ w', _ from HCL) w' (HB.out.trans (grown_belowOwn HO.out hg (Nat.le_refl _) HB.out.size)) i j hi hj
      have hsrt := sortStable_own hto (by rw [ordT_len]; omega) hcmp (fun t ht => ordT_mem ht) (tagK_mono tagM_pos) (ordT_stab (by omega))
      rw [ordT_len] at hsrt
      have HSRT := Lib.hid hsrt
      obtain ⟨m, hm⟩ : ∃ m : Nat, m = min k room.toNat := ⟨_, rfl⟩
      have hm1 : 1 ≤ m ∧ m ≤ k ∧ ((m : Int) = room ∨ m = k) ∧ (m : Int) ≤ room := by omega
      have hmin : ∀ w', (Builtin.min_ #[3, 3] 3 #[.int .i64 (k : Int), .int .i64 room]).run Try.prog w' = .ok (.int .i64 (m : Int)) w' := by
        intro w'
        rw [run_min_int2]
        have : (if room < (k : Int) then room else (k : Int)) = (m : Int) := by split <;> omega
        rw [this]
      have HM := Lib.hid hm
      clear hsrt hto hcmp hm
      go_wp2_with fail
      refine HSRT.out.mono ?_
      rintro e w2 ⟨rfl, ho2, hg2⟩
      have ho3 : Own (Value.int .i64) 2 w2 w.heap.size b cc (ordL h k) := by
        refine own_as ho2 (by rw [ordL_len, srt_len, ordT_len]) ?_
        unfold ordL
        rw [List.map_map]
        rfl
      have HB2 := Lib.hid (HB.out.trans (grown_belowOwn HO.out hg2 (Nat.le_refl _) HB.out.size))
      have hpk : pickL h k room = srt ((ordL h k).take m) := by unfold pickL; rw [← HM.out]
      have HPK := Lib.hid hpk
      have HF2 := Lib.hid hrm
      obtain ⟨os, hos⟩ : ∃ os, ordL h k = os := ⟨_, rfl⟩
      have hol : os.length = k := by rw [← hos, ordL_len]
      rw [hos] at ho3 HPK
      clear ho2 hg2 hpk hos HSRT HCL HF HO HB hrm
      have HO3 := Lib.hid ho3
      obtain ⟨a5, c5, hcut, hrd⟩ := ho3.rd.headRun (P := Try.prog) und_is siz_is (hi := m) (by omega)
      have HRD := Lib.hid (hrd w2 ho3.rd)
      have hixm : m < k → ∀ w' : World, (Instr.indexAt 25 (.slice b os.length cc) (.int .i64 (m : Int))).run Try.prog w' = .ok (.pointer (some (elt b m))) w' := fun hmk => rd_idxAt ho3.rd und_is siz_is m (by omega) (m : Int) rfl
      obtain ⟨z, hz⟩ : ∃ z, at0 os m = z := ⟨_, rfl⟩
      have hcz : m < k → w2.cell? (elt b m) = some (.int .i64 z) := fun hmk => at0_cell ho3.rd (by omega) hz
      have htl : (os.take m).length = m := by simp; omega
      rw [hol] at hixm hcut
      have hpk2 := HPK.out
      obtain ⟨qs, hqs⟩ : ∃ qs, os.take m = qs := ⟨_, rfl⟩
      rw [hqs] at htl HRD hpk2
      have HQK := Lib.hid hpk2
      clear ho3 hrd hz hqs hpk2 HPK
      subst htl
      by_cases hmk : qs.length < k
      · have hd : decide ((qs.length : Int) < (k : Int)) = true := decide_eq_true (by omega)
        have hi1 := hixm hmk
        have hc1 := hcz hmk
        clear hixm hcz
        go_wp2_with fail
        refine (clonei_any _ _ _ _ HRD.out (by omega)).mono ?_
        rintro e w3 ⟨a6, c6, rfl, ho6, hb6⟩
        have hne : qs ≠ [] := List.length_pos_iff.1 (by omega)
        have hsr := sorti_own ho6 (by omega) hne
        have HSR := Lib.hid hsr
        have HO6 := Lib.hid ho6
        have HB6 := Lib.hid (HB2.out.trans (hb6.mono HB2.out.size))
        clear hsr ho6 hb6 hne
        go_wp2_with fail
        refine HSR.out.mono ?_
        rintro e w4 ⟨rfl, ho7, hg7⟩
        have HO7 := Lib.hid (ho7.mono HB2.out.size)
        have HB7 := Lib.hid (HB6.out.trans (grown_belowOwn HO6.out hg7 HB2.out.size HB6.out.size))
        have hpl : (pickL h k room).length = qs.length := by rw [HQK.out, srt_len]
        have HPL := Lib.hid hpl
        clear ho7 hg7 hpl
        go_wp2
        go_ret2
        exact ⟨a6, c6, z, by rw [HPL.out]; rfl, HO7.out.cast HQK.out.symm, HB7.out⟩
      · have hd : decide ((qs.length : Int) < (k : Int)) = false := decide_eq_false (by omega)
        clear hixm hcz
        go_wp2_with fail
        refine (clonei_any _ _ _ _ HRD.out (by omega)).mono ?_
        rintro e w3 ⟨a6, c6, rfl, ho6, hb6⟩
        have hne : qs ≠ [] := List.length_pos_iff.1 (by omega)
        have hsr := sorti_own ho6 (by omega) hne
        have HSR := Lib.hid hsr
        have HO6 := Lib.hid ho6
        have HB6 := Lib.hid (HB2.out.trans (hb6.mono HB2.out.size))
        clear hsr ho6 hb6 hne
        go_wp2_with fail
        refine HSR.out.mono ?_
        rintro e w4 ⟨rfl, ho7, hg7⟩
        have HO7 := Lib.hid (ho7.mono HB2.out.size)
        have HB7 := Lib.hid (HB6.out.trans (grown_belowOwn HO6.out hg7 HB2.out.size HB6.out.size))
        have hpl : (pickL h k room).length = qs.length := by rw [HQK.out, srt_len]
        have HPL := Lib.hid hpl
        clear ho7 hg7 hpl
        go_wp2
        go_ret2
        exact ⟨a6, c6, -1, by rw [HPL.out]; rfl, HO7.out.cast HQK.out.symm, HB7.out⟩

/-- What is a stream of keys with a room and a salt. -/
def smpB (xs : List Int) (room salt : Int) : Bool := inR xs.length 1 128 && keysB xs && inR room 1 128 && isKey salt
def smpL (xs : List Int) (room salt : Int) : List Int := if smpB xs room salt then pickL (fun i => hashZ i salt) xs.length room else []
theorem smpL_len (xs : List Int) (room salt : Int) : (smpL xs room salt).length ≤ 128 := by
  unfold smpL
  split
  · rename_i h
    simp only [smpB, Bool.and_eq_true, inR, decide_eq_true_eq] at h
    have := pickL_len (fun i => hashZ i salt) xs.length room
    omega
  · simp

end Go.Proofs.Ytfclkbppmkjkeaa

namespace Go.Proofs.Ytfclkbppmkjkeaa
open Go.RowKit

set_option maxRecDepth 8000 in
set_option maxHeartbeats 4000000 in
theorem firstOf0_any {n : Nat} {room : Int} {F : Nat} {caps : Array Value} {h : Int → Int} {w : World} (hn : 1 ≤ n ∧ n ≤ 128) (hrm : 0 ≤ room ∧ room ≤ 128) (eF : ∀ (vs : Array Value) (w : World), (callFunc F vs).run Try.prog w = .ok (.enter F vs) w)
    (hcl : ∀ w', Below w.heap.size w w' → ∀ i j : Nat, i < n → j < n → Calls Try.prog F (#[.int .i64 i, .int .i64 j] ++ caps) w' fun e w'' => e = .returned (.int .i64 (cmp3 (h i) (h j))) ∧ ∃ q, w'' = w'.drewN q) :
    Calls Try.prog 115 #[.int .i64 n, .int .i64 room, .func (.func F) #[] caps] w fun e w' => ∃ a c bh, e = .returned (.tuple #[.slice a (pickL h n room).length c, .int .i64 bh]) ∧ bh = (if min n room.toNat < n then at0 (ordL h n) (min n room.toNat) else -1) ∧ Own (Value.int .i64) 2 w' w.heap.size a c (pickL h n room) ∧ Below w.heap.size w w' := by
  obtain ⟨B, hB⟩ : ∃ B, (if min n room.toNat < n then at0 (ordL h n) (min n room.toNat) else -1) = B := ⟨_, rfl⟩
  rw [hB]
  have HBB := Lib.hid hB
  clear hB
  have HF : Hid (∀ (vs : Array Value) (w : World), (callFunc F vs).run Try.prog w = .ok (.enter F vs) w) := eF
  have HCL : Hid (∀ w', Below w.heap.size w w' → ∀ i j : Nat, i < n → j < n → Calls Try.prog F (#[.int .i64 i, .int .i64 j] ++ caps) w' fun e w'' => e = .returned (.int .i64 (cmp3 (h i) (h j))) ∧ ∃ q, w'' = w'.drewN q) := hcl
  have HE := Lib.hid (own_empty (f := Value.int .i64) (e := 2) (α := Int) w (by_ := 0) w.heap.size (Nat.le_refl _) rfl)
  have HB1 := Lib.hid ((Below.refl w.heap.size w).alloc (Nat.le_refl _) (.cells #[] 2))
  clear eF hcl
  go_enter Try.func115, Try.ntmps115
  go_wp2_with fail
  go_loopw [8, 9, 15] (fun o _ i wr => ∃ (k : Nat) (b : Option Addr) (cc : Nat), k ≤ n ∧ i = .int .i64 k ∧ o = .slice b k cc ∧ Hid (Own (Value.int .i64) 2 wr w.heap.size b cc (idxN k)) ∧ Hid (Below w.heap.size w wr)) (fun _ _ i _ => n - (intOf i).toNat)
  case atStart => exact ⟨0, _, _, Nat.zero_le _, rfl, rfl, HE, HB1⟩
  case round =>
    obtain ⟨k, b, cc, hk, rfl, rfl, HO, HB⟩ := hrel
    by_cases hlt : k < n
    · have hltz : (k : Int) < (n : Int) := by omega
      have ewk : IntKind.i64.wrap ((k : Int) + 1) = (k : Int) + 1 := IntWalk.i64_in _ (by omega)
      have hzw := HB.out.size
      have hlk := idxN_len k
      obtain ⟨vs, hvs⟩ : ∃ vs, idxN k = vs := ⟨_, rfl⟩
      have hsu : idxN (k + 1) = vs ++ [(k : Int)] := by rw [idxN_succ, hvs]
      have HSU := Lib.hid hsu
      rw [hvs] at hlk HO
      clear hvs hsu
      subst hlk
      go_wp2_with (at_builtin; refine wpl_append1 (f := Value.int .i64) (d := 0) (base := w.heap.size) und_ise info_i (fun _ => rfl) (vs.length : Int) HO.out rfl _ _ rfl rfl rfl (by omega) (by omega) hzw ?_; intro a4 c4 w4 ho4 hg4)
      go_roundw
      case rel => exact ⟨vs.length + 1, a4, c4, by omega, by go_num, by simp, Lib.hid (ho4.cast HSU.out.symm), Lib.hid (HB.out.trans (grown_belowOwn HO.out hg4 (Nat.le_refl _) hzw))⟩
      case measure => simp [intOf]; omega
    · have hltz : ¬ (k : Int) < (n : Int) := by omega
      obtain rfl : k = n := by omega
      obtain ⟨wr, rfl⟩ : ∃ wq : World, wq = wr := ⟨_, rfl⟩
      have hto := own_as (g := vI (· % tagM)) (ys := ordT h k) HO.out (by rw [ordT_len, idxN_len]) (ordT_val (by omega))
      have hcmp : CmpOk Try.prog F caps wr (b.map (·.block)) (· % tagM) (tagK tagM) (fun s t => cmp3 (s / tagM) (t / tagM)) (fun t => ∃ i : Nat, i < k ∧ t = tag (h i) i) := by
        refine ⟨HF, fun s t _ _ => cmp3_neg _ _, ?_⟩
        rintro w' hg s t ⟨i, hi, rfl⟩ ⟨j, hj, rfl⟩
        simp only [tag_mod _ (show i ≤ 1048576 by omega), tag_mod _ (show j ≤ 1048576 by omega), tag_div _ (show i ≤ 1048576 by omega), tag_div _ (show j ≤ 1048576 by omega)]
        exact (show ∀ w', _ from HCL) w' (HB.out.trans (grown_belowOwn HO.out hg (Nat.le_refl _) HB.out.size)) i j hi hj
      have hsrt := sortStable_own hto (by rw [ordT_len]; omega) hcmp (fun t ht => ordT_mem ht) (tagK_mono tagM_pos) (ordT_stab (by omega))
      rw [ordT_len] at hsrt
      have HSRT := Lib.hid hsrt
      obtain ⟨m, hm⟩ : ∃ m : Nat, m = min k room.toNat := ⟨_, rfl⟩
      have hm1 : m ≤ k ∧ ((m : Int) = room ∨ m = k) ∧ (m : Int) ≤ room := by omega
      have hmin : ∀ w', (Builtin.min_ #[3, 3] 3 #[.int .i64 (k : Int), .int .i64 room]).run Try.prog w' = .ok (.int .i64 (m : Int)) w' := by
        intro w'
        rw [run_min_int2]
        have : (if room < (k : Int) then room else (k : Int)) = (m : Int) := by split <;> omega
        rw [this]
      have HM := Lib.hid hm
      clear hsrt hto hcmp hm
      go_wp2_with fail
      refine HSRT.out.mono ?_
      rintro e w2 ⟨rfl, ho2, hg2⟩
      have ho3 : Own (Value.int .i64) 2 w2 w.heap.size b cc (ordL h k) := by
        refine own_as ho2 (by rw [ordL_len, srt_len, ordT_len]) ?_
        unfold ordL
        rw [List.map_map]
        rfl
      have HB2 := Lib.hid (HB.out.trans (grown_belowOwn HO.out hg2 (Nat.le_refl _) HB.out.size))
      have hpk : pickL h k room = srt ((ordL h k).take m) := by unfold pickL; rw [← HM.out]
      have HPK := Lib.hid hpk
      have HF2 := Lib.hid hrm
      obtain ⟨os, hos⟩ : ∃ os, ordL h k = os := ⟨_, rfl⟩
      have hol : os.length = k := by rw [← hos, ordL_len]
      have HOS := Lib.hid hos
      rw [hos] at ho3 HPK
      clear ho2 hg2 hpk hos HSRT HCL HF HO HB hrm
      have HO3 := Lib.hid ho3
      obtain ⟨a5, c5, hcut, hrd⟩ := ho3.rd.headRun (P := Try.prog) und_is siz_is (hi := m) (by omega)
      have HRD := Lib.hid (hrd w2 ho3.rd)
      have hixm : m < k → ∀ w' : World, (Instr.indexAt 25 (.slice b os.length cc) (.int .i64 (m : Int))).run Try.prog w' = .ok (.pointer (some (elt b m))) w' := fun hmk => rd_idxAt ho3.rd und_is siz_is m (by omega) (m : Int) rfl
      obtain ⟨z, hz⟩ : ∃ z, at0 os m = z := ⟨_, rfl⟩
      have HZZ : Hid (at0 (ordL h k) (min k room.toNat) = z) := Lib.hid (by rw [HOS.out, ← HM.out]; exact hz)
      have hcz : m < k → w2.cell? (elt b m) = some (.int .i64 z) := fun hmk => at0_cell ho3.rd (by omega) hz
      have htl : (os.take m).length = m := by simp; omega
      rw [hol] at hixm hcut
      have hpk2 := HPK.out
      obtain ⟨qs, hqs⟩ : ∃ qs, os.take m = qs := ⟨_, rfl⟩
      rw [hqs] at htl HRD hpk2
      have HQK := Lib.hid hpk2
      clear ho3 hrd hz hqs hpk2 HPK
      subst htl
      by_cases hmk : qs.length < k
      · have hd : decide ((qs.length : Int) < (k : Int)) = true := decide_eq_true (by omega)
        have hi1 := hixm hmk
        have hc1 := hcz hmk
        clear hixm hcz
        go_wp2_with fail
        refine (clonei_any _ _ _ _ HRD.out (by omega)).mono ?_
        rintro e w3 ⟨a6, c6, rfl, ho6, hb6⟩
        have hsr := sorti_any ho6 (by omega)
        have HSR := Lib.hid hsr
        have HO6 := Lib.hid ho6
        have HB6 := Lib.hid (HB2.out.trans (hb6.mono HB2.out.size))
        clear hsr ho6 hb6
        go_wp2_with fail
        refine HSR.out.mono ?_
        rintro e w4 ⟨rfl, ho7, hg7⟩
        have HO7 := Lib.hid (ho7.mono HB2.out.size)
        have HB7 := Lib.hid (HB6.out.trans (grown_belowOwn HO6.out hg7 HB2.out.size HB6.out.size))
        have hpl : (pickL h k room).length = qs.length := by rw [HQK.out, srt_len]
        have HPL := Lib.hid hpl
        clear ho7 hg7 hpl
        go_wp2
        go_ret2
        exact ⟨a6, c6, z, by rw [HPL.out]; rfl, by rw [← HBB.out, if_pos (by rw [← HM.out]; exact hmk), HZZ.out], HO7.out.cast HQK.out.symm, HB7.out⟩
      · have hd : decide ((qs.length : Int) < (k : Int)) = false := decide_eq_false (by omega)
        clear hixm hcz
        go_wp2_with fail
        refine (clonei_any _ _ _ _ HRD.out (by omega)).mono ?_
        rintro e w3 ⟨a6, c6, rfl, ho6, hb6⟩
        have hsr := sorti_any ho6 (by omega)
        have HSR := Lib.hid hsr
        have HO6 := Lib.hid ho6
        have HB6 := Lib.hid (HB2.out.trans (hb6.mono HB2.out.size))
        clear hsr ho6 hb6
        go_wp2_with fail
        refine HSR.out.mono ?_
        rintro e w4 ⟨rfl, ho7, hg7⟩
        have HO7 := Lib.hid (ho7.mono HB2.out.size)
        have HB7 := Lib.hid (HB6.out.trans (grown_belowOwn HO6.out hg7 HB2.out.size HB6.out.size))
        have hpl : (pickL h k room).length = qs.length := by rw [HQK.out, srt_len]
        have HPL := Lib.hid hpl
        clear ho7 hg7 hpl
        go_wp2
        go_ret2
        exact ⟨a6, c6, -1, by rw [HPL.out]; rfl, by rw [← HBB.out, if_neg (by rw [← HM.out]; exact hmk)], HO7.out.cast HQK.out.symm, HB7.out⟩
end Go.Proofs.Ytfclkbppmkjkeaa
