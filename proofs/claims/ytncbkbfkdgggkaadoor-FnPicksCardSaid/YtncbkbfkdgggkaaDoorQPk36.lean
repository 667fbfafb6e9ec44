/- SampleStream in the program's text. The first ones by a key: plain. firstOf, with no room too. -/
import Derived.Test.YtncbkbfkdgggkaaDoorQPk16
import Derived.Test.YtncbkbfkdgggkaaDoorQPk26
import Derived.Test.YtncbkbfkdgggkaaDoorQPk30
import Derived.Test.YtncbkbfkdgggkaaDoorQPk10
import Derived.Test.YtncbkbfkdgggkaaDoorQPk31
import Derived.Test.YtncbkbfkdgggkaaDoorQPk5
set_option linter.unusedVariables false
set_option linter.unusedSimpArgs false
namespace Go.Proofs.YtncbkbfkdgggkaaDoor
open Go.RowKit

theorem compare_any {x y : Int} {w : World} : Calls Tryd.prog 29 #[.int .i64 x, .int .i64 y] w fun e w' => e = .returned (.int .i64 (cmp3 x y)) ∧ w = w' := by
  by_cases h1 : x < y
  · have hc : cmp3 x y = -1 := by unfold cmp3; rw [if_pos h1]
    have hd : decide (x < y) = true := decide_eq_true h1
    have HC := Lib.hid hc
    clear hc h1
    go_enter Tryd.func29, Tryd.ntmps29
    go_wp2_with (go_at_call 56; refine isNaNi_any.mono ?_; rintro e w1 ⟨rfl, rfl⟩)
    go_ret
    exact ⟨ret_int HC.out.symm, rfl⟩
  · have hd : decide (x < y) = false := decide_eq_false h1
    by_cases h2 : y < x
    · have hc : cmp3 x y = 1 := by unfold cmp3; rw [if_neg h1, if_pos h2]
      have hd2 : decide (x > y) = true := decide_eq_true h2
      have HC := Lib.hid hc
      clear hc h1
      go_enter Tryd.func29, Tryd.ntmps29
      go_wp2_with (go_at_call 56; refine isNaNi_any.mono ?_; rintro e w1 ⟨rfl, rfl⟩)
      go_ret
      exact ⟨ret_int HC.out.symm, rfl⟩
    · have hc : cmp3 x y = 0 := by unfold cmp3; rw [if_neg h1, if_neg h2]
      have hd2 : decide (x > y) = false := decide_eq_false h2
      have HC := Lib.hid hc
      clear hc h1
      go_enter Tryd.func29, Tryd.ntmps29
      go_wp2_with (go_at_call 56; refine isNaNi_any.mono ?_; rintro e w1 ⟨rfl, rfl⟩)
      go_ret
      exact ⟨ret_int HC.out.symm, rfl⟩

theorem hash_quiet {k s : Int} {w : World} {n : Nat} (k0 : 0 ≤ k) (k1 : k < 4294967296) (s0 : 0 ≤ s) (s1 : s < 4294967296) :
    Calls Tryd.prog 30 #[.int .i64 k, .int .i64 s] (w.drewN n) fun e w'' => e = .returned (.int .i64 (hashZ k s)) ∧ ∃ m, w'' = w.drewN m :=
  (hash_any k0 k1 s0 s1).mono fun _ _ ⟨he, hw⟩ => ⟨he, n, hw.symm⟩
theorem compare_quiet {x y : Int} {w : World} {n : Nat} : Calls Tryd.prog 29 #[.int .i64 x, .int .i64 y] (w.drewN n) fun e w'' => e = .returned (.int .i64 (cmp3 x y)) ∧ ∃ m, w'' = w.drewN m :=
  compare_any.mono fun _ _ ⟨he, hw⟩ => ⟨he, n, hw.symm⟩

theorem smp1_any {x y s : Int} {b o : Nat} {w : World} (hs : w.cell? ⟨b, o, none⟩ = some (.int .i64 s)) (x0 : 0 ≤ x) (x1 : x < 4294967296) (y0 : 0 ≤ y) (y1 : y < 4294967296) (s0 : 0 ≤ s) (s1 : s < 4294967296) :
    Calls Tryd.prog 28 #[.int .i64 x, .int .i64 y, .pointer (some ⟨b, o, none⟩)] w fun e w' => e = .returned (.int .i64 (cmp3 (hashZ x s) (hashZ y s))) ∧ ∃ q, w' = w.drewN q := by
  have HX := Lib.hid (And.intro x0 x1)
  have HY := Lib.hid (And.intro y0 y1)
  have HS := Lib.hid (And.intro s0 s1)
  clear x0 x1 y0 y1 s0 s1
  go_enter Tryd.func28, Tryd.ntmps28
  go_wp2_with fail
  go_quiet (first | (go_at_call 30; first | exact hash_quiet HX.out.1 HX.out.2 HS.out.1 HS.out.2 | exact hash_quiet HY.out.1 HY.out.2 HS.out.1 HS.out.2) | (go_at_call 29; exact compare_quiet))
  go_wp2
  go_ret
  exact ⟨rfl, nq, rfl⟩

/-- 's[:hi]', whatever the capacity is. -/
theorem Rd.headRun {α : Type} [Inhabited α] {f : α → Value} {w : World} {a : Option Addr} {c : Nat} {xs : List α} (h : Rd f w a c xs) {P : Program} {T : TypeId} (hT : P.underlying T = some (.slice (P.elem T))) (hs : ∀ w, (sizeOf (P.elem T)).run P w = .ok 1 w) {hi : Nat} (hk : hi ≤ xs.length) :
    ∃ a2 c2, (∀ w' : World, (Instr.sliceAt T (.slice a xs.length c) none (some (.int .i64 (hi : Int))) none).run P w' = .ok (.slice a2 hi c2) w') ∧ ∀ w', Rd f w' a c xs → Rd f w' a2 c2 (xs.take hi) := by
  have hcap := h.cap
  refine ⟨_, _, fun w' => ?_, fun w' hr => by have := (hr.take hi).cut (k := 0) (by simp); simpa using this⟩
  rw [run_sliceAt_slice (h := hT), run_slice_h (ht := hT) (h0 := by omega) (h2 := by omega), hs]
  simp [Result.andThen, sliced]

theorem pickL_len (h : Int → Int) (n : Nat) (room : Int) : (pickL h n room).length ≤ n := by
  unfold pickL
  rw [srt_len, List.length_take, ordL_len]
  omega

set_option maxRecDepth 8000 in
set_option maxHeartbeats 4000000 in
theorem firstOf_any {n : Nat} {room : Int} {F : Nat} {caps : Array Value} {h : Int → Int} {w : World} (hn : 1 ≤ n ∧ n ≤ 128) (hrm : 1 ≤ room ∧ room ≤ 128) (eF : ∀ (vs : Array Value) (w : World), (callFunc F vs).run Tryd.prog w = .ok (.enter F vs) w)
    (hcl : ∀ w', Below w.heap.size w w' → ∀ i j : Nat, i < n → j < n → Calls Tryd.prog F (#[.int .i64 i, .int .i64 j] ++ caps) w' fun e w'' => e = .returned (.int .i64 (cmp3 (h i) (h j))) ∧ ∃ q, w'' = w'.drewN q) :
    Calls Tryd.prog 27 #[.int .i64 n, .int .i64 room, .func (.func F) #[] caps] w fun e w' => ∃ a c bh, e = .returned (.tuple #[.slice a (pickL h n room).length c, .int .i64 bh]) ∧ Own (Value.int .i64) 2 w' w.heap.size a c (pickL h n room) ∧ Below w.heap.size w w' := by
  have HF : Hid (∀ (vs : Array Value) (w : World), (callFunc F vs).run Tryd.prog w = .ok (.enter F vs) w) := eF
  have HCL : Hid (∀ w', Below w.heap.size w w' → ∀ i j : Nat, i < n → j < n → Calls Tryd.prog F (#[.int .i64 i, .int .i64 j] ++ caps) w' fun e w'' => e = .returned (.int .i64 (cmp3 (h i) (h j))) ∧ ∃ q, w'' = w'.drewN q) := hcl
  have HE := Lib.hid (own_empty (f := Value.int .i64) (e := 2) (α := Int) w (by_ := 0) w.heap.size (Nat.le_refl _) rfl)
  have HB1 := Lib.hid ((Below.refl w.heap.size w).alloc (Nat.le_refl _) (.cells #[] 2))
  clear eF hcl
  go_enter Tryd.func27, Tryd.ntmps27
  go_wp2_with fail
  go_loopw [8, 9, 15] (fun o _ i wr => ∃ (k : Nat) (b : Option Addr) (cc : Nat), k ≤ n ∧ i = .int .i64 k ∧ o = .slice b k cc ∧ Hid (Own (Value.int .i64) 2 wr w.heap.size b cc (idxN k)) ∧ Hid (Below w.heap.size w wr)) (fun _ _ i _ => n - (intOf i).toNat)
  case atStart => exact ⟨0, _, _, Nat.zero_le _, rfl, rfl, HE, HB1⟩
  case round =>
    obtain ⟨k, b, cc, hk, rfl, rfl, HO, HB⟩ := hrel
    by_cases hlt : k < n
    · have hltz : (k : Int) < (n : Int) := by omega
      have ewk : IntKind.i64.wrap ((k : Int) + 1) = (k : Int) + 1 := IntWalk.i64_in _ (by omega)
      have hzw := HB.out.size
      have hlk := idxN_len k
      obtain ⟨vs, hvs⟩ : ∃ vs, idxN k = vs := ⟨_, rfl⟩
      have hsu : idxN (k + 1) = vs ++ [(k : Int)] := by rw [idxN_succ, hvs]
      have HSU := Lib.hid hsu
      rw [hvs] at hlk HO
      clear hvs hsu
      subst hlk
      go_wp2_with (at_builtin; refine wpl_append1 (f := Value.int .i64) (d := 0) (base := w.heap.size) und_ise info_i (fun _ => rfl) (vs.length : Int) HO.out rfl _ _ rfl rfl rfl (by omega) (by omega) hzw ?_; intro a4 c4 w4 ho4 hg4)
      go_roundw
      case rel => exact ⟨vs.length + 1, a4, c4, by omega, by go_num, by simp, Lib.hid (ho4.cast HSU.out.symm), Lib.hid (HB.out.trans (grown_belowOwn HO.out hg4 (Nat.le_refl _) hzw))⟩
      case measure => simp [intOf]; omega
    · have hltz : ¬ (k : Int) < (n : Int) := by omega
      obtain rfl : k = n := by omega
      obtain ⟨wr, rfl⟩ : ∃ wq : World, wq = wr := ⟨_, rfl⟩
      have hto := own_as (g := vI (· % tagM)) (ys := ordT h k) HO.out (by rw [ordT_len, idxN_len]) (ordT_val (by omega))
      have hcmp : CmpOk Tryd.prog F caps wr (b.map (·.block)) (· % tagM) (tagK tagM) (fun s t => cmp3 (s / tagM) (t / tagM)) (fun t => ∃ i : Nat, i < k ∧ t = tag (h i) i) := by
        refine ⟨HF, fun s t _ _ => cmp3_neg _ _, ?_⟩
        rintro w' hg s t ⟨i, hi, rfl⟩ ⟨j, hj, rfl⟩
        simp only [tag_mod _ (show i ≤ 1048576 by omega), tag_mod _ (show j ≤ 1048576 by omega), tag_div _ (show i ≤ 1048576 by omega), tag_div _ (show j ≤ 1048576 by omega)]
        exact (show ∀ w', _ from HCL) w' (HB.out.trans (grown_belowOwn HO.out hg (Nat.le_refl _) HB.out.size)) i j hi hj
      have hsrt := sortStable_own hto (by rw [ordT_len]; omega) hcmp (fun t ht => ordT_mem ht) (tagK_mono tagM_pos) (ordT_stab (by omega))
      rw [ordT_len] at hsrt
      have HSRT := Lib.hid hsrt
      obtain ⟨m, hm⟩ : ∃ m : Nat, m = min k room.toNat := ⟨_, rfl⟩
      have hm1 : 1 ≤ m ∧ m ≤ k ∧ ((m : Int) = room ∨ m = k) ∧ (m : Int) ≤ room := by omega
      have hmin : ∀ w', (Builtin.min_ #[3, 3] 3 #[.int .i64 (k : Int), .int .i64 room]).run Tryd.prog w' = .ok (.int .i64 (m : Int)) w' := by
        intro w'
        rw [run_min_int2]
        have : (if room < (k : Int) then room else (k : Int)) = (m : Int) := by split <;> omega
        rw [this]
      have HM := Lib.hid hm
      clear hsrt hto hcmp hm
      go_wp2_with fail
      refine HSRT.out.mono ?_
      rintro e w2 ⟨rfl, ho2, hg2⟩
      have ho3 : Own (Value.int .i64) 2 w2 w.heap.size b cc (ordL h k) := by
        refine own_as ho2 (by rw [ordL_len, srt_len, ordT_len]) ?_
        unfold ordL
        rw [List.map_map]
        rfl
      have HB2 := Lib.hid (HB.out.trans (grown_belowOwn HO.out hg2 (Nat.le_refl _) HB.out.size))
      have hpk : pickL h k room = srt ((ordL h k).take m) := by unfold pickL; rw [← HM.out]
      have HPK := Lib.hid hpk
      have HF2 := Lib.hid hrm
      obtain ⟨os, hos⟩ : ∃ os, ordL h k = os := ⟨_, rfl⟩
      have hol : os.length = k := by rw [← hos, ordL_len]
      rw [hos] at ho3 HPK
      clear ho2 hg2 hpk hos HSRT HCL HF HO HB hrm
      have HO3 := Lib.hid ho3
      obtain ⟨a5, c5, hcut, hrd⟩ := ho3.rd.headRun (P := Tryd.prog) und_is siz_is (hi := m) (by omega)
      have HRD := Lib.hid (hrd w2 ho3.rd)
      have hixm : m < k → ∀ w' : World, (Instr.indexAt 25 (.slice b os.length cc) (.int .i64 (m : Int))).run Tryd.prog w' = .ok (.pointer (some (elt b m))) w' := fun hmk => rd_idxAt ho3.rd und_is siz_is m (by omega) (m : Int) rfl
      obtain ⟨z, hz⟩ : ∃ z, at0 os m = z := ⟨_, rfl⟩
      have hcz : m < k → w2.cell? (elt b m) = some (.int .i64 z) := fun hmk => at0_cell ho3.rd (by omega) hz
      have htl : (os.take m).length = m := by simp; omega
      rw [hol] at hixm hcut
      have hpk2 := HPK.out
      obtain ⟨qs, hqs⟩ : ∃ qs, os.take m = qs := ⟨_, rfl⟩
      rw [hqs] at htl HRD hpk2
      have HQK := Lib.hid hpk2
      clear ho3 hrd hz hqs hpk2 HPK
      subst htl
      by_cases hmk : qs.length < k
      · have hd : decide ((qs.length : Int) < (k : Int)) = true := decide_eq_true (by omega)
        have hi1 := hixm hmk
        have hc1 := hcz hmk
        clear hixm hcz
        go_wp2_with fail
        refine (clonei_any _ _ _ _ HRD.out (by omega)).mono ?_
        rintro e w3 ⟨a6, c6, rfl, ho6, hb6⟩
        have hne : qs ≠ [] := List.length_pos_iff.1 (by omega)
        have hsr := sorti_own ho6 (by omega) hne
        have HSR := Lib.hid hsr
        have HO6 := Lib.hid ho6
        have HB6 := Lib.hid (HB2.out.trans (hb6.mono HB2.out.size))
        clear hsr ho6 hb6 hne
        go_wp2_with fail
        refine HSR.out.mono ?_
        rintro e w4 ⟨rfl, ho7, hg7⟩
        have HO7 := Lib.hid (ho7.mono HB2.out.size)
        have HB7 := Lib.hid (HB6.out.trans (grown_belowOwn HO6.out hg7 HB2.out.size HB6.out.size))
        have hpl : (pickL h k room).length = qs.length := by rw [HQK.out, srt_len]
        have HPL := Lib.hid hpl
        clear ho7 hg7 hpl
        go_wp2
        go_ret2
        exact ⟨a6, c6, z, by rw [HPL.out]; rfl, HO7.out.cast HQK.out.symm, HB7.out⟩
      · have hd : decide ((qs.length : Int) < (k : Int)) = false := decide_eq_false (by omega)
        clear hixm hcz
        go_wp2_with fail
        refine (clonei_any _ _ _ _ HRD.out (by omega)).mono ?_
        rintro e w3 ⟨a6, c6, rfl, ho6, hb6⟩
        have hne : qs ≠ [] := List.length_pos_iff.1 (by omega)
        have hsr := sorti_own ho6 (by omega) hne
        have HSR := Lib.hid hsr
        have HO6 := Lib.hid ho6
        have HB6 := Lib.hid (HB2.out.trans (hb6.mono HB2.out.size))
        clear hsr ho6 hb6 hne
        go_wp2_with fail
        refine HSR.out.mono ?_
        rintro e w4 ⟨rfl, ho7, hg7⟩
        have HO7 := Lib.hid (ho7.mono HB2.out.size)
        have HB7 := Lib.hid (HB6.out.trans (grown_belowOwn HO6.out hg7 HB2.out.size HB6.out.size))
        have hpl : (pickL h k room).length = qs.length := by rw [HQK.out, srt_len]
        have HPL := Lib.hid hpl
        clear ho7 hg7 hpl
        go_wp2
        go_ret2
        exact ⟨a6, c6, -1, by rw [HPL.out]; rfl, HO7.out.cast HQK.out.symm, HB7.out⟩

theorem areStreamKeys_any {a : Option Addr} {c : Nat} {xs : List Int} {w : World} (hr : Rd (Value.int .i64) w a c xs) :
    Calls Tryd.prog 24 #[.slice a xs.length c] w fun e w' => e = .returned (.bool (inR xs.length 1 128 && keysB xs)) ∧ Below w.heap.size w w' := by
  cases h1 : inR xs.length 1 128 with
  | false =>
    go_enter Tryd.func24, Tryd.ntmps24
    go_wp2_with fail
    refine (isStream_any).mono ?_
    rintro e w1 ⟨rfl, rfl⟩
    rw [h1]
    go_wp2
    go_ret
    exact ⟨rfl, Below.refl _ _⟩
  | true =>
    go_enter Tryd.func24, Tryd.ntmps24
    go_wp2_with fail
    refine (isStream_any).mono ?_
    rintro e w1 ⟨rfl, rfl⟩
    rw [h1]
    go_wp2_with fail
    refine (areAllKeys_any hr).mono ?_
    rintro e w2 ⟨rfl, hb⟩
    go_wp2
    go_ret
    exact ⟨ret_bool (by simp), hb⟩

theorem isStreamRoom_any {x : Int} {w : World} : Calls Tryd.prog 25 #[.int .i64 x] w fun e w' => e = .returned (.bool (inR x 1 128)) ∧ w = w' := by
  go_enter Tryd.func25, Tryd.ntmps25
  go_wp2_with fail
  refine (within_any _ _ _ _).mono ?_
  rintro e w1 ⟨rfl, rfl⟩
  go_wp2
  go_ret
  exact ⟨rfl, rfl⟩

/-- What is a stream of keys with a room and a salt. -/
def smpB (xs : List Int) (room salt : Int) : Bool := inR xs.length 1 128 && keysB xs && inR room 1 128 && isKey salt
def smpL (xs : List Int) (room salt : Int) : List Int := if smpB xs room salt then pickL (fun i => hashZ i salt) xs.length room else []
theorem smpL_len (xs : List Int) (room salt : Int) : (smpL xs room salt).length ≤ 128 := by
  unfold smpL
  split
  · rename_i h
    simp only [smpB, Bool.and_eq_true, inR, decide_eq_true_eq] at h
    have := pickL_len (fun i => hashZ i salt) xs.length room
    omega
  · simp

theorem call_smp1 (vs : Array Value) (w : World) : (callFunc 28 vs).run Tryd.prog w = .ok (.enter 28 vs) w := by kernel_rfl

set_option maxRecDepth 8000 in
set_option maxHeartbeats 4000000 in
theorem implSample_any {a : Option Addr} {c : Nat} {xs : List Int} {room salt : Int} {w : World} (hr : Rd (Value.int .i64) w a c xs) :
    Calls Tryd.prog 7 #[.slice a xs.length c, .int .i64 room, .int .i64 salt] w (RetSB (Value.int .i64) 2 w (smpL xs room salt) (smpB xs room salt)) := by
  have hb0 : Below w.heap.size w (w.alloc (.cells #[.int .i64 salt] 2)) := (Below.refl _ _).alloc (Nat.le_refl _) _
  have hrb := hr.below hb0 (Nat.le_refl _)
  have hc0 : (w.alloc (.cells #[.int .i64 salt] 2)).cell? ⟨w.heap.size, 0, none⟩ = some (.int .i64 salt) := World.cell?_alloc_at _ _ _ _ rfl
  cases h1 : (inR xs.length 1 128 && keysB xs) with
  | false =>
    have hb : smpB xs room salt = false := by unfold smpB; rw [h1]; rfl
    unfold smpL
    rw [hb]
    go_enter Tryd.func7, Tryd.ntmps7
    go_wp2_with fail
    refine (areStreamKeys_any hrb).mono ?_
    rintro e w1 ⟨rfl, hb1⟩
    rw [h1]
    have HB := Lib.hid (hb0.trans (hb1.mono hb0.size))
    clear hb1 hb0
    go_wp2
    go_ret2
    exact retSB_no HB.out
  | true =>
  cases h2 : inR room 1 128 with
  | false =>
    have hb : smpB xs room salt = false := by unfold smpB; rw [h1, h2]; rfl
    unfold smpL
    rw [hb]
    go_enter Tryd.func7, Tryd.ntmps7
    go_wp2_with fail
    refine (areStreamKeys_any hrb).mono ?_
    rintro e w1 ⟨rfl, hb1⟩
    rw [h1]
    have HB := Lib.hid (hb0.trans (hb1.mono hb0.size))
    clear hb1 hb0
    go_wp2_with fail
    refine (isStreamRoom_any).mono ?_
    rintro e w2 ⟨rfl, rfl⟩
    rw [h2]
    go_wp2
    go_ret2
    exact retSB_no HB.out
  | true =>
  cases h3 : isKey salt with
  | false =>
    have hb : smpB xs room salt = false := by unfold smpB; rw [h1, h2, h3]; rfl
    unfold smpL
    rw [hb]
    go_enter Tryd.func7, Tryd.ntmps7
    go_wp2_with fail
    refine (areStreamKeys_any hrb).mono ?_
    rintro e w1 ⟨rfl, hb1⟩
    rw [h1]
    have HB := Lib.hid (hb0.trans (hb1.mono hb0.size))
    have hc1 := k_below hb1 (Nat.le_refl _) hc0
    clear hb1 hb0 hc0
    go_wp2_with fail
    refine (isStreamRoom_any).mono ?_
    rintro e w2 ⟨rfl, rfl⟩
    rw [h2]
    go_wp2_with fail
    refine (implIsKey_any).mono ?_
    rintro e w2 ⟨rfl, rfl⟩
    rw [h3]
    go_wp2
    go_ret2
    exact retSB_no HB.out
  | true =>
    have hb : smpB xs room salt = true := by unfold smpB; rw [h1, h2, h3]; rfl
    unfold smpL
    rw [hb, if_pos rfl]
    have hk3 := isKey_bd h3
    have hx1 : 1 ≤ xs.length ∧ xs.length ≤ 128 := by
      simp only [Bool.and_eq_true, inR, decide_eq_true_eq] at h1; omega
    have hx2 : 1 ≤ room ∧ room ≤ 128 := by
      simpa only [Bool.and_eq_true, inR, decide_eq_true_eq] using h2
    have HK3 := Lib.hid hk3
    have HX2 := Lib.hid (And.intro hx1 hx2)
    clear hk3 hx1 hx2 hb
    obtain ⟨ps, hps⟩ : ∃ ps, pickL (fun i => hashZ i salt) xs.length room = ps := ⟨_, rfl⟩
    have HPS := Lib.hid hps
    rw [hps]
    clear hps
    go_enter Tryd.func7, Tryd.ntmps7
    go_wp2_with fail
    refine (areStreamKeys_any hrb).mono ?_
    rintro e w1 ⟨rfl, hb1⟩
    rw [h1]
    have HB := Lib.hid (hb0.trans (hb1.mono hb0.size))
    have hc1 := k_below hb1 (Nat.le_refl _) hc0
    clear hb1 hb0 hc0
    go_wp2_with fail
    refine (isStreamRoom_any).mono ?_
    rintro e w2 ⟨rfl, rfl⟩
    rw [h2]
    go_wp2_with fail
    refine (implIsKey_any).mono ?_
    rintro e w2 ⟨rfl, rfl⟩
    rw [h3]
    have HF := Lib.hid (firstOf_any (n := xs.length) (room := room) (F := 28) (caps := #[.pointer (some ⟨w.heap.size, 0, none⟩)]) (h := fun i => hashZ i salt) (w := w1) HX2.out.1 HX2.out.2 call_smp1
      (fun w' hbw i j hi hj => by
        have hx := HX2.out.1
        simpa using smp1_any (w := w') (k_below hbw (Nat.le_refl _) hc1) (x := i) (y := j) (by omega) (by omega) (by omega) (by omega) HK3.out.1 HK3.out.2))
    rw [HPS.out] at HF
    clear hc1
    go_wp2_with fail
    refine HF.out.mono ?_
    rintro e w2 ⟨a2, c2, bh, rfl, ho2, hb2⟩
    have HO2 := Lib.hid (ho2.mono HB.out.size)
    have HB2 := Lib.hid (HB.out.trans (hb2.mono HB.out.size))
    clear ho2 hb2 HF
    go_wp2
    go_ret2
    exact ⟨a2, c2, rfl, HO2.out, HB2.out⟩

end Go.Proofs.YtncbkbfkdgggkaaDoor

namespace Go.Proofs.YtncbkbfkdgggkaaDoor
open Go.RowKit

/-- The first ones by a key. -/
structure PickOk (h : Int → Int) (n m : Nat) (sel : List Int) : Prop where
  len : sel.length = m
  rng : ∀ x ∈ sel, 0 ≤ x ∧ x < (n : Int)
  ord : ∀ i j : Nat, i < n → j < n → (i : Int) ∈ sel → ¬ (j : Int) ∈ sel → h i ≤ h j
  all : m = n → ∀ i : Nat, i < n → (i : Int) ∈ sel
theorem ordT_in {h : Int → Int} {n i : Nat} (hi : i < n) : tag (h i) i ∈ ordT h n := by
  unfold ordT tags
  rw [List.mem_map]
  exact ⟨i, by rw [List.mem_range, idxN_len]; exact hi, by rw [idxN_at hi]⟩
theorem pick_ok {h : Int → Int} {n : Nat} {room : Int} (hn : n ≤ 1048576) : PickOk h n (min n room.toNat) (pickL h n room) := by
  obtain ⟨m, hm⟩ : ∃ m, min n room.toNat = m := ⟨_, rfl⟩
  have hmn : m ≤ n := by omega
  obtain ⟨ts, hts⟩ : ∃ ts, srt (ordT h n) = ts := ⟨_, rfl⟩
  have hpm : ∀ t, t ∈ ts ↔ t ∈ ordT h n := fun t => by rw [← hts]; exact (srt_perm _).mem_iff
  have hpw : ts.Pairwise (· ≤ ·) := by rw [← hts]; exact srt_pw _
  have htl : ts.length = n := by rw [← hts, srt_len, ordT_len]
  have hsel : ∀ x, x ∈ pickL h n room ↔ ∃ t, t ∈ ts.take m ∧ t % tagM = x := by
    intro x
    unfold pickL ordL
    rw [hm, (srt_perm _).mem_iff, hts, ← List.map_take, List.mem_map]
  have htag : ∀ t, t ∈ ts → ∃ i : Nat, i < n ∧ t = tag (h i) i := fun t ht => ordT_mem ((hpm t).1 ht)
  rw [hm]
  refine ⟨?_, ?_, ?_, ?_⟩
  · unfold pickL
    rw [srt_len, List.length_take, ordL_len]
    omega
  · intro x hx
    obtain ⟨t, ht, rfl⟩ := (hsel x).1 hx
    obtain ⟨i, hi, rfl⟩ := htag t (List.mem_of_mem_take ht)
    rw [tag_mod _ (by omega)]
    omega
  · intro i j hi hj hin hout
    obtain ⟨t, ht, hti⟩ := (hsel i).1 hin
    obtain ⟨i', hi', rfl⟩ := htag t (List.mem_of_mem_take ht)
    rw [tag_mod _ (by omega)] at hti
    obtain rfl : i' = i := by omega
    have hj2 : tag (h j) j ∈ ts := (hpm _).2 (ordT_in hj)
    rw [← List.take_append_drop m ts] at hj2 hpw
    rcases List.mem_append.1 hj2 with g | g
    · exact absurd ((hsel j).2 ⟨_, g, tag_mod _ (by omega)⟩) hout
    · have := (List.pairwise_append.1 hpw).2.2 _ ht _ g
      unfold tag tagM at this
      omega
  · intro e i hi
    refine (hsel i).2 ⟨tag (h i) i, ?_, tag_mod _ (by omega)⟩
    rw [e, ← htl, List.take_length]
    exact (hpm _).2 (ordT_in hi)

end Go.Proofs.YtncbkbfkdgggkaaDoor

namespace Go.Proofs.YtncbkbfkdgggkaaDoor
open Go.RowKit

set_option maxRecDepth 8000 in
set_option maxHeartbeats 4000000 in
theorem firstOf0_any {n : Nat} {room : Int} {F : Nat} {caps : Array Value} {h : Int → Int} {w : World} (hn : 1 ≤ n ∧ n ≤ 128) (hrm : 0 ≤ room ∧ room ≤ 128) (eF : ∀ (vs : Array Value) (w : World), (callFunc F vs).run Tryd.prog w = .ok (.enter F vs) w)
    (hcl : ∀ w', Below w.heap.size w w' → ∀ i j : Nat, i < n → j < n → Calls Tryd.prog F (#[.int .i64 i, .int .i64 j] ++ caps) w' fun e w'' => e = .returned (.int .i64 (cmp3 (h i) (h j))) ∧ ∃ q, w'' = w'.drewN q) :
    Calls Tryd.prog 27 #[.int .i64 n, .int .i64 room, .func (.func F) #[] caps] w fun e w' => ∃ a c bh, e = .returned (.tuple #[.slice a (pickL h n room).length c, .int .i64 bh]) ∧ bh = (if min n room.toNat < n then at0 (ordL h n) (min n room.toNat) else -1) ∧ Own (Value.int .i64) 2 w' w.heap.size a c (pickL h n room) ∧ Below w.heap.size w w' := by
  obtain ⟨B, hB⟩ : ∃ B, (if min n room.toNat < n then at0 (ordL h n) (min n room.toNat) else -1) = B := ⟨_, rfl⟩
  rw [hB]
  have HBB := Lib.hid hB
  clear hB
  have HF : Hid (∀ (vs : Array Value) (w : World), (callFunc F vs).run Tryd.prog w = .ok (.enter F vs) w) := eF
  have HCL : Hid (∀ w', Below w.heap.size w w' → ∀ i j : Nat, i < n → j < n → Calls Tryd.prog F (#[.int .i64 i, .int .i64 j] ++ caps) w' fun e w'' => e = .returned (.int .i64 (cmp3 (h i) (h j))) ∧ ∃ q, w'' = w'.drewN q) := hcl
  have HE := Lib.hid (own_empty (f := Value.int .i64) (e := 2) (α := Int) w (by_ := 0) w.heap.size (Nat.le_refl _) rfl)
  have HB1 := Lib.hid ((Below.refl w.heap.size w).alloc (Nat.le_refl _) (.cells #[] 2))
  clear eF hcl
  go_enter Tryd.func27, Tryd.ntmps27
  go_wp2_with fail
  go_loopw [8, 9, 15] (fun o _ i wr => ∃ (k : Nat) (b : Option Addr) (cc : Nat), k ≤ n ∧ i = .int .i64 k ∧ o = .slice b k cc ∧ Hid (Own (Value.int .i64) 2 wr w.heap.size b cc (idxN k)) ∧ Hid (Below w.heap.size w wr)) (fun _ _ i _ => n - (intOf i).toNat)
  case atStart => exact ⟨0, _, _, Nat.zero_le _, rfl, rfl, HE, HB1⟩
  case round =>
    obtain ⟨k, b, cc, hk, rfl, rfl, HO, HB⟩ := hrel
    by_cases hlt : k < n
    · have hltz : (k : Int) < (n : Int) := by omega
      have ewk : IntKind.i64.wrap ((k : Int) + 1) = (k : Int) + 1 := IntWalk.i64_in _ (by omega)
      have hzw := HB.out.size
      have hlk := idxN_len k
      obtain ⟨vs, hvs⟩ : ∃ vs, idxN k = vs := ⟨_, rfl⟩
      have hsu : idxN (k + 1) = vs ++ [(k : Int)] := by rw [idxN_succ, hvs]
      have HSU := Lib.hid hsu
      rw [hvs] at hlk HO
      clear hvs hsu
      subst hlk
      go_wp2_with (at_builtin; refine wpl_append1 (f := Value.int .i64) (d := 0) (base := w.heap.size) und_ise info_i (fun _ => rfl) (vs.length : Int) HO.out rfl _ _ rfl rfl rfl (by omega) (by omega) hzw ?_; intro a4 c4 w4 ho4 hg4)
      go_roundw
      case rel => exact ⟨vs.length + 1, a4, c4, by omega, by go_num, by simp, Lib.hid (ho4.cast HSU.out.symm), Lib.hid (HB.out.trans (grown_belowOwn HO.out hg4 (Nat.le_refl _) hzw))⟩
      case measure => simp [intOf]; omega
    · have hltz : ¬ (k : Int) < (n : Int) := by omega
      obtain rfl : k = n := by omega
      obtain ⟨wr, rfl⟩ : ∃ wq : World, wq = wr := ⟨_, rfl⟩
      have hto := own_as (g := vI (· % tagM)) (ys := ordT h k) HO.out (by rw [ordT_len, idxN_len]) (ordT_val (by omega))
      have hcmp : CmpOk Tryd.prog F caps wr (b.map (·.block)) (· % tagM) (tagK tagM) (fun s t => cmp3 (s / tagM) (t / tagM)) (fun t => ∃ i : Nat, i < k ∧ t = tag (h i) i) := by
        refine ⟨HF, fun s t _ _ => cmp3_neg _ _, ?_⟩
        rintro w' hg s t ⟨i, hi, rfl⟩ ⟨j, hj, rfl⟩
        simp only [tag_mod _ (show i ≤ 1048576 by omega), tag_mod _ (show j ≤ 1048576 by omega), tag_div _ (show i ≤ 1048576 by omega), tag_div _ (show j ≤ 1048576 by omega)]
        exact (show ∀ w', _ from HCL) w' (HB.out.trans (grown_belowOwn HO.out hg (Nat.le_refl _) HB.out.size)) i j hi hj
      have hsrt := sortStable_own hto (by rw [ordT_len]; omega) hcmp (fun t ht => ordT_mem ht) (tagK_mono tagM_pos) (ordT_stab (by omega))
      rw [ordT_len] at hsrt
      have HSRT := Lib.hid hsrt
      obtain ⟨m, hm⟩ : ∃ m : Nat, m = min k room.toNat := ⟨_, rfl⟩
      have hm1 : m ≤ k ∧ ((m : Int) = room ∨ m = k) ∧ (m : Int) ≤ room := by omega
      have hmin : ∀ w', (Builtin.min_ #[3, 3] 3 #[.int .i64 (k : Int), .int .i64 room]).run Tryd.prog w' = .ok (.int .i64 (m : Int)) w' := by
        intro w'
        rw [run_min_int2]
        have : (if room < (k : Int) then room else (k : Int)) = (m : Int) := by split <;> omega
        rw [this]
      have HM := Lib.hid hm
      clear hsrt hto hcmp hm
      go_wp2_with fail
      refine HSRT.out.mono ?_
      rintro e w2 ⟨rfl, ho2, hg2⟩
      have ho3 : Own (Value.int .i64) 2 w2 w.heap.size b cc (ordL h k) := by
        refine own_as ho2 (by rw [ordL_len, srt_len, ordT_len]) ?_
        unfold ordL
        rw [List.map_map]
        rfl
      have HB2 := Lib.hid (HB.out.trans (grown_belowOwn HO.out hg2 (Nat.le_refl _) HB.out.size))
      have hpk : pickL h k room = srt ((ordL h k).take m) := by unfold pickL; rw [← HM.out]
      have HPK := Lib.hid hpk
      have HF2 := Lib.hid hrm
      obtain ⟨os, hos⟩ : ∃ os, ordL h k = os := ⟨_, rfl⟩
      have hol : os.length = k := by rw [← hos, ordL_len]
      have HOS := Lib.hid hos
      rw [hos] at ho3 HPK
      clear ho2 hg2 hpk hos HSRT HCL HF HO HB hrm
      have HO3 := Lib.hid ho3
      obtain ⟨a5, c5, hcut, hrd⟩ := ho3.rd.headRun (P := Tryd.prog) und_is siz_is (hi := m) (by omega)
      have HRD := Lib.hid (hrd w2 ho3.rd)
      have hixm : m < k → ∀ w' : World, (Instr.indexAt 25 (.slice b os.length cc) (.int .i64 (m : Int))).run Tryd.prog w' = .ok (.pointer (some (elt b m))) w' := fun hmk => rd_idxAt ho3.rd und_is siz_is m (by omega) (m : Int) rfl
      obtain ⟨z, hz⟩ : ∃ z, at0 os m = z := ⟨_, rfl⟩
      have HZZ : Hid (at0 (ordL h k) (min k room.toNat) = z) := Lib.hid (by rw [HOS.out, ← HM.out]; exact hz)
      have hcz : m < k → w2.cell? (elt b m) = some (.int .i64 z) := fun hmk => at0_cell ho3.rd (by omega) hz
      have htl : (os.take m).length = m := by simp; omega
      rw [hol] at hixm hcut
      have hpk2 := HPK.out
      obtain ⟨qs, hqs⟩ : ∃ qs, os.take m = qs := ⟨_, rfl⟩
      rw [hqs] at htl HRD hpk2
      have HQK := Lib.hid hpk2
      clear ho3 hrd hz hqs hpk2 HPK
      subst htl
      by_cases hmk : qs.length < k
      · have hd : decide ((qs.length : Int) < (k : Int)) = true := decide_eq_true (by omega)
        have hi1 := hixm hmk
        have hc1 := hcz hmk
        clear hixm hcz
        go_wp2_with fail
        refine (clonei_any _ _ _ _ HRD.out (by omega)).mono ?_
        rintro e w3 ⟨a6, c6, rfl, ho6, hb6⟩
        have hsr := sorti_any ho6 (by omega)
        have HSR := Lib.hid hsr
        have HO6 := Lib.hid ho6
        have HB6 := Lib.hid (HB2.out.trans (hb6.mono HB2.out.size))
        clear hsr ho6 hb6
        go_wp2_with fail
        refine HSR.out.mono ?_
        rintro e w4 ⟨rfl, ho7, hg7⟩
        have HO7 := Lib.hid (ho7.mono HB2.out.size)
        have HB7 := Lib.hid (HB6.out.trans (grown_belowOwn HO6.out hg7 HB2.out.size HB6.out.size))
        have hpl : (pickL h k room).length = qs.length := by rw [HQK.out, srt_len]
        have HPL := Lib.hid hpl
        clear ho7 hg7 hpl
        go_wp2
        go_ret2
        exact ⟨a6, c6, z, by rw [HPL.out]; rfl, by rw [← HBB.out, if_pos (by rw [← HM.out]; exact hmk), HZZ.out], HO7.out.cast HQK.out.symm, HB7.out⟩
      · have hd : decide ((qs.length : Int) < (k : Int)) = false := decide_eq_false (by omega)
        clear hixm hcz
        go_wp2_with fail
        refine (clonei_any _ _ _ _ HRD.out (by omega)).mono ?_
        rintro e w3 ⟨a6, c6, rfl, ho6, hb6⟩
        have hsr := sorti_any ho6 (by omega)
        have HSR := Lib.hid hsr
        have HO6 := Lib.hid ho6
        have HB6 := Lib.hid (HB2.out.trans (hb6.mono HB2.out.size))
        clear hsr ho6 hb6
        go_wp2_with fail
        refine HSR.out.mono ?_
        rintro e w4 ⟨rfl, ho7, hg7⟩
        have HO7 := Lib.hid (ho7.mono HB2.out.size)
        have HB7 := Lib.hid (HB6.out.trans (grown_belowOwn HO6.out hg7 HB2.out.size HB6.out.size))
        have hpl : (pickL h k room).length = qs.length := by rw [HQK.out, srt_len]
        have HPL := Lib.hid hpl
        clear ho7 hg7 hpl
        go_wp2
        go_ret2
        exact ⟨a6, c6, -1, by rw [HPL.out]; rfl, by rw [← HBB.out, if_neg (by rw [← HM.out]; exact hmk)], HO7.out.cast HQK.out.symm, HB7.out⟩
end Go.Proofs.YtncbkbfkdgggkaaDoor
