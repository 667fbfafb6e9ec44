/- SampleStream in the reference's text. -/
import Derived.Test.YtihbckoldblpcaaOrdR
import Derived.Test.YtihbckoldblpcaaSmpI
namespace Go.Proofs.Ytihbckoldblpcaa
open Go.RowKit

theorem ordT_congr {h g : Int → Int} {n : Nat} (e : ∀ i : Nat, i < n → h i = g i) : ordT h n = ordT g n := by
  unfold ordT tags
  rw [idxN_len]
  apply List.map_congr_left
  intro i hi
  rw [List.mem_range] at hi
  rw [idxN_at hi, e i hi]
theorem keyH_idxN (s : Int) (n : Nat) : ordL (keyH (idxN n) s) n = ordL (fun i => hashZ i s) n := by
  unfold ordL
  rw [ordT_congr (g := fun i => hashZ i s)]
  intro i hi
  unfold keyH
  rw [Int.toNat_natCast, idxN_at hi]
theorem keysB_idxN {n : Nat} (hn : n ≤ 256) : keysB (idxN n) = true := by
  unfold keysB
  rw [List.all_eq_true]
  intro x hx
  unfold idxN at hx
  rw [List.mem_map] at hx
  obtain ⟨i, hi, rfl⟩ := hx
  rw [List.mem_range] at hi
  simp [isKey, inR]
  omega

theorem l00Min_any {x y m : Int} {w : World} (hm : (if x < y then x else y) = m) : Calls Try.prog 93 #[.int .i64 x, .int .i64 y] w fun e w' => e = .returned (.int .i64 m) ∧ w = w' := by
  by_cases h : x < y
  · have hd : decide (x < y) = true := decide_eq_true h
    rw [if_pos h] at hm
    subst hm
    clear h
    go_enter Try.func93, Try.ntmps93
    go_wp2
    go_ret
    exact ⟨rfl, rfl⟩
  · have hd : decide (x < y) = false := decide_eq_false h
    rw [if_neg h] at hm
    subst hm
    clear h
    go_enter Try.func93, Try.ntmps93
    go_wp2
    go_ret
    exact ⟨rfl, rfl⟩

theorem l06Room_any {x : Int} {w : World} : Calls Try.prog 90 #[.int .i64 x] w fun e w' => e = .returned (.bool (inR x 1 128)) ∧ w = w' := by
  go_enter Try.func90, Try.ntmps90
  go_wp2_with fail
  refine (l00In_any _ _ _ _).mono ?_
  rintro e w1 ⟨rfl, rfl⟩
  go_wp2
  go_ret
  exact ⟨rfl, rfl⟩

theorem l06Keys_any {a : Option Addr} {c : Nat} {xs : List Int} {w : World} (hr : Rd (Value.int .i64) w a c xs) :
    Calls Try.prog 89 #[.slice a xs.length c] w fun e w' => e = .returned (.bool (inR xs.length 1 128 && keysB xs)) ∧ Below w.heap.size w w' := by
  have hln := hr.len
  by_cases h1 : 1 ≤ xs.length
  · have d1 : decide ((1 : Int) ≤ (xs.length : Int)) = true := decide_eq_true (by omega)
    have d1n : decide (1 ≤ xs.length) = true := decide_eq_true h1
    have d1m : decide (0 < xs.length) = true := decide_eq_true h1
    by_cases h2 : xs.length ≤ 128
    · have d2 : decide ((xs.length : Int) ≤ 128) = true := decide_eq_true (by omega)
      have d2n : decide (xs.length ≤ 128) = true := decide_eq_true h2
      have hv := Lib.hid (show (inR xs.length 1 128 && keysB xs) = keysB xs by
        have : inR xs.length 1 128 = true := by simp [inR]; omega
        rw [this, Bool.true_and])
      have HC := Lib.hid (l02Keys_any hr)
      have h4 : decide (xs.length ≤ 256) = true := by simp; omega
      rw [h4, Bool.true_and] at HC
      clear h1 h2 h4
      go_enter Try.func89, Try.ntmps89
      go_wp2_with fail
      refine HC.out.mono ?_
      rintro e w1 ⟨rfl, hb1⟩
      go_wp2
      go_ret
      exact ⟨ret_bool hv.out.symm, hb1⟩
    · have d2 : decide ((xs.length : Int) ≤ 128) = false := decide_eq_false (by omega)
      have d2n : decide (xs.length ≤ 128) = false := decide_eq_false h2
      have hv := Lib.hid (show (inR xs.length 1 128 && keysB xs) = false by
        have : inR xs.length 1 128 = false := by simp [inR]; omega
        rw [this, Bool.false_and])
      clear h1 h2
      go_enter Try.func89, Try.ntmps89
      go_wp2
      go_ret
      exact ⟨ret_bool hv.out.symm, Below.refl _ _⟩
  · have d1 : decide ((1 : Int) ≤ (xs.length : Int)) = false := decide_eq_false (by omega)
    have d1n : decide (1 ≤ xs.length) = false := decide_eq_false h1
    have d1m : decide (0 < xs.length) = false := decide_eq_false h1
    have hv := Lib.hid (show (inR xs.length 1 128 && keysB xs) = false by
      have : inR xs.length 1 128 = false := by simp [inR]; omega
      rw [this, Bool.false_and])
    clear h1
    go_enter Try.func89, Try.ntmps89
    go_wp2
    go_ret
    exact ⟨ret_bool hv.out.symm, Below.refl _ _⟩

set_option maxRecDepth 8000 in
set_option maxHeartbeats 4000000 in
theorem specSample_any {a : Option Addr} {c : Nat} {xs : List Int} {room salt : Int} {w : World} (hr : Rd (Value.int .i64) w a c xs) :
    Calls Try.prog 39 #[.slice a xs.length c, .int .i64 room, .int .i64 salt] w (RetSB (Value.int .i64) 2 w (smpL xs room salt) (smpB xs room salt)) := by
  cases h1 : (inR xs.length 1 128 && keysB xs) with
  | false =>
    have hb : smpB xs room salt = false := by unfold smpB; rw [h1]; rfl
    unfold smpL
    rw [hb]
    go_enter Try.func39, Try.ntmps39
    go_wp2_with fail
    refine (l06Keys_any hr).mono ?_
    rintro e w1 ⟨rfl, hb1⟩
    rw [h1]
    go_wp2
    go_ret2
    exact retSB_no hb1
  | true =>
  cases h2 : inR room 1 128 with
  | false =>
    have hb : smpB xs room salt = false := by unfold smpB; rw [h1, h2]; rfl
    unfold smpL
    rw [hb]
    go_enter Try.func39, Try.ntmps39
    go_wp2_with fail
    refine (l06Keys_any hr).mono ?_
    rintro e w1 ⟨rfl, hb1⟩
    rw [h1]
    go_wp2_with fail
    refine (l06Room_any).mono ?_
    rintro e w2 ⟨rfl, rfl⟩
    rw [h2]
    go_wp2
    go_ret2
    exact retSB_no hb1
  | true =>
  cases h3 : isKey salt with
  | false =>
    have hb : smpB xs room salt = false := by unfold smpB; rw [h1, h2, h3]; rfl
    unfold smpL
    rw [hb]
    go_enter Try.func39, Try.ntmps39
    go_wp2_with fail
    refine (l06Keys_any hr).mono ?_
    rintro e w1 ⟨rfl, hb1⟩
    rw [h1]
    go_wp2_with fail
    refine (l06Room_any).mono ?_
    rintro e w2 ⟨rfl, rfl⟩
    rw [h2]
    go_wp2_with fail
    refine (l02Key_any).mono ?_
    rintro e w2 ⟨rfl, rfl⟩
    rw [h3]
    go_wp2
    go_ret2
    exact retSB_no hb1
  | true =>
    have hb : smpB xs room salt = true := by unfold smpB; rw [h1, h2, h3]; rfl
    unfold smpL
    rw [hb, if_pos rfl]
    have hx1 : 1 ≤ xs.length ∧ xs.length ≤ 128 := by
      simp only [Bool.and_eq_true, inR, decide_eq_true_eq] at h1; omega
    have hx2 : 1 ≤ room ∧ room ≤ 128 := by
      simpa only [Bool.and_eq_true, inR, decide_eq_true_eq] using h2
    obtain ⟨n, hnn⟩ : ∃ n, xs.length = n := ⟨_, rfl⟩
    have HC1 := l06Keys_any hr
    have HORD : Hid (∀ (a : Option Addr) (c : Nat) (w : World), Rd (Value.int .i64) w a c (idxN n) → Calls Try.prog 92 #[.slice a (idxN n).length c, .int .i64 salt] w (RetSB (Value.int .i64) 2 w (ordL (fun i => hashZ i salt) n) true)) := by
      refine Lib.hid ?_
      intro a c w h
      have := specOrd_any h (by rw [idxN_len]; omega) (keysB_idxN (by omega)) h3
      rw [idxN_len, keyH_idxN] at this
      rw [idxN_len]
      exact this
    have hpk : pickL (fun i => hashZ i salt) xs.length room = srt ((ordL (fun i => hashZ i salt) n).take (min n room.toNat)) := by unfold pickL; rw [hnn]
    have hol : (ordL (fun i => hashZ i salt) n).length = n := ordL_len _ _
    rw [hpk]
    rw [hnn] at hx1 HC1 h1 ⊢
    generalize ordL (fun i => hashZ i salt) n = os at HORD hol ⊢
    have HOL := Lib.hid hol
    clear hb hnn hpk hol
    go_enter Try.func39, Try.ntmps39
    go_wp2_with fail
    refine HC1.mono ?_
    rintro e w1 ⟨rfl, hb1⟩
    rw [h1]
    have HB1 := Lib.hid hb1
    clear hb1 HC1 h1
    go_wp2_with fail
    refine (l06Room_any).mono ?_
    rintro e w2 ⟨rfl, rfl⟩
    rw [h2]
    go_wp2_with fail
    refine (l02Key_any).mono ?_
    rintro e w2 ⟨rfl, rfl⟩
    rw [h3]
    have HE := Lib.hid (own_empty (f := Value.int .i64) (e := 2) (α := Int) w1 (by_ := 0) w1.heap.size (Nat.le_refl _) rfl)
    have HBE := Lib.hid ((Below.refl w1.heap.size w1).alloc (Nat.le_refl _) (.cells #[] 2))
    clear h2 h3 hr
    go_wp2_with fail
    go_loopw [8, 9] (fun o i wr => ∃ (k : Nat) (b : Option Addr) (cc : Nat), k ≤ n ∧ i = .int .i64 k ∧ o = .slice b k cc ∧ Hid (Own (Value.int .i64) 2 wr w1.heap.size b cc (idxN k)) ∧ Hid (Below w1.heap.size w1 wr)) (fun _ i _ => n - (intOf i).toNat)
    case atStart => exact ⟨0, _, _, Nat.zero_le _, rfl, rfl, HE, HBE⟩
    case round =>
      obtain ⟨k, b, cc, hk, rfl, rfl, HO, HB⟩ := hrel
      by_cases hlt : k < n
      · have hltz : (k : Int) < (n : Int) := by omega
        have ewk : IntKind.i64.wrap ((k : Int) + 1) = (k : Int) + 1 := IntWalk.i64_in _ (by omega)
        have hzw := HB.out.size
        have hlk := idxN_len k
        obtain ⟨vs, hvs⟩ : ∃ vs, idxN k = vs := ⟨_, rfl⟩
        have hsu : idxN (k + 1) = vs ++ [(k : Int)] := by rw [idxN_succ, hvs]
        have HSU := Lib.hid hsu
        rw [hvs] at hlk HO
        clear hvs hsu
        subst hlk
        go_wp2_with (at_builtin; refine wpl_append1 (f := Value.int .i64) (d := 0) (base := w1.heap.size) und_ise info_i (fun _ => rfl) (vs.length : Int) HO.out rfl _ _ rfl rfl rfl (by omega) (by omega) hzw ?_; intro a4 c4 w4 ho4 hg4)
        go_roundw
        case rel => exact ⟨vs.length + 1, a4, c4, by omega, by go_num, by simp, Lib.hid (ho4.cast HSU.out.symm), Lib.hid (HB.out.trans (grown_belowOwn HO.out hg4 (Nat.le_refl _) hzw))⟩
        case measure => simp [intOf]; omega
      · have hltz : ¬ (k : Int) < (n : Int) := by omega
        obtain rfl : k = n := by omega
        have hc2 := HORD.out _ _ _ HO.out.rd
        rw [idxN_len] at hc2
        have HC2 := Lib.hid hc2
        clear hc2
        go_wp2_with fail
        refine HC2.out.mono ?_
        rintro e w3 ⟨a3, c3, rfl, ho3, hb3⟩
        have hol := HOL.out
        rw [hol]
        obtain ⟨m, hm⟩ : ∃ m : Nat, m = min k room.toNat := ⟨_, rfl⟩
        have hm1 : 1 ≤ m ∧ m ≤ k := by omega
        have hmin : (if room < (k : Int) then room else (k : Int)) = (m : Int) := by split <;> omega
        have HB3 := Lib.hid ((HB1.out.trans (HB.out.mono HB1.out.size)).trans (hb3.mono (Nat.le_trans HB1.out.size HB.out.size)))
        obtain ⟨a5, c5, hcut, hrd⟩ := ho3.rd.headRun (P := Try.prog) und_is siz_is (hi := m) (by rw [hol]; omega)
        have HRD := Lib.hid (hrd w3 ho3.rd)
        have htl : (os.take m).length = m := by rw [List.length_take, hol]; omega
        obtain ⟨qs, hqs⟩ : ∃ qs, os.take m = qs := ⟨_, rfl⟩
        have HQS := Lib.hid (show os.take (min k room.toNat) = qs by rw [← hm]; exact hqs)
        rw [hol] at hcut
        rw [hqs] at htl HRD
        have HMIN := Lib.hid hmin
        clear ho3 hb3 hrd hqs hm hol hmin HC2 HORD
        subst htl
        go_wp2_with (first | (go_at_call 93; refine (l00Min_any HMIN.out).mono ?_; rintro e w4 ⟨rfl, rfl⟩))
        refine (l06Sorted_any HRD.out (by omega)).mono ?_
        rintro e w4 ⟨a6, c6, rfl, ho6, hb6⟩
        have HO6 := Lib.hid (ho6.mono HB3.out.size)
        have HB6 := Lib.hid (HB3.out.trans (hb6.mono HB3.out.size))
        have hsl := srt_len qs
        clear ho6 hb6 hsl
        go_wp2
        go_ret2
        exact ⟨a6, c6, by rw [HQS.out]; rfl, HO6.out.cast (by rw [HQS.out]), HB6.out⟩

end Go.Proofs.Ytihbckoldblpcaa
