/- Valid tops in both texts. -/
import Derived.Test.YtdpolaedfjljmaaQSVF9
import Derived.Test.YtdpolaedfjljmaaQSVF15
import Derived.Test.YtdpolaedfjljmaaQSVF20
import Derived.Test.YtdpolaedfjljmaaQSVF4
namespace Go.Proofs.Ytdpolaedfjljmaa
open Go.RowKit

/-- Different numbers. -/
def diffB (ks : List Int) : Bool := decide ((uniq ks).length = ks.length)
theorem insU_len_new {ys : List Int} {x : Int} (h : ¬ x ∈ ys) : (insU ys x).length = ys.length + 1 := by
  induction ys with
  | nil => simp [insU]
  | cons y ys ih =>
    have h1 : ¬ x = y := fun e => h (by rw [e]; exact List.mem_cons_self ..)
    have h2 := ih (fun e => h (List.mem_cons_of_mem _ e))
    unfold insU at *
    simp only [List.length_append, List.length_cons, List.filter_cons] at *
    by_cases hlt : y < x
    · rw [decide_eq_true hlt, decide_eq_false (by omega)]
      simp only [if_true, Bool.false_eq_true, if_false, List.length_cons]
      omega
    · rw [decide_eq_false hlt, decide_eq_true (by omega)]
      simp only [if_true, Bool.false_eq_true, if_false, List.length_cons]
      omega
theorem uniq_take_succ {xs : List Int} {k : Nat} (hk : k < xs.length) : uniq (xs.take (k + 1)) = insU (uniq (xs.take k)) (at0 xs k) := by
  rw [List.take_add_one, List.getElem?_eq_getElem hk]
  show uniq (xs.take k ++ [xs[k]]) = _
  rw [uniq_snoc]
  simp [at0, hk]
theorem diff_yes {xs : List Int} (h : ∀ i, i < xs.length → ¬ at0 xs i ∈ xs.take i) : diffB xs = true := by
  have key : ∀ n, n ≤ xs.length → (uniq (xs.take n)).length = n := by
    intro n
    induction n with
    | zero => intro _; simp [uniq]
    | succ n ih =>
      intro hn
      rw [uniq_take_succ (by omega), insU_len_new (by rw [uniq_mem]; exact h n (by omega)), ih (by omega)]
  unfold diffB
  have := key xs.length (Nat.le_refl _)
  rw [List.take_length] at this
  exact decide_eq_true this
theorem diff_no {xs : List Int} {i : Nat} (hi : i < xs.length) (h : at0 xs i ∈ xs.take i) : diffB xs = false := by
  unfold diffB
  refine decide_eq_false ?_
  have e1 : uniq (xs.take (i + 1)) = uniq (xs.take i) := by
    rw [uniq_take_succ hi]
    exact insU_skip (uniq_up _) (by rw [uniq_mem]; exact h)
  have e2 : uniq xs = (xs.drop (i + 1)).foldl insU (uniq (xs.take (i + 1))) := by
    conv => lhs; rw [← List.take_append_drop (i + 1) xs]
    unfold uniq
    rw [List.foldl_append]
  have e3 := (foldl_insU (xs.drop (i + 1)) (uniq (xs.take (i + 1))) (uniq_up _)).2.2
  rw [← e2, e1] at e3
  have e4 := uniq_len (xs.take i)
  have e5 : (xs.take i).length ≤ i := by rw [List.length_take]; exact Nat.min_le_left _ _
  have e6 : (xs.drop (i + 1)).length = xs.length - (i + 1) := by simp
  omega

/-- Counts and errors. -/
def ceR (cs es : List Int) (i : Nat) : Bool := inR (at0 cs i) 1 1000000000000 && inR (at0 es i) 0 (at0 cs i - 1)
def ceB (cs es : List Int) : Bool := (List.range cs.length).all (ceR cs es)
theorem ceB_no {cs es : List Int} {k : Nat} (hk : k < cs.length) (h : ceR cs es k = false) : ceB cs es = false := by
  unfold ceB
  rw [List.all_eq_false]
  exact ⟨k, List.mem_range.2 hk, by rw [h]; simp⟩
theorem ceB_yes {cs es : List Int} (h : ∀ k, k < cs.length → ceR cs es k = true) : ceB cs es = true := by
  unfold ceB
  rw [List.all_eq_true]
  intro k hk
  exact h k (List.mem_range.1 hk)
def topsB (R : Int) (ks cs es : List Int) : Bool := inR R 1 32 && decide ((ks.length : Int) ≤ R) && decide (cs.length = ks.length) && decide (es.length = ks.length) && ceB cs es && keysB ks && diffB ks
theorem topsB_f {R : Int} {ks cs es : List Int} (h : inR R 1 32 = false ∨ decide ((ks.length : Int) ≤ R) = false ∨ decide (cs.length = ks.length) = false ∨ decide (es.length = ks.length) = false ∨ ceB cs es = false ∨ keysB ks = false ∨ diffB ks = false) : topsB R ks cs es = false := by
  unfold topsB
  rcases h with h | h | h | h | h | h | h <;> rw [h] <;> simp

set_option maxHeartbeats 1000000 in
theorem areDiff_any {a : Option Addr} {c : Nat} {xs : List Int} {w : World} (hr : Rd (Value.int .i64) w a c xs) (hn : xs.length ≤ 1048576) :
    Calls Try.prog 127 #[.slice a xs.length c] w fun e w' => e = .returned (.bool (diffB xs)) ∧ Below w.heap.size w w' := by
  have hul := uniq_len xs
  obtain ⟨n, hnn⟩ : ∃ n, xs.length = n := ⟨_, rfl⟩
  have HC := Lib.hid (clonei_any _ _ _ _ hr hn)
  have HN := Lib.hid hnn
  obtain ⟨us, hus⟩ : ∃ us, uniq xs = us := ⟨_, rfl⟩
  have HU := Lib.hid hus
  have HDB : Hid (diffB xs = decide ((us.length : Int) = (n : Int))) := Lib.hid (by
    unfold diffB; rw [hus, hnn]
    by_cases h : us.length = n <;> simp [h] <;> omega)
  obtain ⟨b, hb⟩ : ∃ b, diffB xs = b := ⟨_, rfl⟩
  rw [hb] at HDB ⊢
  have hbe : ((us.length : Int) == (n : Int)) = b := by
    rw [HDB.out]
    by_cases h : (us.length : Int) = (n : Int) <;> simp [h]
  rw [hnn] at hul hn HC ⊢
  rw [hus] at hul
  clear hr hnn hus hb
  go_enter Try.func127, Try.ntmps127
  go_wp2_with fail
  refine HC.out.mono ?_
  rintro e w1 ⟨a1, c1, rfl, ho1, hb1⟩
  have hsr := sorti_any ho1 (by rw [HN.out]; exact hn)
  rw [HN.out] at hsr
  have HSR := Lib.hid hsr
  have HO1 := Lib.hid ho1
  have HB1 := Lib.hid hb1
  simp only [HN.out]
  clear hsr ho1 hb1 HC
  go_wp2_with fail
  refine HSR.out.mono ?_
  rintro e w2 ⟨rfl, ho2, hg2⟩
  have hun : uniq (srt xs) = us := (uniq_perm (srt_perm xs)).trans HU.out
  have hcm := compact_own ho2 (by rw [srt_len, HN.out]; exact hn) (srt_pw xs)
  rw [srt_len, HN.out, hun] at hcm
  have HCM := Lib.hid hcm
  have HB2 := Lib.hid (HB1.out.trans (grown_belowOwn HO1.out hg2 (Nat.le_refl _) HB1.out.size))
  have HO2 := Lib.hid ho2
  clear hcm ho2 hg2 HSR hun HO1 HB1
  go_wp2_with fail
  refine HCM.out.mono ?_
  rintro e w3 ⟨rfl, ho3, hg3⟩
  have HB3 := Lib.hid (HB2.out.trans (grown_belowOwn HO2.out hg3 (Nat.le_refl _) HB2.out.size))
  clear ho3 hg3 HCM HO2 HB2
  go_wp2
  go_ret
  exact ⟨rfl, HB3.out⟩

theorem l00Has_any {a : Option Addr} {c : Nat} {xs : List Int} {x : Int} {w : World} (hr : Rd (Value.int .i64) w a c xs) :
    Calls Try.prog 155 #[.slice a xs.length c, .int .i64 x] w fun e w' => e = .returned (.bool (decide (x ∈ xs))) ∧ w = w' := by
  have hln := hr.len
  go_enter Try.func155, Try.ntmps155
  go_wp2
  go_loopw [5] (fun vi wr => ∃ k : Nat, vi = .int .i64 k ∧ k ≤ xs.length ∧ Hid (∀ y ∈ xs.take k, (fun y => y == x) y = false) ∧ Hid (w = wr)) (fun vi _ => xs.length - (intOf vi).toNat)
  case atStart => exact ⟨0, rfl, Nat.zero_le _, Lib.hid (by simp), Lib.hid rfl⟩
  case round =>
    obtain ⟨k, rfl, hk, HP, HW⟩ := hrel
    obtain rfl := HW.out
    clear HW
    by_cases hlt : k < xs.length
    · have hltz : (k : Int) < (xs.length : Int) := by omega
      have hix := hr.idx und_is siz_is
      have hcx := hr.cell k hlt
      simp only [List.getElem?_eq_getElem hlt, Option.getD_some] at hcx
      obtain ⟨y, hy⟩ : ∃ y, xs[k] = y := ⟨_, rfl⟩
      rw [hy] at hcx
      have HY := Lib.hid hy
      have ewk : IntKind.i64.wrap ((k : Int) + 1) = (k : Int) + 1 := IntWalk.i64_in _ (by omega)
      clear hy
      by_cases hyx : y = x
      · have hd : (y == x) = true := by simpa using hyx
        have HE : Hid (decide (x ∈ xs) = true) := Lib.hid (decide_eq_true (by rw [← hyx, ← HY.out]; exact List.getElem_mem hlt))
        clear hyx
        go_wp2
        go_ret
        exact ⟨ret_bool HE.out.symm, rfl⟩
      · have hd : (y == x) = false := by simpa using hyx
        have hs := snoc_none (p := fun y => y == x) hlt HP.out (by show (xs[k] == x) = false; rw [HY.out]; exact hd)
        have HS := Lib.hid hs
        clear hs hyx
        go_wp2
        go_roundw
        case rel => exact ⟨k + 1, by go_num, by omega, HS, Lib.hid trivial⟩
        case measure => simp [intOf]; omega
    · obtain rfl : k = xs.length := by omega
      have hltz : ¬ (xs.length : Int) < (xs.length : Int) := by omega
      have HE : Hid (decide (x ∈ xs) = false) := Lib.hid (decide_eq_false (fun h => by
        have := HP.out x (by rw [List.take_length]; exact h)
        simp at this))
      go_wp2
      go_ret
      exact ⟨ret_bool HE.out.symm, rfl⟩

theorem Rd.headRun2 {α : Type} [Inhabited α] {f : α → Value} {w : World} {a : Option Addr} {c : Nat} {xs : List α} (h : Rd f w a c xs) {P : Program} {T : TypeId} (hT : P.underlying T = some (.slice (P.elem T))) (hs : ∀ w, (sizeOf (P.elem T)).run P w = .ok 1 w) {hi : Nat} (hk : hi ≤ xs.length) :
    ∃ a2 c2, (∀ w' : World, (Instr.sliceAt T (.slice a xs.length c) none (some (.int .i64 (hi : Int))) none).run P w' = .ok (.slice a2 hi c2) w') ∧ ∀ w', Rd f w' a c xs → Rd f w' a2 c2 (xs.take hi) := by
  have hcap := h.cap
  refine ⟨_, _, fun w' => ?_, fun w' hr => by have := (hr.take hi).cut (k := 0) (by simp); simpa using this⟩
  rw [run_sliceAt_slice (h := hT), run_slice_h (ht := hT) (h0 := by omega) (h2 := by omega), hs]
  simp [Result.andThen, sliced]

set_option maxRecDepth 8000 in
set_option maxHeartbeats 4000000 in
theorem validTops_any {ak ac ae : Option Addr} {ck cc ce : Nat} {ks cs es : List Int} {R : Int} {w : World} (hk : Rd (Value.int .i64) w ak ck ks) (hc : Rd (Value.int .i64) w ac cc cs) (he : Rd (Value.int .i64) w ae ce es) :
    Calls Try.prog 73 #[.agg #[.int .i64 R, .slice ak ks.length ck, .slice ac cs.length cc, .slice ae es.length ce]] w fun e w' => e = .returned (.bool (topsB R ks cs es)) ∧ Below w.heap.size w w' := by
  have hlk := hk.len
  have hlc := hc.len
  have hle := he.len
  have hb0 : Below w.heap.size w (w.alloc (.cells #[.int .i64 R, .slice ak ks.length ck, .slice ac cs.length cc, .slice ae es.length ce] 26)) := (Below.refl _ _).alloc (Nat.le_refl _) _
  have I0 : Blk (w.alloc (.cells #[.int .i64 R, .slice ak ks.length ck, .slice ac cs.length cc, .slice ae es.length ce] 26)) w.heap.size #[.int .i64 R, .slice ak ks.length ck, .slice ac cs.length cc, .slice ae es.length ce] 26 := Blk.new _ _ _
  have HB0 := Lib.hid hb0
  have HI0 := Lib.hid I0
  have HRK := Lib.hid (hk.below hb0 (Nat.le_refl _))
  have HRC := Lib.hid (hc.below hb0 (Nat.le_refl _))
  have HRE := Lib.hid (he.below hb0 (Nat.le_refl _))
  clear hb0 I0 hk hc he
  cases hc0 : inR R 1 32 with
  | false =>
    rw [topsB_f (.inl hc0)]
    go_enter Try.func73, Try.ntmps73
    go_wp2_with fail
    refine (within_any _ _ _ _).mono ?_
    rintro e wg1 ⟨rfl, rfl⟩
    rw [hc0]
    go_wp2
    go_ret
    exact ⟨rfl, HB0.out⟩
  | true =>
  cases hc1 : decide ((ks.length : Int) ≤ R) with
  | false =>
    rw [topsB_f (.inr (.inl hc1))]
    have hgt : decide ((ks.length : Int) > R) = true := decide_eq_true (by have := of_decide_eq_false hc1; omega)
    have hgt2 : decide (R < (ks.length : Int)) = true := hgt
    go_enter Try.func73, Try.ntmps73
    go_wp2_with fail
    refine (within_any _ _ _ _).mono ?_
    rintro e wg1 ⟨rfl, rfl⟩
    rw [hc0]
    go_wp2
    go_ret
    exact ⟨rfl, HB0.out⟩
  | true =>
  have hgt : decide ((ks.length : Int) > R) = false := decide_eq_false (by have := of_decide_eq_true hc1; omega)
  have hn : ks.length ≤ 1048576 := by have h1 := of_decide_eq_true hc1; have h2 := (inR_eq _ _ _).1 hc0; omega
  have hgt2 : decide (R < (ks.length : Int)) = false := hgt
  cases hc2 : decide (cs.length = ks.length) with
  | false =>
    rw [topsB_f (.inr (.inr (.inl hc2)))]
    have hncs : ((cs.length : Int) != (ks.length : Int)) = true := by have := of_decide_eq_false hc2; simp; omega
    go_enter Try.func73, Try.ntmps73
    go_wp2_with fail
    refine (within_any _ _ _ _).mono ?_
    rintro e wg1 ⟨rfl, rfl⟩
    rw [hc0]
    go_wp2
    go_ret
    exact ⟨rfl, HB0.out⟩
  | true =>
  have hncs : ((cs.length : Int) != (ks.length : Int)) = false := by have := of_decide_eq_true hc2; simp; omega
  cases hc3 : decide (es.length = ks.length) with
  | false =>
    rw [topsB_f (.inr (.inr (.inr (.inl hc3))))]
    have hnes : ((es.length : Int) != (ks.length : Int)) = true := by have := of_decide_eq_false hc3; simp; omega
    go_enter Try.func73, Try.ntmps73
    go_wp2_with fail
    refine (within_any _ _ _ _).mono ?_
    rintro e wg1 ⟨rfl, rfl⟩
    rw [hc0]
    go_wp2
    go_ret
    exact ⟨rfl, HB0.out⟩
  | true =>
  have hnes : ((es.length : Int) != (ks.length : Int)) = false := by have := of_decide_eq_true hc3; simp; omega
  have hlen : cs.length = ks.length ∧ es.length = ks.length := ⟨of_decide_eq_true hc2, of_decide_eq_true hc3⟩
  have HLEN := Lib.hid hlen
  have hyes : topsB R ks cs es = (ceB cs es && keysB ks && diffB ks) := by unfold topsB; rw [hc0, hc1, hc2, hc3]; rfl
  obtain ⟨b, hb⟩ : ∃ b, (ceB cs es && keysB ks && diffB ks) = b := ⟨_, rfl⟩
  have HBB := Lib.hid hb
  rw [hyes, hb]
  clear hyes hb hlen
  go_enter Try.func73, Try.ntmps73
  go_wp2_with fail
  refine (within_any _ _ _ _).mono ?_
  rintro e wg1 ⟨rfl, rfl⟩
  rw [hc0]
  go_wp2_with fail
  clear hc0 hc1 hc2 hc3 hgt hgt2 hncs hnes
  obtain ⟨W0, hW0⟩ : ∃ W0, W0 = w.alloc (.cells #[.int .i64 R, .slice ak ks.length ck, .slice ac cs.length cc, .slice ae es.length ce] 26) := ⟨_, rfl⟩
  rw [← hW0] at HB0 HI0 HRK HRC HRE ⊢
  clear hW0
  go_loopw [3, 4, 38] (fun _ _ vi wr => ∃ k : Nat, vi = .int .i64 k ∧ k ≤ cs.length ∧ Hid (∀ j, j < k → ceR cs es j = true) ∧ Hid (wr = W0)) (fun _ _ vi _ => cs.length - (intOf vi).toNat)
  case atStart => exact ⟨0, rfl, Nat.zero_le _, Lib.hid (fun j h => by omega), Lib.hid rfl⟩
  case round =>
    obtain ⟨k, rfl, hk, HP, HW⟩ := hrel
    obtain rfl := HW.out
    clear HW
    have i1 := HI0.out.cell (i := 1) (v := .slice ak ks.length ck) rfl
    have i2 := HI0.out.cell (i := 2) (v := .slice ac cs.length cc) rfl
    have i3 := HI0.out.cell (i := 3) (v := .slice ae es.length ce) rfl
    by_cases hlt : k < cs.length
    · have hltz : (k : Int) < (cs.length : Int) := by omega
      have hlt3 : k < es.length := by have := HLEN.out; omega
      have ewk : IntKind.i64.wrap ((k : Int) + 1) = (k : Int) + 1 := IntWalk.i64_in _ (by omega)
      obtain ⟨x, hx⟩ : ∃ x, at0 cs k = x := ⟨_, rfl⟩
      obtain ⟨y, hy⟩ : ∃ x, at0 es k = x := ⟨_, rfl⟩
      have hix := HRC.out.idx und_is siz_is
      have hiy := HRE.out.idx und_is siz_is
      have hcx : wr.cell? (elt ac k) = some (.int .i64 x) := by rw [HRC.out.cell k hlt, ← hx]; rfl
      have hcy : wr.cell? (elt ae k) = some (.int .i64 y) := by rw [HRE.out.cell k hlt3, ← hy]; rfl
      have HCE : Hid (ceR cs es k = (inR x 1 1000000000000 && inR y 0 (x - 1))) := Lib.hid (by unfold ceR; rw [hx, hy])
      clear hx hy
      go_wp2_with fail
      refine (within_any _ _ _ _).mono ?_
      rintro e w1 ⟨rfl, rfl⟩
      cases h1 : inR x 1 1000000000000 with
      | false =>
        have HE : Hid (b = false) := Lib.hid (by rw [← HBB.out, ceB_no hlt (by rw [HCE.out, h1]; rfl)]; rfl)
        go_wp2
        go_ret
        exact ⟨ret_bool HE.out.symm, HB0.out⟩
      | true =>
        have hxr := (inR_eq _ _ _).1 h1
        have ewx : IntKind.i64.wrap (x - 1) = x - 1 := IntWalk.i64_in _ (by omega)
        go_wp2_with fail
        refine (within_any _ _ _ _).mono ?_
        rintro e w1 ⟨rfl, rfl⟩
        cases h2 : inR y 0 (x - 1) with
        | false =>
          have HE : Hid (b = false) := Lib.hid (by rw [← HBB.out, ceB_no hlt (by rw [HCE.out, h1, h2]; rfl)]; rfl)
          go_wp2
          go_ret
          exact ⟨ret_bool HE.out.symm, HB0.out⟩
        | true =>
          have HP1 : Hid (∀ j, j < k + 1 → ceR cs es j = true) := Lib.hid (fun j h => by
            by_cases e : j = k
            · rw [e, HCE.out, h1, h2]; rfl
            · exact HP.out j (by omega))
          clear h1 h2
          go_wp2
          go_roundw
          case rel => exact ⟨k + 1, by go_num, by omega, HP1, Lib.hid trivial⟩
          case measure => simp [intOf]; omega
    · obtain rfl : k = cs.length := by omega
      have hltz : ¬ (cs.length : Int) < (cs.length : Int) := by omega
      have HE0 : Hid (b = (keysB ks && diffB ks)) := Lib.hid (by rw [← HBB.out, ceB_yes HP.out]; rfl)
      go_wp2_with fail
      refine (areAllKeys_any HRK.out).mono ?_
      rintro e w1 ⟨rfl, hb1⟩
      have HB1 := Lib.hid hb1
      clear hb1
      cases h1 : keysB ks with
      | false =>
        have HE : Hid (b = false) := Lib.hid (by rw [HE0.out, h1]; rfl)
        go_wp2
        go_ret
        exact ⟨ret_bool HE.out.symm, HB0.out.trans (HB1.out.mono HB0.out.size)⟩
      | true =>
        have i1' := (HI0.out.below HB1.out (Nat.le_refl _)).cell (i := 1) (v := .slice ak ks.length ck) rfl
        have HE : Hid (b = diffB ks) := Lib.hid (by rw [HE0.out, h1]; rfl)
        go_wp2_with fail
        refine (areDiff_any (HRK.out.below HB1.out (Nat.le_refl _)) hn).mono ?_
        rintro e w2 ⟨rfl, hb2⟩
        go_wp2
        go_ret
        exact ⟨ret_bool (by simp [HE.out]), (HB0.out.trans (HB1.out.mono HB0.out.size)).trans (hb2.mono (Nat.le_trans HB0.out.size HB1.out.size))⟩

set_option maxRecDepth 8000 in
set_option maxHeartbeats 8000000 in
theorem l03Tops_any {b0 o : Nat} {ak ac ae : Option Addr} {ck cc ce : Nat} {ks cs es : List Int} {R : Int} {w : World} (hk : Rd (Value.int .i64) w ak ck ks) (hc : Rd (Value.int .i64) w ac cc cs) (he : Rd (Value.int .i64) w ae ce es)
    (c0 : w.cell? ⟨b0, o, none⟩ = some (.int .i64 R)) (c1 : w.cell? ⟨b0, o + 1, none⟩ = some (.slice ak ks.length ck)) (c2 : w.cell? ⟨b0, o + 2, none⟩ = some (.slice ac cs.length cc)) (c3 : w.cell? ⟨b0, o + 3, none⟩ = some (.slice ae es.length ce)) :
    Calls Try.prog 115 #[.pointer (some ⟨b0, o, none⟩)] w fun e w' => e = .returned (.bool (topsB R ks cs es)) ∧ ∃ n, w' = w.drewN n := by
  have hlk := hk.len
  have hlc := hc.len
  have hle := he.len
  cases hc0 : inR R 1 32 with
  | false =>
    rw [topsB_f (.inl hc0)]
    go_enter Try.func115, Try.ntmps115
    go_wp2_with fail
    refine (l00In_any _ _ _ _).mono ?_
    rintro e wg1 ⟨rfl, rfl⟩
    rw [hc0]
    go_wp2
    go_ret
    exact ⟨rfl, 0, rfl⟩
  | true =>
  cases hc1 : decide ((ks.length : Int) ≤ R) with
  | false =>
    rw [topsB_f (.inr (.inl hc1))]
    have hgt : decide ((ks.length : Int) > R) = true := decide_eq_true (by have := of_decide_eq_false hc1; omega)
    have hgt2 : decide (R < (ks.length : Int)) = true := hgt
    go_enter Try.func115, Try.ntmps115
    go_wp2_with fail
    refine (l00In_any _ _ _ _).mono ?_
    rintro e wg1 ⟨rfl, rfl⟩
    rw [hc0]
    go_wp2
    go_ret
    exact ⟨rfl, 0, rfl⟩
  | true =>
  have hgt : decide ((ks.length : Int) > R) = false := decide_eq_false (by have := of_decide_eq_true hc1; omega)
  have hgt2 : decide (R < (ks.length : Int)) = false := hgt
  cases hc2 : decide (cs.length = ks.length) with
  | false =>
    rw [topsB_f (.inr (.inr (.inl hc2)))]
    have hncs : ((cs.length : Int) != (ks.length : Int)) = true := by have := of_decide_eq_false hc2; simp; omega
    go_enter Try.func115, Try.ntmps115
    go_wp2_with fail
    refine (l00In_any _ _ _ _).mono ?_
    rintro e wg1 ⟨rfl, rfl⟩
    rw [hc0]
    go_wp2
    go_ret
    exact ⟨rfl, 0, rfl⟩
  | true =>
  have hncs : ((cs.length : Int) != (ks.length : Int)) = false := by have := of_decide_eq_true hc2; simp; omega
  cases hc3 : decide (es.length = ks.length) with
  | false =>
    rw [topsB_f (.inr (.inr (.inr (.inl hc3))))]
    have hnes : ((es.length : Int) != (ks.length : Int)) = true := by have := of_decide_eq_false hc3; simp; omega
    go_enter Try.func115, Try.ntmps115
    go_wp2_with fail
    refine (l00In_any _ _ _ _).mono ?_
    rintro e wg1 ⟨rfl, rfl⟩
    rw [hc0]
    go_wp2
    go_ret
    exact ⟨rfl, 0, rfl⟩
  | true =>
  have hnes : ((es.length : Int) != (ks.length : Int)) = false := by have := of_decide_eq_true hc3; simp; omega
  have hlen : cs.length = ks.length ∧ es.length = ks.length := ⟨of_decide_eq_true hc2, of_decide_eq_true hc3⟩
  have HLEN := Lib.hid hlen
  have hyes : topsB R ks cs es = (ceB cs es && keysB ks && diffB ks) := by unfold topsB; rw [hc0, hc1, hc2, hc3]; rfl
  obtain ⟨b, hb⟩ : ∃ b, (ceB cs es && keysB ks && diffB ks) = b := ⟨_, rfl⟩
  have HBB := Lib.hid hb
  rw [hyes, hb]
  have HRK := Lib.hid hk
  have HRC := Lib.hid hc
  have HRE := Lib.hid he
  have HC0 := Lib.hid (And.intro c0 (And.intro c1 (And.intro c2 c3)))
  clear hyes hb hlen hk hc he
  go_enter Try.func115, Try.ntmps115
  go_wp2_with fail
  refine (l00In_any _ _ _ _).mono ?_
  rintro e wg1 ⟨rfl, rfl⟩
  rw [hc0]
  go_wp2_with fail
  clear hc0 hc1 hc2 hc3 hgt hgt2 hncs hnes
  clear c0 c1 c2 c3
  go_loopw [4, 47] (fun _ vi wr => ∃ k : Nat, vi = .int .i64 k ∧ k ≤ ks.length ∧ Hid (∀ j, j < k → isKey (at0 ks j) = true ∧ ¬ at0 ks j ∈ ks.take j ∧ ceR cs es j = true) ∧ Hid (∃ n, wr = w.drewN n)) (fun _ vi _ => ks.length - (intOf vi).toNat)
  case atStart => exact ⟨0, rfl, Nat.zero_le _, Lib.hid (fun j h => by omega), Lib.hid ⟨0, rfl⟩⟩
  case round =>
    obtain ⟨k, rfl, hk, HP, HWN⟩ := hrel
    have hbw : Below w.heap.size w wr := by obtain ⟨n, hn⟩ := HWN.out; rw [hn]; exact below_of_drewN _ _ _
    by_cases hlt : k < ks.length
    · have hltz : (k : Int) < (ks.length : Int) := by omega
      have hlt2 : k < cs.length := by have := HLEN.out; omega
      have hlt3 : k < es.length := by have := HLEN.out; omega
      have c1 : wr.cell? ⟨b0, o + 1, none⟩ = some (.slice ak ks.length ck) := k_below hbw (Nat.le_refl _) HC0.out.2.1
      have c2 : wr.cell? ⟨b0, o + 2, none⟩ = some (.slice ac cs.length cc) := k_below hbw (Nat.le_refl _) HC0.out.2.2.1
      have c3 : wr.cell? ⟨b0, o + 3, none⟩ = some (.slice ae es.length ce) := k_below hbw (Nat.le_refl _) HC0.out.2.2.2
      have hrk := HRK.out.below hbw (Nat.le_refl _)
      have hrc := HRC.out.below hbw (Nat.le_refl _)
      have hre := HRE.out.below hbw (Nat.le_refl _)
      have ewk : IntKind.i64.wrap ((k : Int) + 1) = (k : Int) + 1 := IntWalk.i64_in _ (by omega)
      obtain ⟨q, hq⟩ : ∃ x, at0 ks k = x := ⟨_, rfl⟩
      obtain ⟨x, hx⟩ : ∃ x, at0 cs k = x := ⟨_, rfl⟩
      obtain ⟨y, hy⟩ : ∃ x, at0 es k = x := ⟨_, rfl⟩
      have hiq := hrk.idx und_is siz_is
      have hix := hrc.idx und_is siz_is
      have hiy := hre.idx und_is siz_is
      have hcq : wr.cell? (elt ak k) = some (.int .i64 q) := by rw [hrk.cell k hlt, ← hq]; rfl
      have hcx : wr.cell? (elt ac k) = some (.int .i64 x) := by rw [hrc.cell k hlt2, ← hx]; rfl
      have hcy : wr.cell? (elt ae k) = some (.int .i64 y) := by rw [hre.cell k hlt3, ← hy]; rfl
      have HCE : Hid (ceR cs es k = (inR x 1 1000000000000 && inR y 0 (x - 1))) := Lib.hid (by unfold ceR; rw [hx, hy])
      have HQ := Lib.hid hq
      obtain ⟨a2, c2', hsl, hrd⟩ := hrk.headRun2 (P := Try.prog) und_is siz_is (hi := k) hk
      obtain ⟨hd, hhd⟩ : ∃ hd, decide (q ∈ ks.take k) = hd := ⟨_, rfl⟩
      have htl : (ks.take k).length = k := by rw [List.length_take]; omega
      have HAS : Hid (∀ n, Calls Try.prog 155 #[.slice a2 k c2', .int .i64 q] (wr.drewN n) fun e w' => e = .returned (.bool hd) ∧ wr.drewN n = w') := Lib.hid (fun n => by
        have := l00Has_any (x := q) (w := wr.drewN n) (hrd _ (hrk.below (below_of_drewN wr n _) (Nat.le_refl _)))
        rw [htl, hhd] at this
        exact this)
      have HHD := Lib.hid hhd
      clear hq hx hy hrk hrc hre hrd hhd htl hbw
      cases h1 : isKey q with
      | false =>
        have HE : Hid (b = false) := Lib.hid (by rw [← HBB.out, show keysB ks = false by unfold keysB; rw [List.all_eq_false]; exact ⟨ks[k], List.getElem_mem hlt, by rw [show ks[k] = q by rw [← HQ.out]; simp [at0, hlt], h1]; simp⟩]; simp)
        go_wp2_with fail
        go_quiet (first | (go_at_call 90; exact quiet_same (l00In_any _ _ _ _)) | (go_at_call 116; exact quiet_same l02Key_any) | (go_at_call 155; exact quiet_same (HAS.out _)))
        go_wp2
        go_ret
        exact ⟨ret_bool HE.out.symm, by obtain ⟨n, hn⟩ := HWN.out; rw [hn]; exact ⟨_, World.drewN_drewN _ _ _⟩⟩
      | true =>
      cases hd with
      | true =>
        have HE : Hid (b = false) := Lib.hid (by rw [← HBB.out, diff_no hlt (by rw [HQ.out]; exact of_decide_eq_true HHD.out)]; simp)
        go_wp2_with fail
        go_quiet (first | (go_at_call 90; exact quiet_same (l00In_any _ _ _ _)) | (go_at_call 116; exact quiet_same l02Key_any) | (go_at_call 155; exact quiet_same (HAS.out _)))
        go_wp2
        go_ret
        exact ⟨ret_bool HE.out.symm, by obtain ⟨n, hn⟩ := HWN.out; rw [hn]; exact ⟨_, World.drewN_drewN _ _ _⟩⟩
      | false =>
      cases h2 : inR x 1 1000000000000 with
      | false =>
        have HE : Hid (b = false) := Lib.hid (by rw [← HBB.out, ceB_no hlt2 (by rw [HCE.out, h2]; rfl)]; simp)
        go_wp2_with fail
        go_quiet (first | (go_at_call 90; exact quiet_same (l00In_any _ _ _ _)) | (go_at_call 116; exact quiet_same l02Key_any) | (go_at_call 155; exact quiet_same (HAS.out _)))
        go_wp2
        go_ret
        exact ⟨ret_bool HE.out.symm, by obtain ⟨n, hn⟩ := HWN.out; rw [hn]; exact ⟨_, World.drewN_drewN _ _ _⟩⟩
      | true =>
      have hxr := (inR_eq _ _ _).1 h2
      have ewx : IntKind.i64.wrap (x - 1) = x - 1 := IntWalk.i64_in _ (by omega)
      cases h3 : inR y 0 (x - 1) with
      | false =>
        have HE : Hid (b = false) := Lib.hid (by rw [← HBB.out, ceB_no hlt2 (by rw [HCE.out, h2, h3]; rfl)]; simp)
        go_wp2_with fail
        go_quiet (first | (go_at_call 90; exact quiet_same (l00In_any _ _ _ _)) | (go_at_call 116; exact quiet_same l02Key_any) | (go_at_call 155; exact quiet_same (HAS.out _)))
        go_wp2
        go_ret
        exact ⟨ret_bool HE.out.symm, by obtain ⟨n, hn⟩ := HWN.out; rw [hn]; exact ⟨_, World.drewN_drewN _ _ _⟩⟩
      | true =>
        have HP1 : Hid (∀ j, j < k + 1 → isKey (at0 ks j) = true ∧ ¬ at0 ks j ∈ ks.take j ∧ ceR cs es j = true) := Lib.hid (fun j h => by
          by_cases e : j = k
          · subst e; exact ⟨by rw [HQ.out]; exact h1, by rw [HQ.out]; exact of_decide_eq_false HHD.out, by rw [HCE.out, h2, h3]; rfl⟩
          · exact HP.out j (by omega))
        go_wp2_with fail
        go_quiet (first | (go_at_call 90; exact quiet_same (l00In_any _ _ _ _)) | (go_at_call 116; exact quiet_same l02Key_any) | (go_at_call 155; exact quiet_same (HAS.out _)))
        have HWN1 : Hid (∃ n, wr.drewN nq = w.drewN n) := Lib.hid (by obtain ⟨n, hn⟩ := HWN.out; rw [hn]; exact ⟨_, World.drewN_drewN _ _ _⟩)
        clear HWN HAS c1 c2 c3 hcq hcx hcy
        generalize wr.drewN nq = wz at HWN1 ⊢
        go_wp2
        go_roundw
        case rel => exact ⟨k + 1, by go_num, by omega, HP1, HWN1⟩
        case measure => simp [intOf]; omega
    · obtain rfl : k = ks.length := by omega
      have hltz : ¬ (ks.length : Int) < (ks.length : Int) := by omega
      have HE : Hid (b = true) := Lib.hid (by
        rw [← HBB.out, ceB_yes (fun j h => (HP.out j (by have := HLEN.out; omega)).2.2), diff_yes (fun j h => (HP.out j h).2.1)]
        have : keysB ks = true := by
          unfold keysB
          rw [List.all_eq_true]
          intro z hz
          obtain ⟨j, hj, rfl⟩ := List.getElem_of_mem hz
          have := (HP.out j hj).1
          rwa [show at0 ks j = ks[j] by simp [at0, hj]] at this
        rw [this]; rfl)
      go_wp2
      go_ret
      exact ⟨ret_bool HE.out.symm, HWN.out⟩

end Go.Proofs.Ytdpolaedfjljmaa
