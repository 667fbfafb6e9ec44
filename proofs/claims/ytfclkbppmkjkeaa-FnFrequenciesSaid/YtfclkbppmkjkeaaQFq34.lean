/- OftenInWindow's number of one window, in the program's text. A number for the last ones of every index of a list: eachLast in the program's text, for whatever closure. -/
import Derived.Test.YtfclkbppmkjkeaaQFq33
import Derived.Test.YtfclkbppmkjkeaaQFq2
import Derived.Test.YtfclkbppmkjkeaaQFq7
import Derived.IntWalk
import Derived.Laws.Small
import Derived.Test.YtfclkbppmkjkeaaQFq5
namespace Go.Proofs.Ytfclkbppmkjkeaa
open Go.RowKit

theorem oft_go {ys : List Int} {k : Nat} (h : (oft ys k).2 < runK ys (k + 1)) : oft ys (k + 1) = (at0 ys k, runK ys (k + 1)) := by rw [oft, if_pos h]
theorem oft_stay {ys : List Int} {k : Nat} (h : ¬ (oft ys k).2 < runK ys (k + 1)) : oft ys (k + 1) = oft ys k := by rw [oft, if_neg h]

set_option maxRecDepth 8000 in
set_option maxHeartbeats 2000000 in
theorem often1_any {a : Option Addr} {c : Nat} {xs : List Int} {w : World} (hr : Rd (Value.int .i64) w a c xs) (hn : xs.length ≤ 1048576) (hne : xs ≠ []) :
    Calls Try.prog 71 #[.slice a xs.length c] w fun e w' => e = .returned (.int .i64 (oftR (srt xs))) ∧ Below w.heap.size w w' := by
  obtain ⟨ys, hys⟩ : ∃ ys, srt xs = ys := ⟨_, rfl⟩
  rw [hys]
  go_enter Try.func71, Try.ntmps71
  go_wp2_with fail
  refine (clonei_any _ _ _ _ hr hn).mono ?_
  rintro e w1 ⟨a1, c1, rfl, ho1, hb1⟩
  go_wp2_with fail
  refine (sorti_own ho1 hn hne).mono ?_
  rintro e w2 ⟨rfl, ho2, hg2⟩
  have HB := Lib.hid (hb1.trans (grown_belowOwn ho1 hg2 (Nat.le_refl _) hb1.size))
  have hl : xs.length = ys.length := by rw [← hys, srt_len]
  rw [hys] at ho2
  have HN := Lib.hid (And.intro hn hne)
  have hpos : 0 < ys.length := by rw [← hl]; exact List.length_pos_iff.2 hne
  have hn : ys.length ≤ 1048576 := by omega
  rw [hl]
  have HR := Lib.hid ho2.rd
  have hix := ho2.rd.idx und_is siz_is
  have hi0 := rd_idxAt ho2.rd und_is siz_is 0 hpos 0 rfl
  obtain ⟨z, hz⟩ : ∃ z, at0 ys 0 = z := ⟨_, rfl⟩
  have hc0 := at0_cell ho2.rd hpos hz
  have HZ := Lib.hid hz
  clear hr hne hb1 ho1 ho2 hg2 hys hl hz
  go_wp2_with fail
  clear hc0
  go_loop [4, 5, 6, 18] (fun b m r i => ∃ (k : Nat) (B M R : Int), k ≤ ys.length ∧ i = .int .i64 k ∧ b = .int .i64 B ∧ m = .int .i64 M ∧ r = .int .i64 R ∧ 0 ≤ R ∧ R ≤ k ∧ Hid (oft ys k = (B, M)) ∧ Hid (runK ys k = R)) (fun _ _ _ i => ys.length - (intOf i).toNat)
  case atStart => exact ⟨0, z, 0, 0, Nat.zero_le _, rfl, rfl, rfl, rfl, by omega, by omega, Lib.hid (by rw [← HZ.out]; rfl), Lib.hid rfl⟩
  case round =>
    obtain ⟨k, B, M, R, hk, rfl, rfl, rfl, rfl, hR0, hR1, HO, HK⟩ := hrel
    by_cases hlt : k < ys.length
    · obtain ⟨x, hx⟩ : ∃ x, at0 ys k = x := ⟨_, rfl⟩
      have hcx := at0_cell HR.out hlt hx
      have HX := Lib.hid hx
      clear hx
      -- the run behind this number
      have hrun : ∃ R2 : Int, 0 ≤ R2 ∧ R2 ≤ k ∧ runK ys (k + 1) = R2 + 1 ∧ ((k = 0 ∧ R2 = R) ∨ (0 < k ∧ (if at0 ys k = at0 ys (k - 1) then R2 = R else R2 = 0))) := by
        by_cases h0 : k = 0
        · subst h0
          refine ⟨0, by omega, by omega, by rw [runK_zero]; rfl, .inl ⟨rfl, ?_⟩⟩
          have := HK.out
          simp [runK] at this
          omega
        · by_cases he : at0 ys k = at0 ys (k - 1)
          · exact ⟨R, hR0, hR1, by rw [runK_same (by omega) he, HK.out], .inr ⟨by omega, by rw [if_pos he]⟩⟩
          · exact ⟨0, by omega, by omega, by rw [runK_new he]; rfl, .inr ⟨by omega, by rw [if_neg he]⟩⟩
      obtain ⟨R2, h20, h21, hru, hway⟩ := hrun
      have HRU := Lib.hid hru
      have hMO : ∀ B' M', (if M < R2 + 1 then (B' = x ∧ M' = R2 + 1) else (B' = B ∧ M' = M)) → oft ys (k + 1) = (B', M') := by
        intro B' M' h
        have hM : (oft ys k).2 = M := by rw [HO.out]
        split at h
        · rename_i hlt2
          rw [oft_go (by rw [hM, hru]; exact hlt2), hru, HX.out, h.1, h.2]
        · rename_i hlt2
          rw [oft_stay (by rw [hM, hru]; exact hlt2), HO.out, h.1, h.2]
      have HMO := Lib.hid hMO
      clear hru hMO
      have ew : IntKind.i64.wrap (R2 + 1) = R2 + 1 := IntWalk.i64_in _ (by omega)
      have ewk : IntKind.i64.wrap ((k : Int) + 1) = (k : Int) + 1 := IntWalk.i64_in _ (by omega)
      have hend : ∀ B' M', oft ys (k + 1) = (B', M') → True := fun _ _ _ => trivial
      by_cases hM : M < R2 + 1
      · have HR2 := HMO.out x (R2 + 1) (by rw [if_pos hM]; exact ⟨rfl, rfl⟩)
        have HR3 := Lib.hid HR2
        have hdm : decide (M < R2 + 1) = true := by simpa using hM
        clear HR2 hend
        rcases hway with ⟨h0, he⟩ | ⟨h0, he⟩
        · subst h0 he
          go_wp2
          go_round
          case rel => exact ⟨1, x, _, _, by omega, by go_num, rfl, rfl, rfl, by omega, by omega, HR3, HRU⟩
          case measure => simp [intOf]; omega
        · have hd0 : decide ((0 : Int) < (k : Int)) = true := by simp; omega
          have hdn : decide (0 < k) = true := by simp; omega
          have hixp := rd_idxAt HR.out und_is siz_is (k - 1) (by omega) ((k : Int) - 1) (by omega)
          obtain ⟨y, hy⟩ : ∃ x, at0 ys (k - 1) = x := ⟨_, rfl⟩
          have hcy := at0_cell HR.out (by omega) hy
          rw [HX.out, hy] at he
          have ewm : IntKind.i64.wrap ((k : Int) - 1) = (k : Int) - 1 := IntWalk.i64_in _ (by omega)
          by_cases hxy : x = y
          · rw [if_pos hxy] at he
            subst he
            have hbn : (x != y) = false := by simp [hxy]
            have HXY := Lib.hid hxy
            clear hxy hy
            go_wp2
            go_round
            case rel => exact ⟨k + 1, x, _, _, by omega, by go_num, rfl, rfl, rfl, by omega, by omega, HR3, HRU⟩
            case measure => simp [intOf]; omega
          · rw [if_neg hxy] at he
            subst he
            have hbn : (x != y) = true := by simpa using hxy
            have HXY := Lib.hid hxy
            clear hxy hy
            go_wp2
            go_round
            case rel => exact ⟨k + 1, x, _, _, by omega, by go_num, rfl, rfl, rfl, by omega, by omega, HR3, HRU⟩
            case measure => simp [intOf]; omega
      · have HR2 := HMO.out B M (by rw [if_neg hM]; exact ⟨rfl, rfl⟩)
        have HR3 := Lib.hid HR2
        have hdm : decide (M < R2 + 1) = false := by simpa using hM
        clear HR2 hend
        rcases hway with ⟨h0, he⟩ | ⟨h0, he⟩
        · subst h0 he
          go_wp2
          go_round
          case rel => exact ⟨1, B, _, _, by omega, by go_num, rfl, rfl, rfl, by omega, by omega, HR3, HRU⟩
          case measure => simp [intOf]; omega
        · have hd0 : decide ((0 : Int) < (k : Int)) = true := by simp; omega
          have hdn : decide (0 < k) = true := by simp; omega
          have hixp := rd_idxAt HR.out und_is siz_is (k - 1) (by omega) ((k : Int) - 1) (by omega)
          obtain ⟨y, hy⟩ : ∃ x, at0 ys (k - 1) = x := ⟨_, rfl⟩
          have hcy := at0_cell HR.out (by omega) hy
          rw [HX.out, hy] at he
          have ewm : IntKind.i64.wrap ((k : Int) - 1) = (k : Int) - 1 := IntWalk.i64_in _ (by omega)
          by_cases hxy : x = y
          · rw [if_pos hxy] at he
            subst he
            have hbn : (x != y) = false := by simp [hxy]
            have HXY := Lib.hid hxy
            clear hxy hy
            go_wp2
            go_round
            case rel => exact ⟨k + 1, B, _, _, by omega, by go_num, rfl, rfl, rfl, by omega, by omega, HR3, HRU⟩
            case measure => simp [intOf]; omega
          · rw [if_neg hxy] at he
            subst he
            have hbn : (x != y) = true := by simpa using hxy
            have HXY := Lib.hid hxy
            clear hxy hy
            go_wp2
            go_round
            case rel => exact ⟨k + 1, B, _, _, by omega, by go_num, rfl, rfl, rfl, by omega, by omega, HR3, HRU⟩
            case measure => simp [intOf]; omega
    · have hk' : k = ys.length := by omega
      subst hk'
      go_wp2
      go_ret
      exact ⟨ret_int (by show B = (oft ys ys.length).1; rw [HO.out]), HB.out⟩

theorem lastOnes_any {a : Option Addr} {c : Nat} {xs : List Int} {i : Nat} {L : Int} {w : World} (hr : Rd (Value.int .i64) w a c xs) (hi : i < xs.length) (hn : xs.length ≤ 1048576) (hL : 1 ≤ L ∧ L ≤ 128) :
    Calls Try.prog 126 #[.slice a xs.length c, .int .i64 i, .int .i64 L] w fun e w' => ∃ a2 c2, e = .returned (.slice a2 (lastL xs L i).length c2) ∧ Rd (Value.int .i64) w a2 c2 (lastL xs L i) ∧ w = w' := by
  obtain ⟨lo, hlo⟩ : ∃ lo : Nat, ((i : Int) - L + 1).toNat = lo := ⟨_, rfl⟩
  obtain ⟨zs, hzs⟩ : ∃ zs, lastL xs L i = zs := ⟨_, rfl⟩
  obtain ⟨a2, c2, hrun, hrd⟩ := hr.midRun (P := Try.prog) und_is siz_is (lo := lo) (hi := i + 1) (by omega) (by omega)
  have hzs2 : (xs.take (i + 1)).drop lo = zs := by rw [← hzs]; unfold lastL; rw [hlo]
  have hlen : i + 1 - lo = zs.length := by rw [← hzs2]; simp; omega
  rw [hzs]
  have HRD : Hid (Rd (Value.int .i64) w a2 c2 zs) := Lib.hid (hzs2 ▸ hrd w hr)
  have HL := Lib.hid hlen
  have e1 : IntKind.i64.wrap ((i : Int) - L) = (i : Int) - L := IntWalk.i64_in _ (by omega)
  have e2 : IntKind.i64.wrap ((i : Int) - L + 1) = (i : Int) - L + 1 := IntWalk.i64_in _ (by omega)
  have e3 : IntKind.i64.wrap ((i : Int) + 1) = (i : Int) + 1 := IntWalk.i64_in _ (by omega)
  have hmax : ∀ w', (Builtin.max_ #[3, 3] 3 #[.int .i64 0, .int .i64 ((i : Int) - L + 1)]).run Try.prog w' = .ok (.int .i64 (lo : Int)) w' := by
    intro w'
    rw [run_max_int2]
    have : (if (i : Int) - L + 1 > 0 then (i : Int) - L + 1 else 0) = (lo : Int) := by split <;> omega
    rw [this]
  have hrun2 : ∀ w' : World, (Instr.sliceAt 25 (.slice a xs.length c) (some (.int .i64 (lo : Int))) (some (.int .i64 ((i : Int) + 1))) none).run Try.prog w' = .ok (.slice a2 (i + 1 - lo) c2) w' := by
    have e : ((i : Int) + 1) = ((i + 1 : Nat) : Int) := by omega
    rw [e]; exact hrun
  clear hrd hlo hlen hrun hzs hzs2
  go_enter Try.func126, Try.ntmps126
  go_wp2
  go_ret
  exact ⟨a2, c2, by rw [HL.out]; rfl, HRD.out, rfl⟩

end Go.Proofs.Ytfclkbppmkjkeaa

namespace Go.Proofs.Ytfclkbppmkjkeaa
open Go.RowKit

theorem isStream_any {n : Nat} {w : World} : Calls Try.prog 74 #[.int .i64 n] w fun e w' => e = .returned (.bool (inR n 1 128)) ∧ w = w' := by
  by_cases h1 : 1 ≤ n
  · have hd : decide ((1 : Int) ≤ (n : Int)) = true := by simp; omega
    have hdn : decide (1 ≤ n) = true := by simp; omega
    have hdn2 : decide (0 < n) = true := by simp; omega
    by_cases h2 : n ≤ 128
    · have he : inR n 1 128 = true := by simp [inR]; omega
      rw [he]
      go_enter Try.func74, Try.ntmps74
      go_wp2
      go_ret
      exact ⟨ret_bool (show decide ((n : Int) ≤ 128) = _ by simp; omega), rfl⟩
    · have he : inR n 1 128 = false := by simp [inR]; omega
      rw [he]
      go_enter Try.func74, Try.ntmps74
      go_wp2
      go_ret
      exact ⟨ret_bool (show decide ((n : Int) ≤ 128) = _ by simp; omega), rfl⟩
  · have hd : decide ((1 : Int) ≤ (n : Int)) = false := by simp; omega
    have hdn : decide (1 ≤ n) = false := by simp; omega
    have hdn2 : decide (0 < n) = false := by simp; omega
    have he : inR n 1 128 = false := by simp [inR]; omega
    rw [he]
    go_enter Try.func74, Try.ntmps74
    go_wp2
    go_ret
    exact ⟨rfl, rfl⟩

/-- What is a list with its windows. -/
def lstB (L : Int) (xs : List Int) : Bool := inR xs.length 1 128 && xs.all (fun x => inR x (-1000000) 1000000) && inR L 1 128
def eachR (g : List Int → Int) (L : Int) (xs : List Int) (n : Nat) : List Int := (List.range n).map fun i => g (lastL xs L i)
def eachL (g : List Int → Int) (L : Int) (xs : List Int) : List Int := if lstB L xs then eachR g L xs xs.length else []
theorem eachR_len (g : List Int → Int) (L : Int) (xs : List Int) (n : Nat) : (eachR g L xs n).length = n := by simp [eachR]
theorem eachR_succ (g : List Int → Int) (L : Int) (xs : List Int) (n : Nat) : eachR g L xs (n + 1) = eachR g L xs n ++ [g (lastL xs L n)] := by simp [eachR, List.range_succ]
theorem eachL_len (g : List Int → Int) (L : Int) (xs : List Int) : (eachL g L xs).length ≤ 128 := by
  unfold eachL
  split
  · rename_i h
    simp only [lstB, Bool.and_eq_true, inR, decide_eq_true_eq] at h
    rw [eachR_len]; omega
  · simp
theorem lastL_len {xs : List Int} {L : Int} {i : Nat} (hi : i < xs.length) (hL : 1 ≤ L) : lastL xs L i ≠ [] ∧ (lastL xs L i).length ≤ xs.length := by
  unfold lastL
  constructor
  · intro h
    have := congrArg List.length h
    simp at this
    omega
  · simp; omega

set_option maxRecDepth 8000 in
set_option maxHeartbeats 2000000 in
theorem eachLast_any {a : Option Addr} {c : Nat} {xs : List Int} {L : Int} {w : World} (F : Nat) (g : List Int → Int) (hF : ∀ (vs : Array Value) (w : World), (callFunc F vs).run Try.prog w = .ok (.enter F vs) w)
    (hclo : ∀ (zs : List Int) (b : Option Addr) (cc : Nat) (wr : World), Rd (Value.int .i64) wr b cc zs → zs.length ≤ 1048576 → zs ≠ [] → Calls Try.prog F #[.slice b zs.length cc] wr fun e w' => e = .returned (.int .i64 (g zs)) ∧ Below wr.heap.size wr w')
    (hr : Rd (Value.int .i64) w a c xs) :
    Calls Try.prog 64 #[.slice a xs.length c, .int .i64 L, .func (.func F) #[] #[]] w (RetSB (Value.int .i64) 2 w (eachL g L xs) (lstB L xs)) := by
  cases h1 : inR xs.length 1 128 with
  | false =>
    have hb : lstB L xs = false := by unfold lstB; rw [h1]; rfl
    unfold eachL
    rw [hb]
    go_enter Try.func64, Try.ntmps64
    go_wp2_with fail
    refine (isStream_any).mono ?_
    rintro e w1 ⟨rfl, rfl⟩
    rw [h1]
    go_wp2
    go_ret2
    exact retSB_no (Below.refl _ _)
  | true =>
  cases h2 : xs.all (fun x => inR x (-1000000) 1000000) with
  | false =>
    have hb : lstB L xs = false := by unfold lstB; rw [h1, h2]; rfl
    unfold eachL
    rw [hb]
    go_enter Try.func64, Try.ntmps64
    go_wp2_with fail
    refine (isStream_any).mono ?_
    rintro e w1 ⟨rfl, rfl⟩
    rw [h1]
    go_wp2_with fail
    refine (areWithin_any _ _ _ _ _ _ hr).mono ?_
    rintro e w1 ⟨rfl, hb1⟩
    rw [h2]
    go_wp2
    go_ret2
    exact retSB_no hb1
  | true =>
  cases h3 : inR L 1 128 with
  | false =>
    have hb : lstB L xs = false := by unfold lstB; rw [h1, h2, h3]; rfl
    unfold eachL
    rw [hb]
    go_enter Try.func64, Try.ntmps64
    go_wp2_with fail
    refine (isStream_any).mono ?_
    rintro e w1 ⟨rfl, rfl⟩
    rw [h1]
    go_wp2_with fail
    refine (areWithin_any _ _ _ _ _ _ hr).mono ?_
    rintro e w1 ⟨rfl, hb1⟩
    rw [h2]
    go_wp2_with fail
    refine (within_any _ _ _ _).mono ?_
    rintro e w2 ⟨rfl, rfl⟩
    rw [h3]
    go_wp2
    go_ret2
    exact retSB_no hb1
  | true =>
  have hb : lstB L xs = true := by unfold lstB; rw [h1, h2, h3]; rfl
  obtain ⟨zs, hzs⟩ : ∃ zs, eachL g L xs = zs := ⟨_, rfl⟩
  have HZ : Hid (eachR g L xs xs.length = zs) := Lib.hid (by rw [← hzs]; unfold eachL; rw [hb]; rfl)
  rw [hb, hzs]
  have hn := (inR_eq _ _ _).1 h1
  have hL := (inR_eq _ _ _).1 h3
  have hn2 : xs.length ≤ 128 := by omega
  have HC := Lib.hid hclo
  have HR := Lib.hid hr
  clear hclo hzs hb hr
  go_enter Try.func64, Try.ntmps64
  go_wp2_with fail
  refine (isStream_any).mono ?_
  rintro e w1 ⟨rfl, rfl⟩
  rw [h1]
  go_wp2_with fail
  refine (areWithin_any _ _ _ _ _ _ HR.out).mono ?_
  rintro e w1 ⟨rfl, hb1⟩
  rw [h2]
  go_wp2_with fail
  refine (within_any _ _ _ _).mono ?_
  rintro e w2 ⟨rfl, rfl⟩
  rw [h3]
  clear h1 h2 h3
  have HE := Lib.hid (own_empty (f := Value.int .i64) (e := 2) (α := Int) w1 (by_ := 0) w.heap.size hb1.size rfl)
  have HB1 := Lib.hid (hb1.alloc hb1.size (.cells #[] 2))
  clear hb1
  go_wp2_with fail
  go_loopw [8, 27] (fun o i wr => ∃ (k : Nat) (b : Option Addr) (cc : Nat), k ≤ xs.length ∧ i = .int .i64 k ∧ o = .slice b k cc ∧ Hid (Own (Value.int .i64) 2 wr w.heap.size b cc (eachR g L xs k)) ∧ Hid (Below w.heap.size w wr)) (fun _ i _ => xs.length - (intOf i).toNat)
  case atStart => exact ⟨0, _, _, Nat.zero_le _, rfl, rfl, HE, HB1⟩
  case round =>
    obtain ⟨k, b, cc, hk, rfl, rfl, HO, HB⟩ := hrel
    by_cases hlt : k < xs.length
    · obtain ⟨wi, rfl⟩ : ∃ wi : World, wi = wr := ⟨_, rfl⟩
      have HRW := Lib.hid (HR.out.below HB.out (Nat.le_refl _))
      have ewk : IntKind.i64.wrap ((k : Int) + 1) = (k : Int) + 1 := IntWalk.i64_in _ (by omega)
      go_wp2_with fail
      refine (lastOnes_any HRW.out hlt (by omega) hL).mono ?_
      rintro e w3 ⟨a2, c2, rfl, hr2, rfl⟩
      obtain ⟨hne, hle⟩ := lastL_len (xs := xs) (i := k) hlt hL.1
      have hcl := HC.out (lastL xs L k) a2 c2 wi hr2 (by omega) hne
      have HS := Lib.hid (eachR_succ g L xs k)
      clear hr2 hne hle
      generalize lastL xs L k = ls at hcl HS ⊢
      have HCL := Lib.hid hcl
      clear hcl
      go_wp2_with fail
      refine HCL.out.mono ?_
      rintro e w3 ⟨rfl, hb3⟩
      generalize g ls = y at HS ⊢
      clear HCL
      have HO3 := Lib.hid (HO.out.below hb3 (Nat.le_refl _))
      have HB3 := Lib.hid (HB.out.trans (hb3.mono HB.out.size))
      have hz3 := HB3.out.size
      have hlk : (eachR g L xs k).length = k := eachR_len g L xs k
      obtain ⟨vs, hvs⟩ : ∃ vs, eachR g L xs k = vs := ⟨_, rfl⟩
      rw [hvs] at hlk HS HO3
      clear hb3 HO HB HRW hvs
      subst hlk
      go_wp2_with (at_builtin; refine wpl_append1 (f := Value.int .i64) (d := 0) (base := w.heap.size) und_ise info_i (fun _ => rfl) y HO3.out rfl _ _ rfl rfl rfl (by omega) (by omega) hz3 ?_; intro a4 c4 w4 ho4 hg4)
      go_roundw
      case rel => exact ⟨vs.length + 1, a4, c4, by omega, by go_num, by simp, Lib.hid (ho4.cast HS.out.symm), Lib.hid (HB3.out.trans (grown_belowOwn HO3.out hg4 (Nat.le_refl _) hz3))⟩
      case measure => simp [intOf]; omega
    · have hk' : k = xs.length := by omega
      subst hk'
      have hzl : xs.length = zs.length := by rw [← HZ.out, eachR_len]
      have HZL := Lib.hid hzl
      clear hzl
      go_wp2
      go_ret2
      exact ⟨b, cc, by rw [← HZL.out]; rfl, HO.out.cast HZ.out, HB.out⟩

theorem call_often1 (vs : Array Value) (w : World) : (callFunc 71 vs).run Try.prog w = .ok (.enter 71 vs) w := by kernel_rfl

def oftG (zs : List Int) : Int := oftR (srt zs)

theorem implOften_any {a : Option Addr} {c : Nat} {xs : List Int} {L : Int} {w : World} (hr : Rd (Value.int .i64) w a c xs) :
    Calls Try.prog 15 #[.slice a xs.length c, .int .i64 L] w (RetSB (Value.int .i64) 2 w (eachL oftG L xs) (lstB L xs)) := by
  have HC := Lib.hid (eachLast_any (L := L) 71 oftG call_often1 (fun zs b cc wr h1 h2 h3 => often1_any h1 h2 h3) hr)
  go_enter Try.func15, Try.ntmps15
  go_wp2_with fail
  refine HC.out.mono ?_
  rintro e w1 ⟨a1, c1, rfl, ho, hb⟩
  go_wp2
  go_ret2
  exact ⟨a1, c1, rfl, ho, hb⟩

end Go.Proofs.Ytfclkbppmkjkeaa
