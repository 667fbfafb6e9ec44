/- A number for the last ones of every index of a list: eachLast in the program's text, for whatever closure. -/
import Derived.Test.YtihbckoldblpcaaOftI
import Derived.Test.YtihbckoldblpcaaWith
namespace Go.Proofs.Ytihbckoldblpcaa
open Go.RowKit

theorem isStream_any {n : Nat} {w : World} : Calls Try.prog 111 #[.int .i64 n] w fun e w' => e = .returned (.bool (inR n 1 128)) ∧ w = w' := by
  by_cases h1 : 1 ≤ n
  · have hd : decide ((1 : Int) ≤ (n : Int)) = true := by simp; omega
    have hdn : decide (1 ≤ n) = true := by simp; omega
    have hdn2 : decide (0 < n) = true := by simp; omega
    by_cases h2 : n ≤ 128
    · have he : inR n 1 128 = true := by simp [inR]; omega
      rw [he]
      go_enter Try.func111, Try.ntmps111
      go_wp2
      go_ret
      exact ⟨ret_bool (show decide ((n : Int) ≤ 128) = _ by simp; omega), rfl⟩
    · have he : inR n 1 128 = false := by simp [inR]; omega
      rw [he]
      go_enter Try.func111, Try.ntmps111
      go_wp2
      go_ret
      exact ⟨ret_bool (show decide ((n : Int) ≤ 128) = _ by simp; omega), rfl⟩
  · have hd : decide ((1 : Int) ≤ (n : Int)) = false := by simp; omega
    have hdn : decide (1 ≤ n) = false := by simp; omega
    have hdn2 : decide (0 < n) = false := by simp; omega
    have he : inR n 1 128 = false := by simp [inR]; omega
    rw [he]
    go_enter Try.func111, Try.ntmps111
    go_wp2
    go_ret
    exact ⟨rfl, rfl⟩

/-- What is a list with its windows. -/
def lstB (L : Int) (xs : List Int) : Bool := inR xs.length 1 128 && xs.all (fun x => inR x (-1000000) 1000000) && inR L 1 128
def eachR (g : List Int → Int) (L : Int) (xs : List Int) (n : Nat) : List Int := (List.range n).map fun i => g (lastL xs L i)
def eachL (g : List Int → Int) (L : Int) (xs : List Int) : List Int := if lstB L xs then eachR g L xs xs.length else []
theorem eachR_len (g : List Int → Int) (L : Int) (xs : List Int) (n : Nat) : (eachR g L xs n).length = n := by simp [eachR]
theorem eachR_succ (g : List Int → Int) (L : Int) (xs : List Int) (n : Nat) : eachR g L xs (n + 1) = eachR g L xs n ++ [g (lastL xs L n)] := by simp [eachR, List.range_succ]
theorem eachL_len (g : List Int → Int) (L : Int) (xs : List Int) : (eachL g L xs).length ≤ 128 := by
  unfold eachL
  split
  · rename_i h
    simp only [lstB, Bool.and_eq_true, inR, decide_eq_true_eq] at h
    rw [eachR_len]; omega
  · simp
theorem lastL_len {xs : List Int} {L : Int} {i : Nat} (hi : i < xs.length) (hL : 1 ≤ L) : lastL xs L i ≠ [] ∧ (lastL xs L i).length ≤ xs.length := by
  unfold lastL
  constructor
  · intro h
    have := congrArg List.length h
    simp at this
    omega
  · simp; omega

set_option maxRecDepth 8000 in
set_option maxHeartbeats 2000000 in
theorem eachLast_any {a : Option Addr} {c : Nat} {xs : List Int} {L : Int} {w : World} (F : Nat) (g : List Int → Int) (hF : ∀ (vs : Array Value) (w : World), (callFunc F vs).run Try.prog w = .ok (.enter F vs) w)
    (hclo : ∀ (zs : List Int) (b : Option Addr) (cc : Nat) (wr : World), Rd (Value.int .i64) wr b cc zs → zs.length ≤ 1048576 → zs ≠ [] → Calls Try.prog F #[.slice b zs.length cc] wr fun e w' => e = .returned (.int .i64 (g zs)) ∧ Below wr.heap.size wr w')
    (hr : Rd (Value.int .i64) w a c xs) :
    Calls Try.prog 57 #[.slice a xs.length c, .int .i64 L, .func (.func F) #[] #[]] w (RetSB (Value.int .i64) 2 w (eachL g L xs) (lstB L xs)) := by
  cases h1 : inR xs.length 1 128 with
  | false =>
    have hb : lstB L xs = false := by unfold lstB; rw [h1]; rfl
    unfold eachL
    rw [hb]
    go_enter Try.func57, Try.ntmps57
    go_wp2_with fail
    refine (isStream_any).mono ?_
    rintro e w1 ⟨rfl, rfl⟩
    rw [h1]
    go_wp2
    go_ret2
    exact retSB_no (Below.refl _ _)
  | true =>
  cases h2 : xs.all (fun x => inR x (-1000000) 1000000) with
  | false =>
    have hb : lstB L xs = false := by unfold lstB; rw [h1, h2]; rfl
    unfold eachL
    rw [hb]
    go_enter Try.func57, Try.ntmps57
    go_wp2_with fail
    refine (isStream_any).mono ?_
    rintro e w1 ⟨rfl, rfl⟩
    rw [h1]
    go_wp2_with fail
    refine (areWithin_any _ _ _ _ _ _ hr).mono ?_
    rintro e w1 ⟨rfl, hb1⟩
    rw [h2]
    go_wp2
    go_ret2
    exact retSB_no hb1
  | true =>
  cases h3 : inR L 1 128 with
  | false =>
    have hb : lstB L xs = false := by unfold lstB; rw [h1, h2, h3]; rfl
    unfold eachL
    rw [hb]
    go_enter Try.func57, Try.ntmps57
    go_wp2_with fail
    refine (isStream_any).mono ?_
    rintro e w1 ⟨rfl, rfl⟩
    rw [h1]
    go_wp2_with fail
    refine (areWithin_any _ _ _ _ _ _ hr).mono ?_
    rintro e w1 ⟨rfl, hb1⟩
    rw [h2]
    go_wp2_with fail
    refine (within_any _ _ _ _).mono ?_
    rintro e w2 ⟨rfl, rfl⟩
    rw [h3]
    go_wp2
    go_ret2
    exact retSB_no hb1
  | true =>
  have hb : lstB L xs = true := by unfold lstB; rw [h1, h2, h3]; rfl
  obtain ⟨zs, hzs⟩ : ∃ zs, eachL g L xs = zs := ⟨_, rfl⟩
  have HZ : Hid (eachR g L xs xs.length = zs) := Lib.hid (by rw [← hzs]; unfold eachL; rw [hb]; rfl)
  rw [hb, hzs]
  have hn := (inR_eq _ _ _).1 h1
  have hL := (inR_eq _ _ _).1 h3
  have hn2 : xs.length ≤ 128 := by omega
  have HC := Lib.hid hclo
  have HR := Lib.hid hr
  clear hclo hzs hb hr
  go_enter Try.func57, Try.ntmps57
  go_wp2_with fail
  refine (isStream_any).mono ?_
  rintro e w1 ⟨rfl, rfl⟩
  rw [h1]
  go_wp2_with fail
  refine (areWithin_any _ _ _ _ _ _ HR.out).mono ?_
  rintro e w1 ⟨rfl, hb1⟩
  rw [h2]
  go_wp2_with fail
  refine (within_any _ _ _ _).mono ?_
  rintro e w2 ⟨rfl, rfl⟩
  rw [h3]
  clear h1 h2 h3
  have HE := Lib.hid (own_empty (f := Value.int .i64) (e := 2) (α := Int) w1 (by_ := 0) w.heap.size hb1.size rfl)
  have HB1 := Lib.hid (hb1.alloc hb1.size (.cells #[] 2))
  clear hb1
  go_wp2_with fail
  go_loopw [8, 27] (fun o i wr => ∃ (k : Nat) (b : Option Addr) (cc : Nat), k ≤ xs.length ∧ i = .int .i64 k ∧ o = .slice b k cc ∧ Hid (Own (Value.int .i64) 2 wr w.heap.size b cc (eachR g L xs k)) ∧ Hid (Below w.heap.size w wr)) (fun _ i _ => xs.length - (intOf i).toNat)
  case atStart => exact ⟨0, _, _, Nat.zero_le _, rfl, rfl, HE, HB1⟩
  case round =>
    obtain ⟨k, b, cc, hk, rfl, rfl, HO, HB⟩ := hrel
    by_cases hlt : k < xs.length
    · obtain ⟨wi, rfl⟩ : ∃ wi : World, wi = wr := ⟨_, rfl⟩
      have HRW := Lib.hid (HR.out.below HB.out (Nat.le_refl _))
      have ewk : IntKind.i64.wrap ((k : Int) + 1) = (k : Int) + 1 := IntWalk.i64_in _ (by omega)
      go_wp2_with fail
      refine (lastOnes_any HRW.out hlt (by omega) hL).mono ?_
      rintro e w3 ⟨a2, c2, rfl, hr2, rfl⟩
      obtain ⟨hne, hle⟩ := lastL_len (xs := xs) (i := k) hlt hL.1
      have hcl := HC.out (lastL xs L k) a2 c2 wi hr2 (by omega) hne
      have HS := Lib.hid (eachR_succ g L xs k)
      clear hr2 hne hle
      generalize lastL xs L k = ls at hcl HS ⊢
      have HCL := Lib.hid hcl
      clear hcl
      go_wp2_with fail
      refine HCL.out.mono ?_
      rintro e w3 ⟨rfl, hb3⟩
      generalize g ls = y at HS ⊢
      clear HCL
      have HO3 := Lib.hid (HO.out.below hb3 (Nat.le_refl _))
      have HB3 := Lib.hid (HB.out.trans (hb3.mono HB.out.size))
      have hz3 := HB3.out.size
      have hlk : (eachR g L xs k).length = k := eachR_len g L xs k
      obtain ⟨vs, hvs⟩ : ∃ vs, eachR g L xs k = vs := ⟨_, rfl⟩
      rw [hvs] at hlk HS HO3
      clear hb3 HO HB HRW hvs
      subst hlk
      go_wp2_with (at_builtin; refine wpl_append1 (f := Value.int .i64) (d := 0) (base := w.heap.size) und_ise info_i (fun _ => rfl) y HO3.out rfl _ _ rfl rfl rfl (by omega) (by omega) hz3 ?_; intro a4 c4 w4 ho4 hg4)
      go_roundw
      case rel => exact ⟨vs.length + 1, a4, c4, by omega, by go_num, by simp, Lib.hid (ho4.cast HS.out.symm), Lib.hid (HB3.out.trans (grown_belowOwn HO3.out hg4 (Nat.le_refl _) hz3))⟩
      case measure => simp [intOf]; omega
    · have hk' : k = xs.length := by omega
      subst hk'
      have hzl : xs.length = zs.length := by rw [← HZ.out, eachR_len]
      have HZL := Lib.hid hzl
      clear hzl
      go_wp2
      go_ret2
      exact ⟨b, cc, by rw [← HZL.out]; rfl, HO.out.cast HZ.out, HB.out⟩

theorem call_often1 (vs : Array Value) (w : World) : (callFunc 75 vs).run Try.prog w = .ok (.enter 75 vs) w := by kernel_rfl

def oftG (zs : List Int) : Int := oftR (srt zs)

theorem implOften_any {a : Option Addr} {c : Nat} {xs : List Int} {L : Int} {w : World} (hr : Rd (Value.int .i64) w a c xs) :
    Calls Try.prog 33 #[.slice a xs.length c, .int .i64 L] w (RetSB (Value.int .i64) 2 w (eachL oftG L xs) (lstB L xs)) := by
  have HC := Lib.hid (eachLast_any (L := L) 75 oftG call_often1 (fun zs b cc wr h1 h2 h3 => often1_any h1 h2 h3) hr)
  go_enter Try.func33, Try.ntmps33
  go_wp2_with fail
  refine HC.out.mono ?_
  rintro e w1 ⟨a1, c1, rfl, ho, hb⟩
  go_wp2
  go_ret2
  exact ⟨a1, c1, rfl, ho, hb⟩

end Go.Proofs.Ytihbckoldblpcaa
