/- slices.SortStableFunc at []int64: the merge by turning, whole. -/
import Derived.Test.YtncbkbfkdgggkaaDoorQPk17
import Derived.Deep.Cut
import Derived.Deep.DeepCutAuto
set_option linter.unusedVariables false
set_option linter.unusedSimpArgs false
namespace Go.Proofs.YtncbkbfkdgggkaaDoor
open Go.RowKit

/-- What the merge promises, for all parts of at most n elements. -/
def MergeDone (val K : Int → Int) (cf : Int → Int → Int) (T : Int → Prop) (F : Nat) (caps : Array Value) (n : Nat) : Prop :=
  ∀ {w : World} {base : Nat} {a : Option Addr} {c : Nat} {ts : List Int} {lo m hi : Nat}, hi - lo ≤ n → Own (vI val) 2 w base a c ts → ts.length ≤ 1048576 → lo < m → m < hi → hi ≤ ts.length →
    CmpOk Tryd.prog F caps w (a.map (·.block)) val K cf T → All T ts → Stab K ts → ascR ts lo m → ascR ts m hi →
    Calls Tryd.prog 79 #[.slice a ts.length c, .int .i64 lo, .int .i64 m, .int .i64 hi, .func (.func F) #[] caps] w fun e w' => e = .returned (.tuple #[]) ∧ MergedW val w base a c ts lo hi w'

theorem MergeDone.at {val K : Int → Int} {cf : Int → Int → Int} {T : Int → Prop} {F : Nat} {caps : Array Value} {n : Nat} (h : Hid (MergeDone val K cf T F caps n))
    {w : World} {base : Nat} {a : Option Addr} {c : Nat} {ts : List Int} {lo m hi : Nat} (h0 : hi - lo ≤ n) (ho : Own (vI val) 2 w base a c ts) (hn : ts.length ≤ 1048576) (h1 : lo < m) (h2 : m < hi) (hh : hi ≤ ts.length)
    (hc : CmpOk Tryd.prog F caps w (a.map (·.block)) val K cf T) (hT : All T ts) (hS : Stab K ts) (hA : ascR ts lo m) (hB : ascR ts m hi) :
    Calls Tryd.prog 79 #[.slice a ts.length c, .int .i64 lo, .int .i64 m, .int .i64 hi, .func (.func F) #[] caps] w fun e w' => e = .returned (.tuple #[]) ∧ MergedW val w base a c ts lo hi w' :=
  h.out h0 ho hn h1 h2 hh hc hT hS hA hB

set_option maxRecDepth 8000 in
set_option maxHeartbeats 8000000 in
theorem symm3_own {F : Nat} {caps : Array Value} {val K : Int → Int} {cf : Int → Int → Int} {T : Int → Prop} {w : World} {base : Nat} {a : Option Addr} {c : Nat} {ts : List Int} {lo m hi : Nat} (hK : Mono K)
    (IH : MergeDone val K cf T F caps (hi - lo - 1))
    (ho : Own (vI val) 2 w base a c ts) (hn : ts.length ≤ 1048576) (h1 : lo + 1 < m) (h2 : m + 1 < hi) (hh : hi ≤ ts.length) (hc : CmpOk Tryd.prog F caps w (a.map (·.block)) val K cf T) (hT : All T ts) (hS : Stab K ts) (hA : ascR ts lo m) (hB : ascR ts m hi) :
    Calls Tryd.prog 79 #[.slice a ts.length c, .int .i64 lo, .int .i64 m, .int .i64 hi, .func (.func F) #[] caps] w fun e w' => e = .returned (.tuple #[]) ∧ MergedW val w base a c ts lo hi w' := by
  have HIH : Hid (MergeDone val K cf T F caps (hi - lo - 1)) := IH
  have HS := Lib.hid hS
  have HO := Lib.hid ho
  have HC : Aside _ := hc
  have HT := Lib.hid hT
  have HK := Lib.hid hK
  have HA := Lib.hid hA
  have HB := Lib.hid hB
  obtain ⟨n, hnn⟩ : ∃ n, ts.length = n := ⟨_, rfl⟩
  have HN := Lib.hid hnn
  rw [hnn] at hh hn ⊢
  have ew0 : IntKind.i64.wrap ((m : Int) - lo) = ((m - lo : Nat) : Int) := by rw [IntWalk.i64_in _ (by omega)]; omega
  have hb0 : (((m - lo : Nat) : Int) == 1) = false := by simp; omega
  have ew01 : IntKind.i64.wrap ((hi : Int) - m) = ((hi - m : Nat) : Int) := by rw [IntWalk.i64_in _ (by omega)]; omega
  have hb01 : (((hi - m : Nat) : Int) == 1) = false := by simp; omega
  obtain ⟨mid, hmid⟩ : ∃ mid, mid = (lo + hi) / 2 := ⟨_, rfl⟩
  have ew1 : IntKind.i64.wrap ((lo : Int) + hi) = (lo : Int) + hi := IntWalk.i64_in _ (by omega)
  have ew2 : IntKind.u64.wrap ((lo : Int) + hi) = (lo : Int) + hi := by rw [IntKind.wrap_u64]; omega
  have ew3 : ((lo : Int) + hi) / 2 = (mid : Int) := by omega
  have ew4 : IntKind.i64.wrap (mid : Int) = (mid : Int) := IntWalk.i64_in _ (by omega)
  have ew5 : IntKind.i64.wrap ((mid : Int) + m) = (mid : Int) + m := IntWalk.i64_in _ (by omega)
  have ew6 : IntKind.i64.wrap ((mid : Int) + m - 1) = (mid : Int) + m - 1 := IntWalk.i64_in _ (by omega)
  have HMID := Lib.hid hmid
  have HBD := Lib.hid (And.intro h1 h2)
  have hbd : lo < mid ∧ mid < hi ∧ lo < m ∧ m < hi := by omega
  clear hS ho hc hT hK hnn hA hB IH hmid h1 h2
  go_enter Tryd.func79, Tryd.ntmps79
  go_upto_if 140 with (fail)
  go_cut [20, 21] (fun v20 v21 wx => ∃ s0 r0 : Nat, v20 = .int .i64 s0 ∧ v21 = .int .i64 r0 ∧ Own (vI val) 2 wx base a c ts ∧ w.grownBy wx (a.map (·.block)) ∧ ((mid < m ∧ s0 = mid + m - hi ∧ r0 = mid) ∨ (m ≤ mid ∧ s0 = lo ∧ r0 = m)))
  case first =>
    by_cases hmm : mid < m
    · have hd : decide ((mid : Int) < (m : Int)) = true := decide_eq_true (by omega)
      have ew7 : IntKind.i64.wrap ((mid : Int) + m - hi) = ((mid + m - hi : Nat) : Int) := by have := HMID.out; rw [IntWalk.i64_in _ (by omega)]; omega
      go_wp2
      go_meet
      case rel => exact ⟨mid + m - hi, mid, rfl, rfl, HO.out, grown_refl _ _, .inl ⟨hmm, rfl, rfl⟩⟩
    · have hd : decide ((mid : Int) < (m : Int)) = false := decide_eq_false (by omega)
      go_wp2
      go_meet
      case rel => exact ⟨lo, m, rfl, rfl, HO.out, grown_refl _ _, .inr ⟨by omega, rfl, rfl⟩⟩
  case rest =>
    obtain ⟨s0, r0, rfl, rfl, ho, hg, h0⟩ := hcut
    have HOA := Lib.hid ho
    have HGA := Lib.hid hg
    clear ho hg
    have H0 := Lib.hid h0
    have h0b : s0 ≤ r0 ∧ r0 ≤ mid ∧ r0 ≤ m := by have := HMID.out; omega
    clear h0
    go_wp2
    go_loopg [20, 21, 23] (r0 - s0) (fun g1 vi vj _ wr => ∃ (i j : Nat), vi = .int .i64 i ∧ vj = .int .i64 j ∧ s0 ≤ i ∧ i ≤ j ∧ j ≤ r0 ∧ j - i ≤ g1 ∧ Hid (∀ k, s0 ≤ k → k < i → ¬ at0 ts (mid + m - 1 - k) < at0 ts k) ∧ Hid (∀ k, j ≤ k → k < r0 → at0 ts (mid + m - 1 - k) < at0 ts k) ∧ Own (vI val) 2 wr base a c ts ∧ w.grownBy wr (a.map (·.block)))
    case atStart => exact ⟨s0, r0, rfl, rfl, by omega, by omega, by omega, by omega, Lib.hid (fun k h1 h2 => by omega), Lib.hid (fun k h1 h2 => by omega), HOA.out, HGA.out⟩
    case round =>
      obtain ⟨i, j, rfl, rfl, hi0, hij, hj0, hg1, HL, HR, ho, hg⟩ := hrel
      have HOI := Lib.hid ho
      have HG := Lib.hid hg
      obtain ⟨wi, hwi⟩ : ∃ wi : World, wi = wr := ⟨_, rfl⟩
      rw [← hwi]
      rw [← hwi] at HOI HG
      clear ho hg hwi
      by_cases hlt : i < j
      · have hltz : (i : Int) < (j : Int) := by omega
        obtain ⟨h, hh0⟩ : ∃ h, h = (i + j) / 2 := ⟨_, rfl⟩
        have hhi : i ≤ h ∧ h < j := by omega
        obtain ⟨p, hp⟩ : ∃ p, p = mid + m - 1 - h := ⟨_, rfl⟩
        have hpn : h < p ∧ p < n := by have := H0.out; have := HMID.out; omega
        obtain ⟨x, hx⟩ : ∃ x, at0 ts p = x := ⟨_, rfl⟩
        obtain ⟨y, hy⟩ : ∃ x, at0 ts h = x := ⟨_, rfl⟩
        have hcm := cmp_at HC.out HT.out HK.out HS.out HG.out (p := h) (q := p) hpn.1 (by rw [HN.out]; exact hpn.2) hx hy
        have HCM := Lib.hid hcm.1
        have hcmp := hcm.2
        have eg := HC.out.enters
        have hixp := ownI_idx HOI.out und_is siz_is p (by rw [HN.out]; exact hpn.2) ((mid : Int) + m - 1 - h) (by omega)
        have hixh := ownI_idx HOI.out und_is siz_is h (by rw [HN.out]; omega) (h : Int) rfl
        rw [HN.out] at hixh hixp
        have hch := ownI_cell HOI.out (by rw [HN.out]; exact hpn.2) hx
        have hcl := ownI_cell HOI.out (by rw [HN.out]; omega) hy
        have fw1 : IntKind.i64.wrap ((i : Int) + j) = (i : Int) + j := IntWalk.i64_in _ (by omega)
        have fw2 : IntKind.u64.wrap ((i : Int) + j) = (i : Int) + j := by rw [IntKind.wrap_u64]; omega
        have fw3 : ((i : Int) + j) / 2 = (h : Int) := by omega
        have fw4 : IntKind.i64.wrap (h : Int) = (h : Int) := IntWalk.i64_in _ (by omega)
        have fw5 : IntKind.i64.wrap ((h : Int) + 1) = (h : Int) + 1 := IntWalk.i64_in _ (by omega)
        have fw6 : IntKind.i64.wrap ((mid : Int) + m - 1 - h) = (mid : Int) + m - 1 - h := IntWalk.i64_in _ (by omega)
        rw [hp] at hx
        clear hcm
        by_cases hxy : x < y
        · as_aux_lemma =>
            have hneg : decide (cf x y < 0) = true := by rw [hcmp]; exact decide_eq_true hxy
            have HR2 := Lib.hid (srch_down (h := h) hbd.2.2.1 hbd.2.2.2 HMID.out H0.out HA.out HB.out (by omega) (by rw [hx, hy]; exact hxy))
            clear hcmp hx hy hxy hh0 hp
            go_wp2_with fail
            go_quiet (first | (go_at_fn F; refine Calls.quiet_of (HCM.out _)))
            have HOW := Lib.hid (HOI.out.drewN nq)
            have HGW := Lib.hid (grown_trans HG.out (grown_drewN wi nq _))
            clear HOI HG hch hcl HCM
            generalize wi.drewN nq = wz at HOW HGW ⊢
            go_wp2
            go_roundg (h - i)
            case measure => omega
            case rel => exact ⟨i, h, rfl, by go_num, by omega, by omega, by omega, by omega, HL, HR2, HOW.out, HGW.out⟩
        · as_aux_lemma =>
            have hneg : decide (cf x y < 0) = false := by rw [hcmp]; exact decide_eq_false hxy
            have HL2 := Lib.hid (srch_up (h := h) (s := s0) hbd.2.2.1 hbd.2.2.2 HMID.out H0.out HA.out HB.out (by omega) (by omega) (by rw [hx, hy]; exact hxy))
            clear hcmp hx hy hxy hh0 hp
            go_wp2_with fail
            go_quiet (first | (go_at_fn F; refine Calls.quiet_of (HCM.out _)))
            have HOW := Lib.hid (HOI.out.drewN nq)
            have HGW := Lib.hid (grown_trans HG.out (grown_drewN wi nq _))
            clear HOI HG hch hcl HCM
            generalize wi.drewN nq = wz at HOW HGW ⊢
            go_wp2
            go_roundg (j - (h + 1))
            case measure => omega
            case rel => exact ⟨h + 1, j, by go_num, rfl, by omega, by omega, by omega, by omega, HL2, HR, HOW.out, HGW.out⟩
      · have hltz : ¬ (i : Int) < (j : Int) := by omega
        obtain rfl : i = j := by omega
        have hF : Found ts lo m hi mid i := found_of hbd.2.2.1 hbd.2.2.2 HMID.out H0.out hi0 hj0 HA.out HB.out HL.out HR.out
        have HF := Lib.hid hF
        obtain ⟨e, he⟩ : ∃ e, e = mid + m - i := ⟨_, rfl⟩
        have hb9 : lo ≤ i ∧ i ≤ m ∧ i ≤ mid ∧ m ≤ e ∧ e ≤ hi := ⟨hF.ls, hF.sm, hF.sd, by rw [he]; exact hF.me, by rw [he]; exact hF.eh⟩
        have hse : i + (e - m) = mid := by omega
        have fwe : IntKind.i64.wrap ((mid : Int) + m - i) = (e : Int) := by rw [IntWalk.i64_in _ (by omega)]; omega
        have HEE := Lib.hid (And.intro he hse)
        obtain ⟨A, X, Y, B, hts, lA, lX, lY, hrot⟩ := rot_split (ts := ts) hb9.2.1 hb9.2.2.2.1 (by rw [HN.out]; omega)
        have HPRT := Lib.hid (And.intro hts (And.intro lA (And.intro lX (And.intro lY hrot))))
        clear HL HR H0 hts lA lX lY hrot hF he hse
        go_upto_region 39 with (fail)
        have HHN := Lib.hid (And.intro hn hh)
        clear ew0 hb0 ew01 hb01 ew1 ew2 ew3 ew4 ew5 ew6 fwe h0b hn hh hltz hlt
        go_cut [185] (fun v wx => v = .bool (decide (i < m) && decide (m < e)) ∧ Own (vI val) 2 wx base a c ts ∧ w.grownBy wx (a.map (·.block)))
        case first =>
          as_aux_lemma =>
            by_cases hc1 : i < m
            · have hd1 : decide ((i : Int) < (m : Int)) = true := decide_eq_true (by omega)
              by_cases hc2 : m < e
              · have hd2 : decide ((m : Int) < (e : Int)) = true := decide_eq_true (by omega)
                go_wp2
                go_meet
                case rel => exact ⟨by rw [decide_eq_true hc1, decide_eq_true hc2]; rfl, HOI.out, HG.out⟩
              · have hd2 : decide ((m : Int) < (e : Int)) = false := decide_eq_false (by omega)
                go_wp2
                go_meet
                case rel => exact ⟨by rw [decide_eq_false hc2, Bool.and_false], HOI.out, HG.out⟩
            · have hd1 : decide ((i : Int) < (m : Int)) = false := decide_eq_false (by omega)
              go_wp2
              go_meet
              case rel => exact ⟨by rw [decide_eq_false hc1, Bool.false_and], HOI.out, HG.out⟩
        case rest =>
        obtain ⟨rfl, ho, hg⟩ := hcut
        have HOJ := Lib.hid ho
        have HGJ := Lib.hid hg
        clear ho hg
        go_upto_if 185 with (fail)
        go_cut [] (fun wz => Own (vI val) 2 wz base a c (A ++ Y ++ X ++ B) ∧ w.grownBy wz (a.map (·.block)))
        case first =>
          as_aux_lemma =>
            by_cases hc1 : i < m
            · have hd1 : decide ((i : Int) < (m : Int)) = true := decide_eq_true (by omega)
              by_cases hc2 : m < e
              · have hd2 : decide ((m : Int) < (e : Int)) = true := decide_eq_true (by omega)
                have hR := rotate_own (f := .func (.func F) #[] caps) HOJ.out (by rw [HN.out]; exact HHN.out.1) HPRT.out.1 HPRT.out.2.1 HPRT.out.2.2.1 HPRT.out.2.2.2.1 hc1 hc2
                rw [HN.out] at hR
                have HR := Lib.hid hR
                clear hR
                go_wp2_with fail
                refine HR.out.mono ?_
                rintro en w1 ⟨rfl, ho1, hg1'⟩
                have HO1 := Lib.hid ho1
                have HG1 := Lib.hid (grown_trans HGJ.out hg1')
                clear ho1 hg1'
                go_wp2
                go_meet
                exact ⟨HO1.out, HG1.out⟩
              · have hd2 : decide ((m : Int) < (e : Int)) = false := decide_eq_false (by omega)
                have HO1 : Hid (Own (vI val) 2 wc base a c (A ++ Y ++ X ++ B)) := Lib.hid (HOJ.out.cast (by
                  have : Y = [] := List.length_eq_zero_iff.1 (by have := HPRT.out.2.2.2.1; omega)
                  rw [this, HPRT.out.1]; simp [this]))
                go_wp2
                go_meet
                exact ⟨HO1.out, HGJ.out⟩
            · have hd1 : decide ((i : Int) < (m : Int)) = false := decide_eq_false (by omega)
              have HO1 : Hid (Own (vI val) 2 wc base a c (A ++ Y ++ X ++ B)) := Lib.hid (HOJ.out.cast (by
                have : X = [] := List.length_eq_zero_iff.1 (by have := HPRT.out.2.2.1; omega)
                rw [this, HPRT.out.1]; simp [this]))
              go_wp2
              go_meet
              exact ⟨HO1.out, HGJ.out⟩
        case rest =>
          obtain ⟨ho1, hg1'⟩ := hcut
          obtain ⟨us, hus⟩ : ∃ us, us = A ++ Y ++ X ++ B := ⟨_, rfl⟩
          rw [← hus] at ho1
          have hrot := HPRT.out.2.2.2.2
          rw [← hus] at hrot
          have hTu : Turned ts us lo i mid e hi := hrot.turned hb9.1 hb9.2.1 hb9.2.2.2.1 hb9.2.2.2.2 HEE.out.2 HA.out HB.out
            (fun p q h1 h2 h3 h4 => by have := HF.out.lt p q h1 h2 h3 (by rw [← HEE.out.1]; exact h4); omega) (fun p q h1 h2 h3 h4 => HF.out.le p q h1 h2 (by rw [← HEE.out.1]; exact h3) h4)
          have hSu : Stab K us := hrot.stab hb9.2.1 hb9.2.2.2.1 (by have := HHN.out.2; rw [HN.out]; omega) HS.out (fun p q h1 h2 h3 h4 => HF.out.lt p q h1 h2 h3 (by rw [← HEE.out.1]; exact h4))
          have hlu : us.length = n := by rw [hrot.len]; exact HN.out
          have HTU := Lib.hid hTu
          have HSU := Lib.hid hSu
          have HLU := Lib.hid hlu
          have HO1 := Lib.hid ho1
          have HG1 := Lib.hid hg1'
          have hub : i ≤ mid ∧ mid ≤ e := by have := HEE.out.2; omega
          clear ho1 hg1' hus hrot hTu hSu hlu HPRT HOJ HGJ HOI HG
          go_upto_region 41 with (fail)
          go_cut [199] (fun v wx => v = .bool (decide (lo < i) && decide (i < mid)) ∧ Own (vI val) 2 wx base a c us ∧ w.grownBy wx (a.map (·.block)))
          case first =>
            as_aux_lemma =>
              by_cases hc1 : lo < i
              · have hd1 : decide ((lo : Int) < (i : Int)) = true := decide_eq_true (by omega)
                by_cases hc2 : i < mid
                · have hd2 : decide ((i : Int) < (mid : Int)) = true := decide_eq_true (by omega)
                  go_wp2
                  go_meet
                  case rel => exact ⟨by rw [decide_eq_true hc1, decide_eq_true hc2]; rfl, HO1.out, HG1.out⟩
                · have hd2 : decide ((i : Int) < (mid : Int)) = false := decide_eq_false (by omega)
                  go_wp2
                  go_meet
                  case rel => exact ⟨by rw [decide_eq_false hc2, Bool.and_false], HO1.out, HG1.out⟩
              · have hd1 : decide ((lo : Int) < (i : Int)) = false := decide_eq_false (by omega)
                go_wp2
                go_meet
                case rel => exact ⟨by rw [decide_eq_false hc1, Bool.false_and], HO1.out, HG1.out⟩
          case rest =>
          obtain ⟨rfl, ho, hg⟩ := hcut
          have HOK := Lib.hid ho
          have HGK := Lib.hid hg
          clear ho hg
          go_upto_if 199 with (fail)
          go_cut [] (fun wz => ∃ vs, Own (vI val) 2 wz base a c vs ∧ w.grownBy wz (a.map (·.block)) ∧ RP lo mid us vs ∧ ascR vs lo mid)
          case first =>
            as_aux_lemma =>
              by_cases hc1 : lo < i
              · have hd1 : decide ((lo : Int) < (i : Int)) = true := decide_eq_true (by omega)
                by_cases hc2 : i < mid
                · have hd2 : decide ((i : Int) < (mid : Int)) = true := decide_eq_true (by omega)
                  have hR := MergeDone.at HIH (lo := lo) (m := i) (hi := mid) (by omega) HOK.out (by rw [HLU.out]; exact HHN.out.1) hc1 hc2 (by have := HHN.out.2; rw [HLU.out]; omega) (HC.out.grown HGK.out) (HT.out.perm HTU.out.rp.perm) HSU.out HTU.out.l1 HTU.out.l2
                  rw [HLU.out] at hR
                  have HR := Lib.hid hR
                  clear hR
                  go_wp2_with fail
                  refine HR.out.mono ?_
                  rintro en w1 ⟨rfl, vs, ho2, hg2, hr2, ha2⟩
                  have HX := Lib.hid (show ∃ vs, Own (vI val) 2 w1 base a c vs ∧ w.grownBy w1 (a.map (·.block)) ∧ RP lo mid us vs ∧ ascR vs lo mid from ⟨vs, ho2, grown_trans HGK.out hg2, hr2, ha2⟩)
                  clear ho2 hg2 hr2 ha2
                  go_wp2
                  go_meet
                  exact HX.out
                · have hd2 : decide ((i : Int) < (mid : Int)) = false := decide_eq_false (by omega)
                  have HX := Lib.hid (show ascR us lo mid from by
                    have : i = mid := by omega
                    subst this; exact HTU.out.l1)
                  go_wp2
                  go_meet
                  exact ⟨us, HOK.out, HGK.out, RP.refl _ _ _, HX.out⟩
              · have hd1 : decide ((lo : Int) < (i : Int)) = false := decide_eq_false (by omega)
                have HX := Lib.hid (show ascR us lo mid from by
                  have : lo = i := by omega
                  subst this; exact HTU.out.l2)
                go_wp2
                go_meet
                exact ⟨us, HOK.out, HGK.out, RP.refl _ _ _, HX.out⟩
          case rest =>
            obtain ⟨vs, ho2, hg2, hr2, ha2⟩ := hcut
            have hSv : Stab K vs := HSU.out.asc hr2 ha2 (by have := HHN.out.2; rw [HLU.out]; omega)
            have HR2 := Lib.hid (And.intro hr2 ha2)
            have HSV := Lib.hid hSv
            have HLV : Hid (vs.length = n) := Lib.hid (by rw [hr2.len]; exact HLU.out)
            have HO2 := Lib.hid ho2
            have HG2 := Lib.hid hg2
            clear ho2 hg2 hr2 ha2 hSv HO1 HG1 HOK HGK
            by_cases hc1 : mid < e
            · have hd1 : decide ((mid : Int) < (e : Int)) = true := decide_eq_true (by omega)
              by_cases hc2 : e < hi
              · as_aux_lemma =>
                  have hd2 : decide ((e : Int) < (hi : Int)) = true := decide_eq_true (by omega)
                  have hR := MergeDone.at HIH (lo := mid) (m := e) (hi := hi) (by omega) HO2.out (by rw [HLV.out]; exact HHN.out.1) hc1 hc2 (by have := HHN.out.2; rw [HLV.out]; omega) (HC.out.grown HG2.out) ((HT.out.perm HTU.out.rp.perm).perm HR2.out.1.perm) HSV.out (HTU.out.r1.keep HR2.out.1 (.inr (Nat.le_refl _))) (HTU.out.r2.keep HR2.out.1 (.inr (by omega)))
                  rw [HLV.out] at hR
                  have HR := Lib.hid hR
                  clear hR
                  go_wp2_with fail
                  refine HR.out.mono ?_
                  rintro en w1 ⟨rfl, zs, ho3, hg3, hr3, ha3⟩
                  have HX := Lib.hid (merged HTU.out (by omega) (by omega) HR2.out.1 HR2.out.2 hr3 ha3)
                  have HO3 := Lib.hid ho3
                  have HG3 := Lib.hid (grown_trans HG2.out hg3)
                  clear ho3 hg3 hr3 ha3
                  go_wp2
                  go_end0
                  exact ⟨rfl, zs, HO3.out, HG3.out, HX.out.1, HX.out.2⟩
              · as_aux_lemma =>
                  have hd2 : decide ((e : Int) < (hi : Int)) = false := decide_eq_false (by omega)
                  have HX := Lib.hid (merged HTU.out (by omega) (by omega) HR2.out.1 HR2.out.2 (RP.refl mid hi vs) (by
                    have : e = hi := by omega
                    subst this
                    exact HTU.out.r1.keep HR2.out.1 (.inr (Nat.le_refl _))))
                  go_wp2
                  go_end0
                  exact ⟨rfl, vs, HO2.out, HG2.out, HX.out.1, HX.out.2⟩
            · as_aux_lemma =>
                have hd1 : decide ((mid : Int) < (e : Int)) = false := decide_eq_false (by omega)
                have HX := Lib.hid (merged HTU.out (by omega) (by omega) HR2.out.1 HR2.out.2 (RP.refl mid hi vs) (by
                  have : mid = e := by omega
                  subst this
                  exact HTU.out.r2.keep HR2.out.1 (.inr (Nat.le_refl _))))
                go_wp2
                go_end0
                exact ⟨rfl, vs, HO2.out, HG2.out, HX.out.1, HX.out.2⟩

theorem mergeDone {val K : Int → Int} {cf : Int → Int → Int} {T : Int → Prop} {F : Nat} {caps : Array Value} (hK : Mono K) : ∀ n, MergeDone val K cf T F caps n := by
  intro n
  induction n with
  | zero => intro w base a c ts lo m hi h0 _ _ h1 h2; omega
  | succ n ih =>
    intro w base a c ts lo m hi h0 ho hn h1 h2 hh hc hT hS hA hB
    by_cases e1 : m = lo + 1
    · subst e1
      exact symm1_own ho hn h2 hh hc hT hK hS hB
    · by_cases e2 : hi = m + 1
      · subst e2
        exact symm2_own ho hn (by omega) hh hc hT hK hS hA
      · refine symm3_own hK ?_ ho hn (by omega) (by omega) hh hc hT hS hA hB
        intro w' base' a' c' ts' lo' m' hi' h0' 
        exact ih (by omega)

end Go.Proofs.YtncbkbfkdgggkaaDoor
