/- OrderByHash in the reference's text: the places in the order of their hashes. -/
import Derived.Test.YtihbckoldblpcaaOrdS
namespace Go.Proofs.Ytihbckoldblpcaa
open Go.RowKit

/-- The key of a place. -/
def keyH (xs : List Int) (s : Int) (i : Int) : Int := hashZ (at0 xs i.toNat) s
theorem ordT_tag {xs : List Int} {s : Int} {n : Nat} (hn : n ≤ xs.length) (hm : xs.length ≤ 1048576) {t : Int} (ht : t ∈ ordT (keyH xs s) n) :
    0 ≤ t % tagM ∧ (t % tagM).toNat < n ∧ at0 (rowL xs s) (t % tagM).toNat = t / tagM := by
  obtain ⟨i, hi, rfl⟩ := ordT_mem ht
  rw [tag_mod _ (by omega), tag_div _ (by omega)]
  refine ⟨by omega, by simpa using hi, ?_⟩
  rw [rowL_at (by simp; omega)]
  rfl

theorem ascR_app {zs : List Int} {n : Nat} (h : ascR zs 0 n) (hn : zs.length = n) (x : Int) : ascR (zs ++ [x]) 0 n := by
  intro p q h1 h2 h3
  rw [at0_app_l (by omega), at0_app_l (by omega)]
  exact h p q h1 h2 h3
theorem stab_app {h : Int → Int} {zs : List Int} {n : Nat} (hS : Stab (tagK tagM) zs) (hp : zs.Perm (ordT h n)) (hn : n ≤ 1048575) : Stab (tagK tagM) (zs ++ [tag (h n) n]) := by
  have hl : zs.length = n := by rw [hp.length_eq, ordT_len]
  intro p q hpq hq hlt
  simp only [List.length_append, List.length_singleton] at hq
  by_cases hq2 : q < n
  · rw [at0_app_l (by omega), at0_app_l (by omega)] at hlt ⊢
    exact hS p q hpq (by omega) hlt
  · have hqn : q = n := by omega
    subst hqn
    have e : at0 (zs ++ [tag (h q) q]) q = tag (h q) q := by rw [at0_app_r (by omega), hl, Nat.sub_self]; rfl
    rw [e] at hlt ⊢
    rw [at0_app_l (by omega)] at hlt ⊢
    have hm : at0 zs p ∈ ordT h q := hp.subset (by unfold at0; rw [List.getElem?_eq_getElem (by omega)]; exact List.getElem_mem (by omega))
    obtain ⟨i, hi, he⟩ := ordT_mem hm
    rw [he] at hlt ⊢
    unfold tagK
    rw [tag_div _ (by omega), tag_div _ (by omega)]
    unfold tag tagM at hlt
    omega

set_option maxRecDepth 8000 in
set_option maxHeartbeats 300000 in
theorem specOrd_any {a : Option Addr} {c : Nat} {xs : List Int} {s : Int} {w : World} (hr : Rd (Value.int .i64) w a c xs) (hn : xs.length ≤ 256) (hk : keysB xs = true) (hs : isKey s = true) :
    Calls Try.prog 92 #[.slice a xs.length c, .int .i64 s] w (RetSB (Value.int .i64) 2 w (ordL (keyH xs s) xs.length) true) := by
  obtain ⟨n, hnn⟩ : ∃ n, xs.length = n := ⟨_, rfl⟩
  have h256 : (decide (xs.length ≤ 256) && keysB xs) = true := by rw [hk]; simpa using hn
  have HN := Lib.hid hnn
  obtain ⟨h, hh⟩ : ∃ h, keyH xs s = h := ⟨_, rfl⟩
  obtain ⟨rs, hrs⟩ : ∃ rs, rowL xs s = rs := ⟨_, rfl⟩
  have HT : Hid (∀ k, k ≤ n → ∀ t ∈ ordT h k, 0 ≤ t % tagM ∧ (t % tagM).toNat < k ∧ at0 rs (t % tagM).toNat = t / tagM) := Lib.hid (fun k hk t ht => by
    rw [← hh] at ht
    rw [← hrs]
    exact ordT_tag (by omega) (by omega) ht)
  have HRL : Hid (rs.length = n) := Lib.hid (by rw [← hrs, rowL_len, hnn])
  have HRS := Lib.hid hrs
  rw [hh, hnn]
  have hkb := isKey_bd hs
  have HSB := Lib.hid hkb
  have HK := Lib.hid hk
  have HR := Lib.hid hr
  rw [hnn] at hn h256
  clear hkb hh hrs hnn
  go_enter Try.func92, Try.ntmps92
  go_wp2_with fail
  have HC1 := l02Keys_any hr
  rw [HN.out, h256] at HC1
  refine HC1.mono ?_
  rintro e w1 ⟨rfl, hb1⟩
  have HB1 := Lib.hid hb1
  clear hb1 hr HC1
  go_wp2_with fail
  refine (l02Key_any).mono ?_
  rintro e w1' ⟨rfl, rfl⟩
  rw [hs]
  go_wp2_with fail
  have HC2 := l02Row_any (HR.out.below HB1.out (Nat.le_refl _)) (by rw [HN.out]; omega) HK.out HSB.out
  rw [HN.out, HRS.out] at HC2
  refine HC2.mono ?_
  rintro e w2 ⟨a2, c2, rfl, ho2, hb2⟩
  have HROW := Lib.hid ho2.rd
  have HB2 := Lib.hid (HB1.out.trans (hb2.mono HB1.out.size))
  have hrl := HRL.out
  rw [hrl]
  clear ho2 hb2 hrl HC2 h256 hk hs HRS HK
  have HE := Lib.hid (own_empty (f := Value.int .i64) (e := 2) (α := Int) w2 (by_ := 0) w2.heap.size (Nat.le_refl _) rfl)
  have HB3 := Lib.hid ((Below.refl w2.heap.size w2).alloc (Nat.le_refl _) (.cells #[] 2))
  go_wp2_with fail
  go_loopw [7, 8, 9, 10] (fun o i _ _ wr => ∃ (k : Nat) (b : Option Addr) (cc : Nat) (zs : List Int), k ≤ n ∧ i = .int .i64 k ∧ o = .slice b k cc ∧ Hid (zs.length = k) ∧ Hid (zs.Perm (ordT h k)) ∧ Hid (Stab (tagK tagM) zs) ∧ Hid (ascR zs 0 k) ∧ Hid (Own (vI (· % tagM)) 2 wr w2.heap.size b cc zs) ∧ Hid (Below w2.heap.size w2 wr)) (fun _ i _ _ _ => n - (intOf i).toNat)
  case atStart => exact ⟨0, _, _, [], Nat.zero_le _, rfl, rfl, Lib.hid rfl, Lib.hid (List.Perm.refl _), Lib.hid (fun p q h1 h2 => by simp at h2), Lib.hid (ascR_nil _ (by omega)), Lib.hid (own_as HE.out rfl rfl), HB3⟩
  case round =>
    obtain ⟨k, b, cc, zs, hk, rfl, rfl, HL, HP, HS, HA, HO, HB⟩ := hrel
    by_cases hlt : k < n
    · have hltz : (k : Int) < (n : Int) := by omega
      have ewk : IntKind.i64.wrap ((k : Int) + 1) = (k : Int) + 1 := IntWalk.i64_in _ (by omega)
      have hzw := HB.out.size
      -- the list's numbers
      have hov : Own (Value.int .i64) 2 wr w2.heap.size b cc (zs.map (· % tagM)) := own_as HO.out (by simp) (by rw [List.map_map]; rfl)
      have hvl : (zs.map (· % tagM)).length = k := by rw [List.length_map]; exact HL.out
      have hvt : (zs ++ [tag (h k) k]).map (vI (· % tagM)) = (zs.map (· % tagM) ++ [(k : Int)]).map (Value.int .i64) := by
        rw [List.map_append, List.map_append, List.map_map]
        congr 1
        show [Value.int .i64 (tag (h k) k % tagM)] = _
        rw [tag_mod _ (by omega)]
        rfl
      have HVT := Lib.hid hvt
      obtain ⟨vs, hvs⟩ : ∃ vs, zs.map (· % tagM) = vs := ⟨_, rfl⟩
      rw [hvs] at hov hvl HVT
      have HOV := Lib.hid hov
      have HA2 := Lib.hid (insR_start (ascR_app HA.out HL.out (tag (h k) k)))
      have HS2 := Lib.hid (stab_app HS.out HP.out (by omega))
      have HP2 : Hid ((zs ++ [tag (h k) k]).Perm (ordT h (k + 1))) := Lib.hid (by rw [ordT_succ]; exact List.Perm.append_right _ HP.out)
      have HL2 : Hid ((zs ++ [tag (h k) k]).length = k + 1) := Lib.hid (by simp [HL.out])
      obtain ⟨ys, hys⟩ : ∃ ys, zs ++ [tag (h k) k] = ys := ⟨_, rfl⟩
      rw [hys] at HA2 HS2 HP2 HL2 HVT
      clear hov hvs hvt hys HL HP HS HA HO
      obtain ⟨wi, rfl⟩ : ∃ wi : World, wi = wr := ⟨_, rfl⟩
      subst hvl
      go_wp2_with (at_builtin; refine wpl_append1 (f := Value.int .i64) (d := 0) (base := w2.heap.size) und_ise info_i (fun _ => rfl) (vs.length : Int) HOV.out rfl _ _ rfl rfl rfl (by omega) (by omega) hzw ?_; intro a4 c4 w4 ho4 hg4)
      have HO4 : Hid (Own (vI (· % tagM)) 2 w4 w2.heap.size a4 c4 ys) := Lib.hid (own_as ho4 (by rw [HL2.out]; simp) HVT.out)
      have HB4 := Lib.hid (HB.out.trans (grown_belowOwn HOV.out hg4 (Nat.le_refl _) hzw))
      clear ho4 hg4 HOV HB HVT hzw
      have HLT := Lib.hid hlt
      clear hlt hltz hk
      go_loopw [9, 10] (fun vj _ wr => ∃ (j : Nat) (zs : List Int), vj = .int .i64 j ∧ j ≤ vs.length ∧ Hid (zs.length = vs.length + 1) ∧ Hid (zs.Perm (ordT h (vs.length + 1))) ∧ Hid (Stab (tagK tagM) zs) ∧ Hid (InsR zs 0 j vs.length) ∧ Hid (Own (vI (· % tagM)) 2 wr w2.heap.size a4 c4 zs) ∧ Hid (Below w2.heap.size w2 wr)) (fun vj _ _ => (intOf vj).toNat)
      case atStart => exact ⟨vs.length, ys, rfl, Nat.le_refl _, HL2, HP2, HS2, HA2, HO4, HB4⟩
      case round =>
        clear HL2 HP2 HS2 HA2 HO4 HB4
        obtain ⟨j, zs, rfl, hj, HLZ, HPZ, HSZ, HI, HO, HB⟩ := hrel
        obtain ⟨wk, rfl⟩ : ∃ wi : World, wi = wr := ⟨_, rfl⟩
        by_cases hj0 : j = 0
        · have hd : decide ((j : Int) > 0) = false := decide_eq_false (by omega)
          have hdi : decide ((0 : Int) < (j : Int)) = false := decide_eq_false (by omega)
          have hdn : decide (0 < j) = false := decide_eq_false (by omega)
          have HE2 := Lib.hid (insR_end hj HI.out (.inl hj0))
          clear hj0
          go_wp2_with fail
          go_quiet (fail)
          have HOW := Lib.hid (HO.out.drewN nq)
          have HBW := Lib.hid (HB.out.trans (below_of_drewN wk nq _))
          clear HO HB
          generalize wk.drewN nq = wz at HOW HBW ⊢
          go_wp2
          go_roundw
          case rel => exact ⟨vs.length + 1, a4, c4, zs, by have := HLT.out; omega, by go_num, rfl, HLZ, HPZ, HSZ, HE2, HOW, HBW⟩
          case measure => simp [intOf]; have := HLT.out; omega
        · obtain ⟨jp, rfl⟩ : ∃ jp, j = jp + 1 := ⟨j - 1, by omega⟩
          have hd : decide (((jp + 1 : Nat) : Int) > 0) = true := decide_eq_true (by omega)
          have hdi : decide ((0 : Int) < (jp : Int) + 1) = true := decide_eq_true (by omega)
          have hz1 : jp + 1 < zs.length := by rw [HLZ.out]; omega
          have hixk := ownI_idx HO.out und_is siz_is (jp + 1) hz1 ((jp : Int) + 1) (by omega)
          have hixp := ownI_idx HO.out und_is siz_is jp (by omega) (jp : Int) rfl
          rw [HLZ.out] at hixk hixp
          obtain ⟨x, hx⟩ : ∃ x, at0 zs (jp + 1) = x := ⟨_, rfl⟩
          obtain ⟨y, hy⟩ : ∃ x, at0 zs jp = x := ⟨_, rfl⟩
          have hck := ownI_cell HO.out hz1 hx
          have hcp := ownI_cell HO.out (by omega) hy
          have hrw := HROW.out.below HB.out (Nat.le_refl _)
          have hx3 := HT.out (vs.length + 1) (by have := HLT.out; omega) x (by rw [← hx]; exact HPZ.out.subset (by unfold at0; rw [List.getElem?_eq_getElem hz1]; exact List.getElem_mem hz1))
          have hy3 := HT.out (vs.length + 1) (by have := HLT.out; omega) y (by rw [← hy]; exact HPZ.out.subset (by unfold at0; rw [List.getElem?_eq_getElem (by omega)]; exact List.getElem_mem (by omega)))
          have hixx := rd_idxAt hrw und_is siz_is (x % tagM).toNat (by rw [HRL.out]; have := HLT.out; omega) (x % tagM) (by omega)
          have hixy := rd_idxAt hrw und_is siz_is (y % tagM).toNat (by rw [HRL.out]; have := HLT.out; omega) (y % tagM) (by omega)
          have hcx := at0_cell hrw (by rw [HRL.out]; have := HLT.out; omega) hx3.2.2
          have hcy := at0_cell hrw (by rw [HRL.out]; have := HLT.out; omega) hy3.2.2
          rw [HRL.out] at hixx hixy
          have hst := Stab.cmp (tagK_mono tagM_pos) HSZ.out (p := jp) (q := jp + 1) (by omega) hz1
          rw [hx, hy] at hst
          have ew : IntKind.i64.wrap (jp : Int) = (jp : Int) := IntWalk.i64_in _ (by have := HLT.out; omega)
          have HXY := Lib.hid (And.intro hx hy)
          unfold tagK at hst
          obtain ⟨hxv, hhx⟩ : ∃ v, x / tagM = v := ⟨_, rfl⟩
          obtain ⟨hyv, hhy⟩ : ∃ v, y / tagM = v := ⟨_, rfl⟩
          rw [hhx] at hst hcx
          rw [hhy] at hst hcy
          obtain ⟨xm, hxm⟩ : ∃ v, x % tagM = v := ⟨_, rfl⟩
          obtain ⟨ym, hym⟩ : ∃ v, y % tagM = v := ⟨_, rfl⟩
          have HXM := Lib.hid (And.intro hxm hym)
          simp only [hxm, hym] at hixx hixy hcx hcy hck hcp
          clear hx3 hy3 hrw hhx hhy hxm hym
          by_cases hxy : x < y
          · have hneg : decide (hxv < hyv) = true := by rw [hst]; exact decide_eq_true hxy
            have hI2 := Lib.hid (insR_step (a := 0) (k := jp + 1) (by omega) hj (by rw [HLZ.out]; omega) HI.out (by rw [Nat.add_sub_cancel, hx, hy]; exact hxy))
            have hS2 := Lib.hid (HSZ.out.swp (k := jp + 1) (by omega) hz1 (by rw [Nat.add_sub_cancel, hx, hy]; exact hxy))
            have hP2 := Lib.hid ((swp_perm (k := jp + 1) (by omega) hz1).trans HPZ.out)
            have hL2 : Hid ((swp zs (jp + 1)).length = vs.length + 1) := Lib.hid (by rw [swp_len]; exact HLZ.out)
            clear hxy hst hx hy
            go_wp2_with fail
            go_quiet (fail)
            have HOW := HO.out.drewN nq
            have HBW := HB.out.trans (below_of_drewN wk nq w2.heap.size)
            clear HO HB hck hcp hcx hcy
            generalize wk.drewN nq = wz at HOW HBW ⊢
            have hck := ownI_cell HOW hz1 HXY.out.1
            have hcp := ownI_cell HOW (by omega) HXY.out.2
            have hs1 : Own (vI (· % tagM)) 2 (wz.setCell (elt a4 (jp + 1)) (.int .i64 (y % tagM))) w2.heap.size a4 c4 (zs.set (jp + 1) y) ∧ wz.grownBy (wz.setCell (elt a4 (jp + 1)) (.int .i64 (y % tagM))) (a4.map (·.block)) := HOW.set (jp + 1) hz1 y
            have hs2 : Own (vI (· % tagM)) 2 ((wz.setCell (elt a4 (jp + 1)) (.int .i64 (y % tagM))).setCell (elt a4 jp) (.int .i64 (x % tagM))) w2.heap.size a4 c4 ((zs.set (jp + 1) y).set jp x) ∧ (wz.setCell (elt a4 (jp + 1)) (.int .i64 (y % tagM))).grownBy ((wz.setCell (elt a4 (jp + 1)) (.int .i64 (y % tagM))).setCell (elt a4 jp) (.int .i64 (x % tagM))) (a4.map (·.block)) := hs1.1.set jp (by simp; omega) x
            have hfk := HOW.free (jp + 1) hz1
            obtain ⟨v2, hcp2⟩ : ∃ v, (wz.setCell (elt a4 (jp + 1)) (.int .i64 (y % tagM))).cell? (elt a4 jp) = some v := ⟨_, hs1.1.cell jp (by simp; omega)⟩
            have hfp2 := HOW.free jp (by omega)
            have HSW : Hid (Own (vI (· % tagM)) 2 ((wz.setCell (elt a4 (jp + 1)) (.int .i64 (y % tagM))).setCell (elt a4 jp) (.int .i64 (x % tagM))) w2.heap.size a4 c4 (swp zs (jp + 1))) := Lib.hid (hs2.1.cast (swp_def HXY.out.1 HXY.out.2))
            have HBW2 := Lib.hid ((HBW.trans (grown_belowOwn HOW hs1.2 (Nat.le_refl _) HBW.size)).trans (grown_belowOwn hs1.1 hs2.2 (Nat.le_refl _) (Nat.le_trans HBW.size hs1.2.size)))
            rw [HXM.out.1] at hck HSW HBW2
            rw [HXM.out.2] at hcp hcp2 HSW HBW2
            clear hs1 hs2 HOW HBW
            go_wp2
            go_roundw
            case rel => exact ⟨jp, swp zs (jp + 1), by first | rfl | go_num | (congr 1; omega), by omega, hL2, hP2, hS2, hI2, HSW, HBW2⟩
            case measure => simp [intOf]
          · have hneg : decide (hxv < hyv) = false := by rw [hst]; exact decide_eq_false hxy
            have HE2 := Lib.hid (insR_end hj HI.out (.inr (by rw [Nat.add_sub_cancel, hx, hy]; omega)))
            clear hxy hst hx hy
            go_wp2_with fail
            go_quiet (fail)
            have HOW := Lib.hid (HO.out.drewN nq)
            have HBW := Lib.hid (HB.out.trans (below_of_drewN wk nq _))
            clear HO HB hck hcp hcx hcy
            generalize wk.drewN nq = wz at HOW HBW ⊢
            go_wp2
            go_roundw
            case rel => exact ⟨vs.length + 1, a4, c4, zs, by have := HLT.out; omega, by go_num, rfl, HLZ, HPZ, HSZ, HE2, HOW, HBW⟩
            case measure => simp [intOf]; have := HLT.out; omega
    · have hltz : ¬ (k : Int) < (n : Int) := by omega
      obtain rfl : k = n := by omega
      have hzs : zs = srt (ordT h k) := srt_of HP.out (pw_of_at0 (fun p q h1 h2 => HA.out p q (Nat.zero_le _) h1 (by have := HL.out; omega)))
      have HO5 : Hid (Own (Value.int .i64) 2 wr w2.heap.size b cc (ordL h k)) := Lib.hid (own_as HO.out (by rw [ordL_len, HL.out]) (by rw [hzs]; unfold ordL; rw [List.map_map]; rfl))
      have hol := ordL_len h k
      have HOL := Lib.hid hol
      have HBF := Lib.hid (HB2.out.trans (HB.out.mono HB2.out.size))
      have HO6 := Lib.hid (HO5.out.mono HB2.out.size)
      clear hzs hol HO HA HP HS HO5 HB
      go_wp2
      go_ret2
      exact ⟨b, cc, by rw [HOL.out]; rfl, HO6.out, HBF.out⟩

end Go.Proofs.Ytihbckoldblpcaa
