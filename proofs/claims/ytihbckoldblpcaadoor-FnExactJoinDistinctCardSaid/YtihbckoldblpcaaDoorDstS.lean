/- DistinctSample in the reference's text. -/
import Derived.Test.YtihbckoldblpcaaDoorDstI
namespace Go.Proofs.YtihbckoldblpcaaDoor
open Go.RowKit

theorem insU_at {us : List Int} {x : Int} {t : Nat} (hu : Up us) (h1 : ∀ j, j < t → at0 us j < x) (h2 : ∀ j, t ≤ j → j < us.length → x < at0 us j) : insU us x = us.take t ++ x :: us.drop t := by
  have hl : ∀ y ∈ us.take t, y < x := by
    intro y hy
    obtain ⟨j, hj, rfl⟩ := List.mem_take_iff_getElem.1 hy
    have := h1 j (by omega)
    simpa [at0, show j < us.length by omega] using this
  have hg : ∀ y ∈ us.drop t, x < y := by
    intro y hy
    obtain ⟨j, hj, rfl⟩ := List.mem_drop_iff_getElem.1 hy
    have := h2 (t + j) (by omega) (by omega)
    simpa [at0, show t + j < us.length by omega] using this
  have e1 : us.filter (fun y => decide (y < x)) = us.take t := by
    conv => lhs; rw [← List.take_append_drop t us]
    rw [List.filter_append, List.filter_eq_self.2 (fun y hy => by simpa using hl y hy), List.filter_eq_nil_iff.2 (fun y hy => by have := hg y hy; simp; omega), List.append_nil]
  have e2 : us.filter (fun y => decide (x < y)) = us.drop t := by
    conv => lhs; rw [← List.take_append_drop t us]
    rw [List.filter_append, List.filter_eq_nil_iff.2 (fun y hy => by have := hl y hy; simp; omega), List.filter_eq_self.2 (fun y hy => by simpa using hg y hy), List.nil_append]
  unfold insU
  rw [e1, e2]
theorem insU_at_len {us : List Int} {x : Int} {t : Nat} (hu : Up us) (h1 : ∀ j, j < t → at0 us j < x) (h2 : ∀ j, t ≤ j → j < us.length → x < at0 us j) : (insU us x).length = us.length + 1 := by
  rw [insU_at hu h1 h2]
  simp
  omega
/-- While a place is made: all from k on stand one further. -/
def shf (us : List Int) (k : Nat) : List Int := (us ++ [0]).take (k + 1) ++ us.drop k
theorem shf_start (us : List Int) : shf us us.length = us ++ [0] := by
  unfold shf
  rw [List.drop_length, List.append_nil, List.take_of_length_le (by simp)]
theorem shf_len {us : List Int} {k : Nat} (h : k ≤ us.length) : (shf us k).length = us.length + 1 := by
  unfold shf
  simp
  omega
theorem shf_at {us : List Int} {k p : Nat} (h : p < k) (hk : k ≤ us.length) : at0 (shf us k) p = at0 us p := by
  unfold shf at0
  rw [List.getElem?_append_left (by simp; omega), List.getElem?_take, if_pos (by omega), List.getElem?_append_left (by omega)]
theorem shf_step {us : List Int} {kp : Nat} (h : kp + 1 ≤ us.length) : (shf us (kp + 1)).set (kp + 1) (at0 us kp) = shf us kp := by
  unfold shf
  rw [List.set_append_left _ _ (by simp; omega)]
  have e1 : ((us ++ [0]).take (kp + 1 + 1)).set (kp + 1) (at0 us kp) = (us ++ [0]).take (kp + 1) ++ [at0 us kp] := by
    have hl : kp + 1 < (us ++ [0]).length := by simp; omega
    rw [List.take_add_one, List.getElem?_eq_getElem hl, List.set_append_right _ _ (by simp; omega)]
    have : kp + 1 - ((us ++ [0]).take (kp + 1)).length = 0 := by simp; omega
    rw [this]
    rfl
  have e2 : us.drop kp = at0 us kp :: us.drop (kp + 1) := by
    rw [List.drop_eq_getElem_cons (by omega)]
    congr 1
    simp [at0, show kp < us.length by omega]
  rw [e1, e2, List.append_assoc]
  rfl
theorem shf_end {us : List Int} {t : Nat} {x : Int} (h : t ≤ us.length) : (shf us t).set t x = us.take t ++ x :: us.drop t := by
  unfold shf
  rw [List.set_append_left _ _ (by simp; omega)]
  have hl : t < (us ++ [0]).length := by simp; omega
  have e1 : ((us ++ [0]).take (t + 1)).set t x = us.take t ++ [x] := by
    rw [List.take_add_one, List.getElem?_eq_getElem hl, List.set_append_right _ _ (by simp; omega)]
    have : t - ((us ++ [0]).take t).length = 0 := by simp; omega
    rw [this, List.take_append_of_le_length h]
    rfl
  rw [e1, List.append_assoc]
  rfl
theorem at0_cell2 {w : World} {a : Option Addr} {c : Nat} {ys : List Int} (h : Rd (Value.int .i64) w a c ys) {p : Nat} (hp : p < ys.length) {x : Int} (hx : at0 ys p = x) : w.cell? (elt a p) = some (.int .i64 x) := by
  rw [h.cell p hp, ← hx]; rfl

set_option maxRecDepth 8000 in
set_option maxHeartbeats 4000000 in
theorem l04Least_any {a : Option Addr} {c : Nat} {xs : List Int} {w : World} (hr : Rd (Value.int .i64) w a c xs) (hn : xs.length ≤ 256) :
    Calls Tryd.prog 41 #[.slice a xs.length c, .int .i64 256] w (RetS (Value.int .i64) 2 w (uniq xs)) := by
  have HE := Lib.hid (own_empty (f := Value.int .i64) (e := 2) (α := Int) w (by_ := 0) w.heap.size (Nat.le_refl _) rfl)
  have HB1 := Lib.hid ((Below.refl w.heap.size w).alloc (Nat.le_refl _) (.cells #[] 2))
  have HR := Lib.hid hr
  obtain ⟨n, hnn⟩ : ∃ n, xs.length = n := ⟨_, rfl⟩
  have HN := Lib.hid hnn
  rw [hnn] at hn ⊢
  clear hr hnn
  go_enter Tryd.func41, Tryd.ntmps41
  go_wp2_with fail
  go_loopw [5, 6, 7, 8] (fun o vi _ _ wr => ∃ (i : Nat) (b : Option Addr) (cc : Nat) (us : List Int), vi = .int .i64 i ∧ i ≤ n ∧ o = .slice b us.length cc ∧ Hid (uniq (xs.take i) = us) ∧ Own (Value.int .i64) 2 wr w.heap.size b cc us ∧ Below w.heap.size w wr) (fun _ vi _ _ _ => n - (intOf vi).toNat)
  case atStart => exact ⟨0, _, _, [], rfl, Nat.zero_le _, rfl, Lib.hid rfl, HE.out, HB1.out⟩
  case round =>
    clear HE HB1
    obtain ⟨i, b, cc, us, rfl, hi, rfl, HUS0, ho, hb⟩ := hrel
    have HO := Lib.hid ho
    have HB := Lib.hid hb
    obtain ⟨wi, hwi⟩ : ∃ wi : World, wi = wr := ⟨_, rfl⟩
    rw [← hwi]
    rw [← hwi] at HO HB
    clear ho hb hwi
    have hul : us.length ≤ 256 := by rw [← HUS0.out]; have := uniq_len (xs.take i); rw [List.length_take] at this; omega
    have HUP : Hid (Up us) := Lib.hid (by rw [← HUS0.out]; exact uniq_up _)
    by_cases hlt : i < n
    · have hltz : (i : Int) < (n : Int) := by omega
      obtain ⟨x, hx⟩ : ∃ x, at0 xs i = x := ⟨_, rfl⟩
      have HX := Lib.hid hx
      have hul2 : us.length < 256 := by rw [← HUS0.out]; have := uniq_len (xs.take i); rw [List.length_take] at this; omega
      have hixx := rd_idxAt HR.out und_is siz_is i (by rw [HN.out]; exact hlt) (i : Int) rfl
      rw [HN.out] at hixx
      have HUS : Hid (uniq (xs.take (i + 1)) = insU us x) := Lib.hid (by
        have hil : i < xs.length := by rw [HN.out]; exact hlt
        rw [List.take_add_one, List.getElem?_eq_getElem hil]
        show uniq (xs.take i ++ [xs[i]]) = _
        rw [uniq_snoc, HUS0.out, ← hx]
        simp [at0, hil])
      have ewi : IntKind.i64.wrap ((i : Int) + 1) = (i : Int) + 1 := IntWalk.i64_in _ (by omega)
      clear hx
      go_wp2_with fail
      go_loopw [7] (fun va wr2 => ∃ t : Nat, va = .int .i64 t ∧ t ≤ us.length ∧ Hid (∀ j, j < t → at0 us j < x) ∧ Own (Value.int .i64) 2 wr2 w.heap.size b cc us ∧ Below w.heap.size w wr2) (fun va _ => us.length - (intOf va).toNat)
      case atStart => exact ⟨0, rfl, Nat.zero_le _, Lib.hid (fun j hj => by omega), HO.out, HB.out⟩
      case round =>
        clear HO HB
        obtain ⟨t, rfl, ht, HAL, ho, hb⟩ := hrel
        have HO := Lib.hid ho
        have HB := Lib.hid hb
        obtain ⟨wj, hwj⟩ : ∃ wi : World, wi = wr := ⟨_, rfl⟩
        rw [← hwj]
        rw [← hwj] at HO HB
        clear ho hb hwj
        have hcx := at0_cell2 (HR.out.below HB.out (Nat.le_refl _)) (by rw [HN.out]; exact hlt) HX.out
        by_cases htl : t < us.length
        · have htz : decide ((t : Int) < (us.length : Int)) = true := decide_eq_true (by omega)
          have htn : decide (t < us.length) = true := decide_eq_true htl
          obtain ⟨y, hy⟩ : ∃ y, at0 us t = y := ⟨_, rfl⟩
          have hcy := at0_cell2 HO.out.rd htl hy
          have hixt := rd_idxAt HO.out.rd und_is siz_is t htl (t : Int) rfl
          have HY := Lib.hid hy
          clear hy
          by_cases hyx : y < x
          · have hd : decide (y < x) = true := decide_eq_true hyx
            have HAL2 : Hid (∀ j, j < t + 1 → at0 us j < x) := Lib.hid (fun j hj => by
              by_cases h : j = t
              · rw [h, HY.out]; exact hyx
              · exact HAL.out j (by omega))
            have ewt : IntKind.i64.wrap ((t : Int) + 1) = (t : Int) + 1 := IntWalk.i64_in _ (by omega)
            clear hyx
            go_wp2_with fail
            go_quiet (fail)
            have HOW := Lib.hid (HO.out.drewN nq)
            have HBW := Lib.hid (HB.out.trans (below_of_drewN wj nq _))
            clear HO HB hcx hcy
            generalize wj.drewN nq = wz at HOW HBW ⊢
            go_wp2
            go_roundw
            case rel => exact ⟨t + 1, by go_num, by omega, HAL2, HOW.out, HBW.out⟩
            case measure => simp [intOf]; omega
          · have hd : decide (y < x) = false := decide_eq_false hyx
            by_cases hyx2 : y = x
            · have hd2 : (y == x) = true := by simpa using hyx2
              have HSK : Hid (uniq (xs.take (i + 1)) = us) := Lib.hid (by
                rw [HUS.out]
                refine insU_skip HUP.out ?_
                rw [← hyx2, ← HY.out]
                unfold at0
                rw [List.getElem?_eq_getElem htl]
                exact List.getElem_mem htl)
              clear hyx hyx2
              go_wp2_with fail
              go_quiet (fail)
              have HOW := Lib.hid (HO.out.drewN nq)
              have HBW := Lib.hid (HB.out.trans (below_of_drewN wj nq _))
              clear HO HB hcx hcy
              generalize wj.drewN nq = wz at HOW HBW ⊢
              have hcx := at0_cell2 (HR.out.below HBW.out (Nat.le_refl _)) (by rw [HN.out]; exact hlt) HX.out
              have hcy := at0_cell2 HOW.out.rd htl HY.out
              go_wp2_with fail
              go_quiet (fail)
              have HOV := Lib.hid (HOW.out.drewN nq)
              have HBV := Lib.hid (HBW.out.trans (below_of_drewN wz nq _))
              clear HOW HBW hcx hcy
              generalize wz.drewN nq = wy at HOV HBV ⊢
              go_wp2
              go_roundw
              case rel => exact ⟨i + 1, b, cc, us, by go_num, by omega, rfl, HSK, HOV.out, HBV.out⟩
              case measure => simp [intOf]; omega
            · have hd2 : (y == x) = false := by simpa using hyx2
              have HGT : Hid (∀ j, t ≤ j → j < us.length → x < at0 us j) := Lib.hid (fun j h1 h2 => by
                have hp := List.pairwise_iff_getElem.1 HUP.out
                have e1 : at0 us t = us[t] := by simp [at0, htl]
                have e2 : at0 us j = us[j] := by simp [at0, h2]
                have hY := HY.out
                by_cases h : j = t
                · subst h; omega
                · have := hp t j htl h2 (by omega)
                  omega)
              clear hyx hyx2
              go_wp2_with fail
              go_quiet (fail)
              have HOW := Lib.hid (HO.out.drewN nq)
              have HBW := Lib.hid (HB.out.trans (below_of_drewN wj nq _))
              clear HO HB hcx hcy
              generalize wj.drewN nq = wz at HOW HBW ⊢
              have hcx := at0_cell2 (HR.out.below HBW.out (Nat.le_refl _)) (by rw [HN.out]; exact hlt) HX.out
              have hcy := at0_cell2 HOW.out.rd htl HY.out
              go_wp2_with fail
              go_quiet (fail)
              have HOQ := Lib.hid (HOW.out.drewN nq)
              have HBQ := Lib.hid (HBW.out.trans (below_of_drewN wz nq _))
              clear HOW HBW hcx hcy
              generalize wz.drewN nq = wq at HOQ HBQ ⊢
              have HZW := Lib.hid (HBQ.out.size)
              have hzw := HBQ.out.size
              have hvl := insU_at_len (x := x) HUP.out HAL.out HGT.out
              have hve := insU_at (x := x) HUP.out HAL.out HGT.out
              have HV := Lib.hid (And.intro hvl hve)
              clear hvl hve
              go_wp2_with (at_builtin; refine wpl_append1 (f := Value.int .i64) (d := 0) (base := w.heap.size) und_ise info_i (fun _ => rfl) (0 : Int) HOQ.out rfl _ _ rfl rfl rfl (by omega) (by omega) hzw ?_; intro a4 c4 w4 ho4 hg4)
              have HO4 := Lib.hid (ho4.cast (shf_start us).symm)
              have HB4 := Lib.hid (HBQ.out.trans (grown_belowOwn HOQ.out hg4 (Nat.le_refl _) HZW.out))
              have ewl : IntKind.i64.wrap ((us.length : Int) + 1 - 1) = (us.length : Int) := by rw [IntWalk.i64_in _ (by omega)]; omega
              have ewl2 : IntKind.i64.wrap (us.length : Int) = (us.length : Int) := IntWalk.i64_in _ (by omega)
              clear ho4 hg4 HOQ HBQ HZW hzw
              go_wp2_with fail
              go_loopw [8] (fun vk wr2 => ∃ k : Nat, vk = .int .i64 k ∧ t ≤ k ∧ k ≤ us.length ∧ Own (Value.int .i64) 2 wr2 w.heap.size a4 c4 (shf us k) ∧ Below w.heap.size w wr2) (fun vk _ => (intOf vk).toNat)
              case atStart => exact ⟨us.length, rfl, ht, Nat.le_refl _, HO4.out, HB4.out⟩
              case round =>
                clear HO4 HB4
                obtain ⟨k, rfl, hk0, hk1, ho, hb⟩ := hrel
                have HOK := Lib.hid ho
                have HBK := Lib.hid hb
                obtain ⟨wk, hwk⟩ : ∃ wi : World, wi = wr := ⟨_, rfl⟩
                rw [← hwk]
                rw [← hwk] at HOK HBK
                clear ho hb hwk
                have hsl : (shf us k).length = us.length + 1 := shf_len hk1
                have hfk := HOK.out.free k (by rw [hsl]; omega)
                obtain ⟨v0, hck⟩ : ∃ v, wk.cell? (elt a4 k) = some v := ⟨_, HOK.out.cell k (by rw [hsl]; omega)⟩
                by_cases htk : t < k
                · obtain ⟨kp, rfl⟩ : ∃ kp, k = kp + 1 := ⟨k - 1, by omega⟩
                  have hd : decide ((t : Int) < (kp : Int) + 1) = true := decide_eq_true (by omega)
                  have hixk := rd_idxAt HOK.out.rd und_is siz_is (kp + 1) (by rw [hsl]; omega) ((kp : Int) + 1) (by omega)
                  rw [hsl] at hixk
                  have hixp := rd_idxAt HOK.out.rd und_is siz_is kp (by rw [hsl]; omega) (kp : Int) rfl
                  rw [hsl] at hixp
                  obtain ⟨y, hy⟩ : ∃ y, at0 us kp = y := ⟨_, rfl⟩
                  have hcp : wk.cell? (elt a4 kp) = some (.int .i64 y) := by rw [HOK.out.rd.cell kp (by rw [hsl]; omega), ← hy]; exact congrArg some (congrArg (Value.int .i64) (shf_at (by omega) hk1))
                  have ew : IntKind.i64.wrap (kp : Int) = (kp : Int) := IntWalk.i64_in _ (by omega)
                  have hst := HOK.out.set (kp + 1) (by rw [hsl]; omega) y
                  rw [← hy, shf_step hk1, hy] at hst
                  have HSE := Lib.hid hst.1
                  have HBE := Lib.hid (HBK.out.trans (grown_belowOwn HOK.out hst.2 (Nat.le_refl _) HBK.out.size))
                  clear hst hy hsl HOK HBK
                  go_wp2
                  go_roundw
                  case rel => exact ⟨kp, by first | rfl | go_num, by omega, by omega, HSE.out, HBE.out⟩
                  case measure => simp [intOf] <;> omega
                · obtain rfl : k = t := by omega
                  have hd : decide ((k : Int) < (k : Int)) = false := decide_eq_false (by omega)
                  have hixk := rd_idxAt HOK.out.rd und_is siz_is k (by rw [hsl]; omega) (k : Int) rfl
                  rw [hsl] at hixk
                  have hcx := at0_cell2 (HR.out.below HBK.out (Nat.le_refl _)) (by rw [HN.out]; exact hlt) HX.out
                  have hst := HOK.out.set k (by rw [hsl]; omega) x
                  rw [shf_end hk1, ← HV.out.2] at hst
                  have HSE := Lib.hid hst.1
                  have HBE := Lib.hid (HBK.out.trans (grown_belowOwn HOK.out hst.2 (Nat.le_refl _) HBK.out.size))
                  have hl2 := HV.out.1
                  have hd3 : decide (((us.length : Int) + 1) > 256) = false := decide_eq_false (by omega)
                  have hd4 : decide ((256 : Int) < (us.length : Int) + 1) = false := decide_eq_false (by omega)
                  clear hst hsl HOK HBK
                  go_wp2
                  go_roundw
                  case rel => exact ⟨i + 1, a4, c4, insU us x, by go_num, by omega, by rw [hl2], Lib.hid (by rw [HUS.out]), HSE.out, HBE.out⟩
                  case measure => simp [intOf]; omega
        · have htz : decide ((t : Int) < (us.length : Int)) = false := decide_eq_false (by omega)
          have htn : decide (t < us.length) = false := decide_eq_false htl
          have HGT : Hid (∀ j, t ≤ j → j < us.length → x < at0 us j) := Lib.hid (fun j h1 h2 => by omega)
          go_wp2_with fail
          go_quiet (fail)
          have HOW := Lib.hid (HO.out.drewN nq)
          have HBW := Lib.hid (HB.out.trans (below_of_drewN wj nq _))
          clear HO HB hcx
          generalize wj.drewN nq = wz at HOW HBW ⊢
          go_wp2_with fail
          go_quiet (fail)
          have HOQ := Lib.hid (HOW.out.drewN nq)
          have HBQ := Lib.hid (HBW.out.trans (below_of_drewN wz nq _))
          clear HOW HBW
          generalize wz.drewN nq = wq at HOQ HBQ ⊢
          have HZW := Lib.hid (HBQ.out.size)
          have hzw := HBQ.out.size
          have hvl := insU_at_len (x := x) HUP.out HAL.out HGT.out
          have hve := insU_at (x := x) HUP.out HAL.out HGT.out
          have HV := Lib.hid (And.intro hvl hve)
          clear hvl hve
          go_wp2_with (at_builtin; refine wpl_append1 (f := Value.int .i64) (d := 0) (base := w.heap.size) und_ise info_i (fun _ => rfl) (0 : Int) HOQ.out rfl _ _ rfl rfl rfl (by omega) (by omega) hzw ?_; intro a4 c4 w4 ho4 hg4)
          have HO4 := Lib.hid (ho4.cast (shf_start us).symm)
          have HB4 := Lib.hid (HBQ.out.trans (grown_belowOwn HOQ.out hg4 (Nat.le_refl _) HZW.out))
          have ewl : IntKind.i64.wrap ((us.length : Int) + 1 - 1) = (us.length : Int) := by rw [IntWalk.i64_in _ (by omega)]; omega
          have ewl2 : IntKind.i64.wrap (us.length : Int) = (us.length : Int) := IntWalk.i64_in _ (by omega)
          clear ho4 hg4 HOQ HBQ HZW hzw
          go_wp2_with fail
          go_loopw [8] (fun vk wr2 => ∃ k : Nat, vk = .int .i64 k ∧ t ≤ k ∧ k ≤ us.length ∧ Own (Value.int .i64) 2 wr2 w.heap.size a4 c4 (shf us k) ∧ Below w.heap.size w wr2) (fun vk _ => (intOf vk).toNat)
          case atStart => exact ⟨us.length, rfl, ht, Nat.le_refl _, HO4.out, HB4.out⟩
          case round =>
            clear HO4 HB4
            obtain ⟨k, rfl, hk0, hk1, ho, hb⟩ := hrel
            have HOK := Lib.hid ho
            have HBK := Lib.hid hb
            obtain ⟨wk, hwk⟩ : ∃ wi : World, wi = wr := ⟨_, rfl⟩
            rw [← hwk]
            rw [← hwk] at HOK HBK
            clear ho hb hwk
            have hsl : (shf us k).length = us.length + 1 := shf_len hk1
            have hfk := HOK.out.free k (by rw [hsl]; omega)
            obtain ⟨v0, hck⟩ : ∃ v, wk.cell? (elt a4 k) = some v := ⟨_, HOK.out.cell k (by rw [hsl]; omega)⟩
            by_cases htk : t < k
            · exfalso; omega
            · obtain rfl : k = t := by omega
              have hd : decide ((k : Int) < (k : Int)) = false := decide_eq_false (by omega)
              have hixk := rd_idxAt HOK.out.rd und_is siz_is k (by rw [hsl]; omega) (k : Int) rfl
              rw [hsl] at hixk
              have hcx := at0_cell2 (HR.out.below HBK.out (Nat.le_refl _)) (by rw [HN.out]; exact hlt) HX.out
              have hst := HOK.out.set k (by rw [hsl]; omega) x
              rw [shf_end hk1, ← HV.out.2] at hst
              have HSE := Lib.hid hst.1
              have HBE := Lib.hid (HBK.out.trans (grown_belowOwn HOK.out hst.2 (Nat.le_refl _) HBK.out.size))
              have hl2 := HV.out.1
              have hd3 : decide (((us.length : Int) + 1) > 256) = false := decide_eq_false (by omega)
              have hd4 : decide ((256 : Int) < (us.length : Int) + 1) = false := decide_eq_false (by omega)
              clear hst hsl HOK HBK
              go_wp2
              go_roundw
              case rel => exact ⟨i + 1, a4, c4, insU us x, by go_num, by omega, by rw [hl2], Lib.hid (by rw [HUS.out]), HSE.out, HBE.out⟩
              case measure => simp [intOf]; omega
    · obtain rfl : i = n := by omega
      have hltz : ¬ (i : Int) < (i : Int) := by omega
      have he : us = uniq xs := by rw [← HUS0.out, ← HN.out, List.take_length]
      have HEE := Lib.hid he
      clear he
      go_wp2
      go_ret
      exact ⟨b, cc, by rw [← HEE.out]; rfl, HO.out.cast HEE.out, HB.out⟩

set_option maxRecDepth 8000 in
set_option maxHeartbeats 2000000 in
theorem l06Level_any {a : Option Addr} {c : Nat} {xs : List Int} {salt : Int} {l : Nat} {w : World} (hr : Rd (Value.int .i64) w a c xs) (hn : xs.length ≤ 256) (hk : keysB xs = true) (hsk : isKey salt = true) :
    Calls Tryd.prog 27 #[.slice a xs.length c, .int .i64 salt, .int .i64 l] w (RetS (Value.int .i64) 2 w (lev xs salt l)) := by
  have HE := Lib.hid (own_empty (f := Value.int .i64) (e := 2) (α := Int) w (by_ := 0) w.heap.size (Nat.le_refl _) rfl)
  have HB1 := Lib.hid ((Below.refl w.heap.size w).alloc (Nat.le_refl _) (.cells #[] 2))
  have HR := Lib.hid hr
  obtain ⟨n, hnn⟩ : ∃ n, xs.length = n := ⟨_, rfl⟩
  have HN := Lib.hid hnn
  rw [hnn] at hn ⊢
  obtain ⟨p, hp⟩ : ∃ p : Int → Bool, (fun k => decide ((l : Int) ≤ lowZ (hashZ k salt))) = p := ⟨_, rfl⟩
  have HP : Hid (∀ x, p x = decide ((l : Int) ≤ lowZ (hashZ x salt))) := Lib.hid (fun x => by rw [← hp])
  have hlv : lev xs salt l = uniq (xs.filter p) := by unfold lev; rw [hp]
  obtain ⟨us, hus⟩ : ∃ us, uniq (xs.filter p) = us := ⟨_, rfl⟩
  have HUS := Lib.hid hus
  rw [hlv, hus]
  have HKB : Hid (∀ i, i < n → isKey (at0 xs i) = true) := Lib.hid (fun i hi => by
    have hil : i < xs.length := by omega
    have e : at0 xs i = xs[i] := by simp [at0, hil]
    rw [e]
    exact List.all_eq_true.1 hk _ (List.getElem_mem hil))
  have HSK := Lib.hid (isKey_bd hsk)
  clear hr hnn hk hsk hp hlv hus
  go_enter Tryd.func27, Tryd.ntmps27
  go_wp2_with fail
  go_loopw [7, 8, 9, 10] (fun o vi _ _ wr => ∃ (k : Nat) (b : Option Addr) (cc : Nat) (zs : List Int), vi = .int .i64 k ∧ k ≤ n ∧ o = .slice b zs.length cc ∧ Hid ((xs.take k).filter p = zs) ∧ Own (Value.int .i64) 2 wr w.heap.size b cc zs ∧ Below w.heap.size w wr) (fun _ vi _ _ _ => n - (intOf vi).toNat)
  case atStart => exact ⟨0, _, _, [], rfl, Nat.zero_le _, rfl, Lib.hid (by simp), HE.out, HB1.out⟩
  case round =>
    clear HE HB1
    obtain ⟨k, b, cc, zs, rfl, hk, rfl, HZ, ho, hb⟩ := hrel
    have HO := Lib.hid ho
    have HB := Lib.hid hb
    obtain ⟨wi, hwi⟩ : ∃ wi : World, wi = wr := ⟨_, rfl⟩
    rw [← hwi]
    rw [← hwi] at HO HB
    clear ho hb hwi
    have hzl : zs.length ≤ k := by rw [← HZ.out]; have := (filter_take_len p xs k).1; omega
    by_cases hlt : k < n
    · have hltz : (k : Int) < (n : Int) := by omega
      obtain ⟨x, hx⟩ : ∃ x, at0 xs k = x := ⟨_, rfl⟩
      have hkx := isKey_bd (HKB.out k hlt)
      rw [hx] at hkx
      have hcx := at0_cell2 (HR.out.below HB.out (Nat.le_refl _)) (by rw [HN.out]; exact hlt) hx
      have hixx := rd_idxAt HR.out und_is siz_is k (by rw [HN.out]; exact hlt) (k : Int) rfl
      rw [HN.out] at hixx
      have hfs := filter_take_succ (p := p) (xs := xs) (m := k) (by rw [HN.out]; exact hlt)
      rw [hx, HZ.out] at hfs
      have HFS := Lib.hid hfs
      have HH := Lib.hid (l02Hash_any (w := wi) hkx.1 hkx.2 HSK.out.1 HSK.out.2)
      obtain ⟨h0, h1⟩ := hashZ_bd x salt
      have HL := Lib.hid (specLow_any (w := wi) h0 h1)
      have hpx := HP.out x
      have HPX := Lib.hid hpx
      clear hx hkx hfs hpx
      generalize hashZ x salt = h at HH HL h0 h1 HPX
      have ewk : IntKind.i64.wrap ((k : Int) + 1) = (k : Int) + 1 := IntWalk.i64_in _ (by omega)
      go_wp2_with fail
      refine HH.out.mono ?_
      rintro e w2 ⟨rfl, rfl⟩
      go_wp2_with fail
      refine HL.out.mono ?_
      rintro e w2 ⟨rfl, rfl⟩
      by_cases hz : (l : Int) ≤ lowZ h
      · have hd : decide ((l : Int) ≤ lowZ h) = true := decide_eq_true hz
        have HFT : Hid ((xs.take (k + 1)).filter p = zs ++ [x]) := Lib.hid (by rw [HFS.out, HPX.out, hd]; rfl)
        have hzw := HB.out.size
        clear hz
        go_wp2_with (at_builtin; refine wpl_append1 (f := Value.int .i64) (d := 0) (base := w.heap.size) und_ise info_i (fun _ => rfl) x HO.out rfl _ _ rfl rfl rfl (by omega) (by omega) hzw ?_; intro a4 c4 w4 ho4 hg4)
        go_roundw
        case rel => exact ⟨k + 1, a4, c4, zs ++ [x], by go_num, by omega, by simp, HFT, ho4, HB.out.trans (grown_belowOwn HO.out hg4 (Nat.le_refl _) hzw)⟩
        case measure => simp [intOf]; omega
      · have hd : decide ((l : Int) ≤ lowZ h) = false := decide_eq_false hz
        have HFT : Hid ((xs.take (k + 1)).filter p = zs) := Lib.hid (by rw [HFS.out, HPX.out, hd]; simp)
        clear hz
        go_wp2
        go_roundw
        case rel => exact ⟨k + 1, b, cc, zs, by go_num, by omega, rfl, HFT, HO.out, HB.out⟩
        case measure => simp [intOf]; omega
    · obtain rfl : k = n := by omega
      have hltz : ¬ (k : Int) < (k : Int) := by omega
      have hzz : xs.filter p = zs := by rw [← HZ.out, ← HN.out, List.take_length]
      have hll := l04Least_any HO.out.rd (by omega)
      rw [← hzz, HUS.out, hzz] at hll
      have HLL := Lib.hid hll
      clear hzz hll
      go_wp2_with fail
      refine HLL.out.mono ?_
      rintro e w3 ⟨a3, c3, rfl, ho3, hb3⟩
      have HO3 := Lib.hid (ho3.mono HB.out.size)
      have HB3 := Lib.hid (HB.out.trans (hb3.mono HB.out.size))
      clear ho3 hb3 HLL
      go_wp2
      go_ret
      exact ⟨a3, c3, rfl, HO3.out, HB3.out⟩

set_option maxRecDepth 8000 in
set_option maxHeartbeats 2000000 in
theorem l06Distinct_any {a : Option Addr} {c : Nat} {xs : List Int} {room salt : Int} {fr : Nat} {w : World} (hr : Rd (Value.int .i64) w a c xs) (hn : xs.length ≤ 256) (hk : keysB xs = true) (hsk : isKey salt = true) (hfr : fr ≤ 32) :
    Calls Tryd.prog 16 #[.slice a xs.length c, .int .i64 room, .int .i64 salt, .int .i64 fr] w (RetD w (dstV xs room salt fr) (dstL xs room salt fr) (dstK xs room salt fr)) := by
  have HR := Lib.hid hr
  have HK := Lib.hid hk
  have HSK := Lib.hid hsk
  obtain ⟨L, hL⟩ : ∃ L, dstV xs room salt fr = L := ⟨_, rfl⟩
  obtain ⟨ys, hy⟩ : ∃ ys, dstL xs room salt fr = ys := ⟨_, rfl⟩
  obtain ⟨b, hb⟩ : ∃ b, dstK xs room salt fr = b := ⟨_, rfl⟩
  have HD := Lib.hid (And.intro hL (And.intro hy hb))
  rw [hL, hy, hb]
  have HN := Lib.hid hn
  clear hr hk hsk hL hy hb
  go_enter Tryd.func16, Tryd.ntmps16
  go_wp2_with fail
  go_loopw [11, 12] (fun vl _ wr => ∃ l : Nat, vl = .int .i64 l ∧ fr ≤ l ∧ l ≤ 33 ∧ Hid (∀ j, fr ≤ j → j < l → few xs room salt j = false) ∧ Below w.heap.size w wr) (fun vl _ _ => 33 - (intOf vl).toNat)
  case atStart => exact ⟨fr, rfl, Nat.le_refl _, by omega, Lib.hid (fun j h1 h2 => by omega), Below.refl _ _⟩
  case round =>
    obtain ⟨l, rfl, hl0, hl1, HF, hb⟩ := hrel
    have HB := Lib.hid hb
    obtain ⟨wi, hwi⟩ : ∃ wi : World, wi = wr := ⟨_, rfl⟩
    rw [← hwi]
    rw [← hwi] at HB
    clear hb hwi
    by_cases hlt : l ≤ 32
    · have hltz : decide ((l : Int) ≤ 32) = true := decide_eq_true (by omega)
      have HC := Lib.hid (l06Level_any (l := l) (HR.out.below HB.out (Nat.le_refl _)) HN.out HK.out HSK.out)
      have hll := lev_len xs salt l
      go_wp2_with fail
      refine HC.out.mono ?_
      rintro e w2 ⟨a2, c2, rfl, ho2, hb2⟩
      have HO2 := Lib.hid (ho2.mono HB.out.size)
      have HB2 := Lib.hid (HB.out.trans (hb2.mono HB.out.size))
      clear ho2 hb2 HC HB
      by_cases hfw : few xs room salt l = true
      · have hO : dstO xs room salt fr = some l := lvl_some hl0 (by omega) hfw HF.out
        have h1 : L = l := by have := HD.out.1; unfold dstV at this; rw [hO] at this; exact this.symm
        have h2 : ys = lev xs salt l := by have := HD.out.2.1; unfold dstL at this; rw [hO] at this; exact this.symm
        have h3 : b = true := by have := HD.out.2.2; unfold dstK at this; rw [hO] at this; exact this.symm
        have hd : decide (((lev xs salt l).length : Int) ≤ room) = true := hfw
        subst h1 h2 h3
        clear hfw hO
        go_wp2
        go_ret3
        exact ⟨a2, c2, rfl, HO2.out, HB2.out⟩
      · have hfw' : few xs room salt l = false := by simpa using hfw
        have hd : decide (((lev xs salt l).length : Int) ≤ room) = false := hfw'
        have HF2 : Hid (∀ j, fr ≤ j → j < l + 1 → few xs room salt j = false) := Lib.hid (fun j h1 h2 => by
          by_cases hj : j = l
          · rw [hj]; exact hfw'
          · exact HF.out j h1 (by omega))
        have ew : IntKind.i64.wrap ((l : Int) + 1) = (l : Int) + 1 := IntWalk.i64_in _ (by omega)
        clear hfw hfw' HF
        go_wp2
        go_roundw
        case rel => exact ⟨l + 1, by go_num, by omega, by omega, HF2, HB2.out⟩
        case measure => simp [intOf]; omega
    · obtain rfl : l = 33 := by omega
      have hltz : decide (((33 : Nat) : Int) ≤ 32) = false := decide_eq_false (by omega)
      have hO : dstO xs room salt fr = none := lvl_none HF.out
      have h1 : L = 0 := by have := HD.out.1; unfold dstV at this; rw [hO] at this; exact this.symm
      have h2 : ys = [] := by have := HD.out.2.1; unfold dstL at this; rw [hO] at this; exact this.symm
      have h3 : b = false := by have := HD.out.2.2; unfold dstK at this; rw [hO] at this; exact this.symm
      subst h1 h2 h3
      clear hO
      go_wp2
      go_ret3
      exact retD_no HB.out

/-- What is asked of keys, a room and a salt. -/
def dmpB (xs : List Int) (room salt : Int) : Bool := decide (xs.length ≤ 128) && keysB xs && inR room 1 128 && isKey salt
def dmpV (xs : List Int) (room salt : Int) : Int := if dmpB xs room salt then dstV xs room salt 0 else 0
def dmpL (xs : List Int) (room salt : Int) : List Int := if dmpB xs room salt then dstL xs room salt 0 else []
def dmpK (xs : List Int) (room salt : Int) : Bool := if dmpB xs room salt then dstK xs room salt 0 else false
theorem dmpL_len (xs : List Int) (room salt : Int) : (dmpL xs room salt).length ≤ 128 := by
  unfold dmpL
  split
  · rename_i h
    simp only [dmpB, Bool.and_eq_true, decide_eq_true_eq] at h
    exact Nat.le_trans (dstL_len _ _ _ _) h.1.1.1
  · simp
theorem dmp_no {xs : List Int} {room salt : Int} (h : dmpB xs room salt = false) : dmpV xs room salt = 0 ∧ dmpL xs room salt = [] ∧ dmpK xs room salt = false := by
  unfold dmpV dmpL dmpK
  rw [h]
  exact ⟨rfl, rfl, rfl⟩

theorem strRoom_any {x : Int} {w : World} : Calls Tryd.prog 18 #[.int .i64 x] w fun e w' => e = .returned (.bool (inR x 1 128)) ∧ w = w' := by
  go_enter Tryd.func18, Tryd.ntmps18
  go_wp2_with fail
  refine (within_any _ _ _ _).mono ?_
  rintro e w1 ⟨rfl, rfl⟩
  go_wp2
  go_ret
  exact ⟨rfl, rfl⟩
theorem strRoomS_any {x : Int} {w : World} : Calls Tryd.prog 14 #[.int .i64 x] w fun e w' => e = .returned (.bool (inR x 1 128)) ∧ w = w' := by
  go_enter Tryd.func14, Tryd.ntmps14
  go_wp2_with fail
  refine (l00In_any _ _ _ _).mono ?_
  rintro e w1 ⟨rfl, rfl⟩
  go_wp2
  go_ret
  exact ⟨rfl, rfl⟩

set_option maxRecDepth 8000 in
set_option maxHeartbeats 2000000 in
theorem implDst_any {a : Option Addr} {c : Nat} {xs : List Int} {room salt : Int} {w : World} (hr : Rd (Value.int .i64) w a c xs) (hT : Tab w) :
    Calls Tryd.prog 7 #[.slice a xs.length c, .int .i64 room, .int .i64 salt] w (RetD w (dmpV xs room salt) (dmpL xs room salt) (dmpK xs room salt)) := by
  have hln := hr.len
  cases hc0 : decide (xs.length ≤ 128) with
  | false =>
    have hno : dmpB xs room salt = false := by unfold dmpB; rw [hc0]; simp
    obtain ⟨e1, e2, e3⟩ := dmp_no hno
    rw [e1, e2, e3]
    clear hno e1 e2 e3
    have hcz : decide ((xs.length : Int) > 128) = true := decide_eq_true (by have := of_decide_eq_false hc0; omega)
    have hcz2 : decide ((128 : Int) < (xs.length : Int)) = true := hcz
    go_enter Tryd.func7, Tryd.ntmps7
    go_wp2
    go_ret3
    exact retD_no (Below.refl _ _)
  | true =>
  have hcz : decide ((xs.length : Int) > 128) = false := decide_eq_false (by have := of_decide_eq_true hc0; omega)
  have hcz2 : decide ((128 : Int) < (xs.length : Int)) = false := hcz
  cases hc1 : keysB xs with
  | false =>
    have hno : dmpB xs room salt = false := by unfold dmpB; rw [hc0, hc1]; simp
    obtain ⟨e1, e2, e3⟩ := dmp_no hno
    rw [e1, e2, e3]
    clear hno e1 e2 e3
    go_enter Tryd.func7, Tryd.ntmps7
    go_wp2_with fail
    refine (areAllKeys_any hr).mono ?_
    rintro e wg1 ⟨rfl, hbg1⟩
    have BG1 := Lib.hid hbg1
    clear hbg1
    rw [hc1]
    go_wp2
    go_ret3
    exact retD_no BG1.out
  | true =>
  cases hc2 : inR room 1 128 with
  | false =>
    have hno : dmpB xs room salt = false := by unfold dmpB; rw [hc0, hc1, hc2]; simp
    obtain ⟨e1, e2, e3⟩ := dmp_no hno
    rw [e1, e2, e3]
    clear hno e1 e2 e3
    go_enter Tryd.func7, Tryd.ntmps7
    go_wp2_with fail
    refine (areAllKeys_any hr).mono ?_
    rintro e wg1 ⟨rfl, hbg1⟩
    have BG1 := Lib.hid hbg1
    clear hbg1
    rw [hc1]
    go_wp2_with fail
    refine (strRoom_any).mono ?_
    rintro e wg2 ⟨rfl, rfl⟩
    rw [hc2]
    go_wp2
    go_ret3
    exact retD_no BG1.out
  | true =>
  cases hc3 : isKey salt with
  | false =>
    have hno : dmpB xs room salt = false := by unfold dmpB; rw [hc0, hc1, hc2, hc3]; simp
    obtain ⟨e1, e2, e3⟩ := dmp_no hno
    rw [e1, e2, e3]
    clear hno e1 e2 e3
    go_enter Tryd.func7, Tryd.ntmps7
    go_wp2_with fail
    refine (areAllKeys_any hr).mono ?_
    rintro e wg1 ⟨rfl, hbg1⟩
    have BG1 := Lib.hid hbg1
    clear hbg1
    rw [hc1]
    go_wp2_with fail
    refine (strRoom_any).mono ?_
    rintro e wg2 ⟨rfl, rfl⟩
    rw [hc2]
    go_wp2_with fail
    refine (implIsKey_any).mono ?_
    rintro e wg3 ⟨rfl, rfl⟩
    rw [hc3]
    go_wp2
    go_ret3
    exact retD_no BG1.out
  | true =>
  have hyes : dmpB xs room salt = true := by unfold dmpB; rw [hc0, hc1, hc2, hc3]; rfl
  have e1 : dmpV xs room salt = dstV xs room salt 0 := by unfold dmpV; rw [hyes]; rfl
  have e2 : dmpL xs room salt = dstL xs room salt 0 := by unfold dmpL; rw [hyes]; rfl
  have e3 : dmpK xs room salt = dstK xs room salt 0 := by unfold dmpK; rw [hyes]; rfl
  obtain ⟨L, hL⟩ : ∃ L, dstV xs room salt 0 = L := ⟨_, rfl⟩
  obtain ⟨ys, hy⟩ : ∃ ys, dstL xs room salt 0 = ys := ⟨_, rfl⟩
  obtain ⟨b, hb⟩ : ∃ b, dstK xs room salt 0 = b := ⟨_, rfl⟩
  have HV3 := Lib.hid (And.intro hL (And.intro hy hb))
  rw [e1, e2, e3, hL, hy, hb]
  clear hyes e1 e2 e3 hL hy hb
  go_enter Tryd.func7, Tryd.ntmps7
  go_wp2_with fail
  refine (areAllKeys_any hr).mono ?_
  rintro e wg1 ⟨rfl, hbg1⟩
  have BG1 := Lib.hid hbg1
  clear hbg1
  rw [hc1]
  go_wp2_with fail
  refine (strRoom_any).mono ?_
  rintro e wg2 ⟨rfl, rfl⟩
  rw [hc2]
  go_wp2_with fail
  refine (implIsKey_any).mono ?_
  rintro e wg3 ⟨rfl, rfl⟩
  rw [hc3]
  have hD := distinct_any (fr := 0) (room := room) (hr.below BG1.out (Nat.le_refl _)) (by have := of_decide_eq_true hc0; omega) hc1 hc3 (Nat.zero_le _) (hT.below BG1.out)
  rw [HV3.out.1, HV3.out.2.1, HV3.out.2.2] at hD
  have HD := Lib.hid hD
  clear hD
  go_wp2_with fail
  refine HD.out.mono ?_
  rintro e w9 ⟨a9, c9, rfl, ho9, hb9⟩
  have HO9 := Lib.hid (ho9.mono BG1.out.size)
  have HB9 := Lib.hid (BG1.out.trans (hb9.mono BG1.out.size))
  clear ho9 hb9
  go_wp2
  go_ret3
  exact ⟨a9, c9, rfl, HO9.out, HB9.out⟩

set_option maxRecDepth 8000 in
set_option maxHeartbeats 2000000 in
theorem specDst_any {a : Option Addr} {c : Nat} {xs : List Int} {room salt : Int} {w : World} (hr : Rd (Value.int .i64) w a c xs) :
    Calls Tryd.prog 5 #[.slice a xs.length c, .int .i64 room, .int .i64 salt] w (RetD w (dmpV xs room salt) (dmpL xs room salt) (dmpK xs room salt)) := by
  have hln := hr.len
  cases hc0 : decide (xs.length ≤ 128) with
  | false =>
    have hno : dmpB xs room salt = false := by unfold dmpB; rw [hc0]; simp
    obtain ⟨e1, e2, e3⟩ := dmp_no hno
    rw [e1, e2, e3]
    clear hno e1 e2 e3
    have hcz : decide ((xs.length : Int) > 128) = true := decide_eq_true (by have := of_decide_eq_false hc0; omega)
    have hcz2 : decide ((128 : Int) < (xs.length : Int)) = true := hcz
    go_enter Tryd.func5, Tryd.ntmps5
    go_wp2
    go_ret3
    exact retD_no (Below.refl _ _)
  | true =>
  have hcz : decide ((xs.length : Int) > 128) = false := decide_eq_false (by have := of_decide_eq_true hc0; omega)
  have hcz2 : decide ((128 : Int) < (xs.length : Int)) = false := hcz
  cases hc1 : (decide (xs.length ≤ 256) && keysB xs) with
  | false =>
    have hkf : keysB xs = false := by have := of_decide_eq_true hc0; rw [decide_eq_true (by omega : xs.length ≤ 256), Bool.true_and] at hc1; exact hc1
    have hno : dmpB xs room salt = false := by unfold dmpB; rw [hc0, hkf]; simp
    obtain ⟨e1, e2, e3⟩ := dmp_no hno
    rw [e1, e2, e3]
    clear hno e1 e2 e3
    go_enter Tryd.func5, Tryd.ntmps5
    go_wp2_with fail
    refine (l02Keys_any hr).mono ?_
    rintro e wg1 ⟨rfl, hbg1⟩
    have BG1 := Lib.hid hbg1
    clear hbg1
    rw [hc1]
    go_wp2
    go_ret3
    exact retD_no BG1.out
  | true =>
  have hkt : keysB xs = true := by rw [Bool.and_eq_true] at hc1; exact hc1.2
  cases hc2 : inR room 1 128 with
  | false =>
    have hno : dmpB xs room salt = false := by unfold dmpB; rw [hc0, hkt, hc2]; simp
    obtain ⟨e1, e2, e3⟩ := dmp_no hno
    rw [e1, e2, e3]
    clear hno e1 e2 e3
    go_enter Tryd.func5, Tryd.ntmps5
    go_wp2_with fail
    refine (l02Keys_any hr).mono ?_
    rintro e wg1 ⟨rfl, hbg1⟩
    have BG1 := Lib.hid hbg1
    clear hbg1
    rw [hc1]
    go_wp2_with fail
    refine (strRoomS_any).mono ?_
    rintro e wg2 ⟨rfl, rfl⟩
    rw [hc2]
    go_wp2
    go_ret3
    exact retD_no BG1.out
  | true =>
  cases hc3 : isKey salt with
  | false =>
    have hno : dmpB xs room salt = false := by unfold dmpB; rw [hc0, hkt, hc2, hc3]; simp
    obtain ⟨e1, e2, e3⟩ := dmp_no hno
    rw [e1, e2, e3]
    clear hno e1 e2 e3
    go_enter Tryd.func5, Tryd.ntmps5
    go_wp2_with fail
    refine (l02Keys_any hr).mono ?_
    rintro e wg1 ⟨rfl, hbg1⟩
    have BG1 := Lib.hid hbg1
    clear hbg1
    rw [hc1]
    go_wp2_with fail
    refine (strRoomS_any).mono ?_
    rintro e wg2 ⟨rfl, rfl⟩
    rw [hc2]
    go_wp2_with fail
    refine (l02Key_any).mono ?_
    rintro e wg3 ⟨rfl, rfl⟩
    rw [hc3]
    go_wp2
    go_ret3
    exact retD_no BG1.out
  | true =>
  have hyes : dmpB xs room salt = true := by unfold dmpB; rw [hc0, hkt, hc2, hc3]; rfl
  have e1 : dmpV xs room salt = dstV xs room salt 0 := by unfold dmpV; rw [hyes]; rfl
  have e2 : dmpL xs room salt = dstL xs room salt 0 := by unfold dmpL; rw [hyes]; rfl
  have e3 : dmpK xs room salt = dstK xs room salt 0 := by unfold dmpK; rw [hyes]; rfl
  obtain ⟨L, hL⟩ : ∃ L, dstV xs room salt 0 = L := ⟨_, rfl⟩
  obtain ⟨ys, hy⟩ : ∃ ys, dstL xs room salt 0 = ys := ⟨_, rfl⟩
  obtain ⟨b, hb⟩ : ∃ b, dstK xs room salt 0 = b := ⟨_, rfl⟩
  have HV3 := Lib.hid (And.intro hL (And.intro hy hb))
  rw [e1, e2, e3, hL, hy, hb]
  clear hyes e1 e2 e3 hL hy hb
  go_enter Tryd.func5, Tryd.ntmps5
  go_wp2_with fail
  refine (l02Keys_any hr).mono ?_
  rintro e wg1 ⟨rfl, hbg1⟩
  have BG1 := Lib.hid hbg1
  clear hbg1
  rw [hc1]
  go_wp2_with fail
  refine (strRoomS_any).mono ?_
  rintro e wg2 ⟨rfl, rfl⟩
  rw [hc2]
  go_wp2_with fail
  refine (l02Key_any).mono ?_
  rintro e wg3 ⟨rfl, rfl⟩
  rw [hc3]
  have hD := l06Distinct_any (fr := 0) (room := room) (hr.below BG1.out (Nat.le_refl _)) (by have := of_decide_eq_true hc0; omega) hkt hc3 (Nat.zero_le _)
  rw [HV3.out.1, HV3.out.2.1, HV3.out.2.2] at hD
  have HD := Lib.hid hD
  clear hD
  go_wp2_with fail
  refine HD.out.mono ?_
  rintro e w9 ⟨a9, c9, rfl, ho9, hb9⟩
  have HO9 := Lib.hid (ho9.mono BG1.out.size)
  have HB9 := Lib.hid (BG1.out.trans (hb9.mono BG1.out.size))
  clear ho9 hb9
  go_wp2
  go_ret3
  exact ⟨a9, c9, rfl, HO9.out, HB9.out⟩

end Go.Proofs.YtihbckoldblpcaaDoor
