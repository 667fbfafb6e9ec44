/- ReadZeros in both texts. -/
import Derived.Test.YtmmpemfhbnkomaaDoorQRj23
import Derived.Test.YtmmpemfhbnkomaaDoorQRj8
import Derived.Test.YtmmpemfhbnkomaaDoorQRj18
import Derived.Test.YtmmpemfhbnkomaaDoorQRj0
import Derived.Deep.Cut
set_option linter.unusedVariables false
set_option linter.unusedSimpArgs false
namespace Go.Proofs.YtmmpemfhbnkomaaDoor
open Go.RowKit

/-- strings.Cut at one byte. -/
theorem cutS_any {s : ByteArray} (m : UInt8) {w : World} (hM : MLen w) (hs : s.size ≤ 1048576) :
    Calls Tryd.prog 31 #[.string s, .string ⟨#[m]⟩] w fun e w' => e = .returned (.tuple #[.string (ctH m s), .string (ctT m s), .bool (ctB m s)]) ∧ Below w.heap.size w w' := by
  obtain ⟨v, hv⟩ := hM
  have h := Tryd.strings_Cut s ⟨#[m]⟩ v w (by omega) hv
  have e1 : ((⟨#[m]⟩ : ByteArray).data.toList) = [m] := rfl
  rw [e1, cut_sp] at h
  have e2 : ∀ x : ByteArray, (⟨(toL x).toArray⟩ : ByteArray) = x := fun x => by unfold toL; simp
  simp only [e2] at h
  refine h.mono ?_
  rintro e w' ⟨rfl, n, rfl⟩
  exact ⟨rfl, below_of_drewN w n _⟩

theorem numsB_empty : numsB ⟨#[]⟩ = false := by decide +kernel
/-- What is read of zeros. -/
def rzB (t : ByteArray) : Bool := ctB 59 t && rdB (ctH 59 t) && numsB (ctT 59 t) && zerosB (rdN (ctH 59 t)) (numsL (ctT 59 t))
def rzZ (t : ByteArray) : Int := if rzB t then rdN (ctH 59 t) else 0
def rzL (t : ByteArray) : List Int := if rzB t then numsL (ctT 59 t) else []
theorem rz_no {t : ByteArray} (h : rzB t = false) : rzZ t = 0 ∧ rzL t = [] := by unfold rzZ rzL; rw [h]; exact ⟨rfl, rfl⟩
theorem rz_yes {t : ByteArray} (h : rzB t = true) : rzZ t = rdN (ctH 59 t) ∧ rzL t = numsL (ctT 59 t) := by unfold rzZ rzL; rw [h]; exact ⟨rfl, rfl⟩
theorem rz_found {t : ByteArray} (h : numsB (ctT 59 t) = true) : ctB 59 t = true := by
  cases hb : ctB 59 t with
  | true => rfl
  | false => rw [ctT_none hb, numsB_empty] at h; simp at h
/-- What is read of good parts has the text again. -/
theorem rz_text {t : ByteArray} (h1 : rdB (ctH 59 t) = true) (h2 : numsB (ctT 59 t) = true) (h3 : zerosB (rdN (ctH 59 t)) (numsL (ctT 59 t)) = true) : zerV (rdN (ctH 59 t)) (numsL (ctT 59 t)) = true ∧ zerT (rdN (ctH 59 t)) (numsL (ctT 59 t)) = t := by
  have hv : zerV (rdN (ctH 59 t)) (numsL (ctT 59 t)) = true := by unfold zerV; rw [numsB_vals h2, h3]; rfl
  refine ⟨hv, ?_⟩
  unfold zerT
  rw [hv, if_pos rfl, (rdB_eq h1).2, nums_round h2]
  apply toL_inj
  rw [toL_append, toL_append, ct_app (rz_found h2)]
  have e : toL ⟨#[59]⟩ = [59] := rfl
  rw [e]; simp

def RetZer (w : World) (Z : Int) (zs : List Int) (b : Bool) (en : Ending) (w' : World) : Prop :=
  ∃ a c, en = .returned (.tuple #[.agg #[.int .i64 Z, .slice a zs.length c], .bool b]) ∧ Own (Value.int .i64) 2 w' w.heap.size a c zs ∧ Below w.heap.size w w'
theorem retZer_no {w w' : World} (hb : Below w.heap.size w w') : RetZer w 0 [] false (.returned (.tuple #[.agg #[.int .i64 0, .slice none 0 0], .bool false])) w' :=
  ⟨none, 0, rfl, own_nil _ _ _ _, hb⟩

set_option maxRecDepth 20000 in
set_option maxHeartbeats 4000000 in
theorem implReadZeros_any {t : ByteArray} {w : World} (hT : PTab w) (hE : ETab w) (hM : MLen w) (hs : t.size ≤ 1048576) :
    Calls Tryd.prog 18 #[.string t] w (RetZer w (rzZ t) (rzL t) (rzB t)) := by
  have HB0 := Lib.hid ((Below.refl w.heap.size w).alloc (Nat.le_refl _) (.cells #[.int .i64 0, .slice none 0 0] 37))
  have HI0 : Hid (Blk (w.alloc (.cells #[.int .i64 0, .slice none 0 0] 37)) w.heap.size #[.int .i64 0, .slice none 0 0] 37) := Lib.hid (Blk.new _ _ _)
  have HT := Lib.hid hT
  have HE := Lib.hid hE
  have HM := Lib.hid hM
  have HSH : Hid ((ctH 59 t).size ≤ 1048576) := Lib.hid (Nat.le_trans (ctH_size 59 t) hs)
  have HST : Hid ((ctT 59 t).size ≤ 1048576) := Lib.hid (Nat.le_trans (ctT_size 59 t) hs)
  obtain ⟨rb, hrb⟩ : ∃ b, rzB t = b := ⟨_, rfl⟩
  obtain ⟨rz, hrz⟩ : ∃ v, rzZ t = v := ⟨_, rfl⟩
  obtain ⟨rl, hrl⟩ : ∃ v, rzL t = v := ⟨_, rfl⟩
  have HNO : Hid (rzB t = false → rb = false ∧ rz = 0 ∧ rl = []) := Lib.hid (fun h => ⟨hrb ▸ h, hrz ▸ (rz_no h).1, hrl ▸ (rz_no h).2⟩)
  have HYES : Hid (rzB t = true → rb = true ∧ rz = rdN (ctH 59 t) ∧ rl = numsL (ctT 59 t)) := Lib.hid (fun h => ⟨hrb ▸ h, hrz ▸ (rz_yes h).1, hrl ▸ (rz_yes h).2⟩)
  have HDEF : Hid (rzB t = (ctB 59 t && rdB (ctH 59 t) && numsB (ctT 59 t) && zerosB (rdN (ctH 59 t)) (numsL (ctT 59 t)))) := Lib.hid rfl
  have HTX := Lib.hid (fun h1 h2 h3 => rz_text (t := t) h1 h2 h3)
  have HF := Lib.hid (fun h => rz_found (t := t) h)
  have HCU := Lib.hid (cutS_any (s := t) 59 (HM.out.below HB0.out (Nat.le_refl _)) hs)
  rw [hrb, hrz, hrl]
  clear hrb hrz hrl hT hE hM
  generalize ctH 59 t = H at HSH HYES HDEF HTX HCU
  generalize ctT 59 t = T at HST HYES HDEF HTX HF HCU
  generalize ctB 59 t = F at HDEF HF HCU
  generalize rzB t = ok at HNO HYES HDEF
  go_enter Tryd.func18, Tryd.ntmps18
  go_wp2_with fail
  refine HCU.out.mono ?_
  rintro e w1 ⟨rfl, hb1⟩
  have HB1 := Lib.hid (HB0.out.trans (hb1.mono HB0.out.size))
  have HI1 := Lib.hid (HI0.out.below hb1 (Nat.le_refl _))
  clear hb1 HCU HB0 HI0
  go_wp2_with fail
  refine (implReadDecimal_any (HT.out.below HB1.out (Nat.le_refl _)) (HE.out.below HB1.out (Nat.le_refl _)) HSH.out).mono ?_
  rintro e w2 ⟨rfl, hb2⟩
  have HB2 := Lib.hid (HB1.out.trans (hb2.mono HB1.out.size))
  have HI2 := Lib.hid (HI1.out.below hb2 (Nat.le_refl _))
  clear hb2 HB1 HI1
  go_wp2_with fail
  refine (implReadList_any (HT.out.below HB2.out (Nat.le_refl _)) (HE.out.below HB2.out (Nat.le_refl _)) (HM.out.below HB2.out (Nat.le_refl _)) HST.out).mono ?_
  rintro e w3 ⟨a, c, rfl, ho, hb3⟩
  have HB3 := Lib.hid (HB2.out.trans (hb3.mono HB2.out.size))
  have HI3 := Lib.hid (HI2.out.below hb3 (Nat.le_refl _))
  have HO3 : Hid (Own (Value.int .i64) 2 w3 (w.heap.size + 1) a c (numsR T)) := Lib.hid (ho.mono HI2.out.lt)
  clear hb3 HB2 HI2 ho
  have HB4 := Lib.hid (HB3.out.alloc HB3.out.size (.cells #[.int .i64 (rdV H), .slice a (numsR T).length c] 37))
  have HI4 := Lib.hid (HI3.out.alloc (.cells #[.int .i64 (rdV H), .slice a (numsR T).length c] 37))
  have HJ4 := Lib.hid (Blk.new w3 #[.int .i64 (rdV H), .slice a (numsR T).length c] 37)
  have HO4 := Lib.hid (HO3.out.alloc (.cells #[.int .i64 (rdV H), .slice a (numsR T).length c] 37))
  go_wp2_with fail
  obtain ⟨B, hB⟩ : ∃ B, w3.heap.size = B := ⟨_, rfl⟩
  have HBB : Hid (w.heap.size ≤ B) := Lib.hid (hB ▸ HB3.out.size)
  rw [hB] at HJ4 ⊢
  clear hB HB3 HI3 HO3
  generalize w3.alloc (.cells #[.int .i64 (rdV H), .slice a (numsR T).length c] 37) = w4 at HB4 HI4 HJ4 HO4 ⊢
  refine (zerosText_any (HT.out.below HB4.out (Nat.le_refl _)) HO4.out.rd).mono ?_
  rintro e w5 ⟨rfl, hb5⟩
  have HB5 := Lib.hid (HB4.out.trans (hb5.mono HB4.out.size))
  have HI5 := HI4.out.below hb5 (Nat.le_refl _)
  have HJ5 := HJ4.out.below hb5 (Nat.le_refl _)
  have HO5 := Lib.hid (HO4.out.below hb5 (Nat.le_refl _))
  have r0 := HI5.cell (i := 0) (v := .int .i64 0) rfl
  have r1 := HI5.cell (i := 1) (v := .slice none 0 0) rfl
  have q0 := HI5.free 0
  have q1 := HI5.free 1
  have j0 := HJ5.cell (i := 0) (v := .int .i64 (rdV H)) rfl
  have j1 := HJ5.cell (i := 1) (v := .slice a (numsR T).length c) rfl
  clear hb5 HB4 HI4 HJ4 HO4 HI5 HJ5
  cases h1 : rdB H with
  | false =>
    obtain ⟨rfl, rfl, rfl⟩ := HNO.out (by rw [HDEF.out, h1]; simp)
    go_wp2
    refine bodyPost_ret (v := .tuple #[.agg #[.int .i64 0, .slice none 0 0], .bool false]) (by simp [results, Tryd.results18, go_sem, r0, r1]) rfl (retZer_no ((HB5.out.setCell (by simp) _).setCell (by simp) _))
  | true =>
  cases h2 : numsB T with
  | false =>
    obtain ⟨rfl, rfl, rfl⟩ := HNO.out (by rw [HDEF.out, h2]; simp)
    go_wp2
    refine bodyPost_ret (v := .tuple #[.agg #[.int .i64 0, .slice none 0 0], .bool false]) (by simp [results, Tryd.results18, go_sem, r0, r1]) rfl (retZer_no ((HB5.out.setCell (by simp) _).setCell (by simp) _))
  | true =>
  have e1 := rdV_yes h1
  have e2 : numsR T = numsL T := by unfold numsR; rw [h2]; rfl
  rw [e1] at j0 ⊢
  rw [e2] at j1 ⊢
  have HO6 : Hid (Own (Value.int .i64) 2 w5 (w.heap.size + 1) a c (numsL T)) := Lib.hid (e2 ▸ HO5.out)
  clear HO5 e1 e2
  have HV := Lib.hid (numsB_vals h2)
  cases h3 : zerosB (rdN H) (numsL T) with
  | false =>
    have hv : zerV (rdN H) (numsL T) = false := by unfold zerV; rw [h3]; simp
    obtain ⟨rfl, rfl, rfl⟩ := HNO.out (by rw [HDEF.out, h3]; simp)
    rw [hv]
    generalize rdN H = Z at j0 j1 ⊢
    generalize numsL T = zs at j0 j1 ⊢
    clear h3 hv HDEF HYES HTX HV HO6
    go_wp2
    refine bodyPost_ret (v := .tuple #[.agg #[.int .i64 0, .slice none 0 0], .bool false]) (by simp [results, Tryd.results18, go_sem, r0, r1]) rfl (retZer_no ((HB5.out.setCell (by simp) _).setCell (by simp) _))
  | true =>
    obtain ⟨hv, htx⟩ := HTX.out h1 h2 h3
    obtain ⟨rfl, hz, hl⟩ := HYES.out (by rw [HDEF.out, HF.out h2, h1, h2, h3]; rfl)
    rw [hv, htx]
    rw [← hz] at j0 ⊢
    have HO7 : Hid (Own (Value.int .i64) 2 w5 (w.heap.size + 1) a c rl) := Lib.hid (hl ▸ HO6.out)
    rw [← hl] at j1 ⊢
    have hnt : (t.toList == t.toList) = true := by simp
    have hnt2 : (t.toList != t.toList) = false := by simp
    clear hv htx h3 HDEF HYES HTX HV hz hl HO6
    go_wp2
    refine bodyPost_ret (v := .tuple #[.agg #[.int .i64 rz, .slice a rl.length c], .bool true]) (by simp [results, Tryd.results18, go_sem, r0, r1]) rfl ⟨a, c, rfl, ?_, (HB5.out.setCell (by simp) _).setCell (by simp) _⟩
    refine Own.mono (base := w.heap.size + 1) ?_ (by omega)
    refine Own.setFar (Own.setFar HO7.out _ _ ?_) _ _ ?_
    all_goals simp

theorem parts_len_pos (s : ByteArray) (m : UInt8) : (parts s m).length ≠ 0 := by have := (parts_len s m).1; omega
/-- Two parts. -/
theorem parts_two {t : ByteArray} {m : UInt8} : ((parts t m).length = 2 → ctB m t = true ∧ (parts t m) = [ctH m t, ctT m t]) ∧ (ctB m t = true → (∀ b ∈ toL (ctT m t), b ≠ m) → (parts t m).length = 2) := by
  constructor
  · intro h
    cases hb : ctB m t with
    | false => rw [parts_none hb] at h; simp at h
    | true =>
      rw [parts_cut hb] at h ⊢
      refine ⟨rfl, ?_⟩
      cases hc : ctB m (ctT m t) with
      | false => rw [parts_none hc]
      | true =>
        rw [parts_cut hc] at h
        have := parts_len_pos (ctT m (ctT m t)) m
        simp at h
        exact absurd (congrArg List.length h) this
  · intro hb h
    rw [parts_cut hb]
    have : parts (ctT m t) m = [ctT m t] := by
      apply map_toL_inj
      rw [parts_toL', sp_all h]; rfl
    rw [this]; rfl

set_option maxRecDepth 20000 in
set_option maxHeartbeats 4000000 in
theorem specReadZeros_any {t : ByteArray} {w : World} (hs : t.size ≤ 1048576) :
    Calls Tryd.prog 37 #[.string t] w (RetZer w (rzZ t) (rzL t) (rzB t)) := by
  have HB0 := Lib.hid ((Below.refl w.heap.size w).alloc (Nat.le_refl _) (.cells #[.int .i64 0, .slice none 0 0] 37))
  have HI0 : Hid (Blk (w.alloc (.cells #[.int .i64 0, .slice none 0 0] 37)) w.heap.size #[.int .i64 0, .slice none 0 0] 37) := Lib.hid (Blk.new _ _ _)
  have HSH : Hid ((ctH 59 t).size ≤ 1048576) := Lib.hid (Nat.le_trans (ctH_size 59 t) hs)
  have HST : Hid ((ctT 59 t).size ≤ 1048576) := Lib.hid (Nat.le_trans (ctT_size 59 t) hs)
  obtain ⟨rb, hrb⟩ : ∃ b, rzB t = b := ⟨_, rfl⟩
  obtain ⟨rz, hrz⟩ : ∃ v, rzZ t = v := ⟨_, rfl⟩
  obtain ⟨rl, hrl⟩ : ∃ v, rzL t = v := ⟨_, rfl⟩
  have HNO : Hid (rzB t = false → rb = false ∧ rz = 0 ∧ rl = []) := Lib.hid (fun h => ⟨hrb ▸ h, hrz ▸ (rz_no h).1, hrl ▸ (rz_no h).2⟩)
  have HYES : Hid (rzB t = true → rb = true ∧ rz = rdN (ctH 59 t) ∧ rl = numsL (ctT 59 t)) := Lib.hid (fun h => ⟨hrb ▸ h, hrz ▸ (rz_yes h).1, hrl ▸ (rz_yes h).2⟩)
  have HDEF : Hid (rzB t = (ctB 59 t && rdB (ctH 59 t) && numsB (ctT 59 t) && zerosB (rdN (ctH 59 t)) (numsL (ctT 59 t)))) := Lib.hid rfl
  have HF := Lib.hid (fun h => rz_found (t := t) h)
  have HP2 := Lib.hid (parts_two (t := t) (m := 59))
  have HSE := Lib.hid (fun h => numsB_semi (s := ctT 59 t) h)
  have hpl := parts_len t 59
  have HCU := Lib.hid (l01Cut_any (s := t) (m := 59) (mi := 59) (w := w.alloc (.cells #[.int .i64 0, .slice none 0 0] 37)) hs rfl)
  rw [hrb, hrz, hrl]
  clear hrb hrz hrl
  generalize ctH 59 t = H at HSH HYES HDEF HP2
  generalize ctT 59 t = T at HST HYES HDEF HF HP2 HSE
  generalize ctB 59 t = F at HDEF HF HP2
  generalize rzB t = ok at HNO HYES HDEF
  generalize parts t 59 = P at HP2 hpl HCU
  go_enter Tryd.func37, Tryd.ntmps37
  go_wp2_with fail
  refine HCU.out.mono ?_
  rintro e w1 ⟨pa, pc, rfl, hpo, hb1⟩
  have HB1 := Lib.hid (HB0.out.trans (hb1.mono HB0.out.size))
  have HI1 := Lib.hid (HI0.out.below hb1 (Nat.le_refl _))
  have HPO := Lib.hid hpo
  have hix := hpo.rd.idx und_ss siz_ss
  clear hb1 HCU HB0 HI0 hpo
  by_cases hl : P.length = 2
  · obtain ⟨hF, hP⟩ := HP2.out.1 hl
    subst hP
    have hc0 := HPO.out.rd.cell 0 (by simp)
    have hc1 := HPO.out.rd.cell 1 (by simp)
    simp only [List.getElem?_cons_zero, List.getElem?_cons_succ, Option.getD_some] at hc0 hc1
    simp only [List.length_cons, List.length_nil, Nat.zero_add, Nat.reduceAdd] at hix ⊢
    have hi0 : ∀ w' : World, (Instr.indexAt 22 (.slice pa 2 pc) (.int .i64 0)).run Tryd.prog w' = .ok (.pointer (some (elt pa 0))) w' := fun w' => hix w' 0 (by omega)
    have hi1 : ∀ w' : World, (Instr.indexAt 22 (.slice pa 2 pc) (.int .i64 1)).run Tryd.prog w' = .ok (.pointer (some (elt pa 1))) w' := fun w' => hix w' 1 (by omega)
    clear hl hpl hix
    go_wp2_with fail
    refine (l01Value_any HSH.out).mono ?_
    rintro e w2 ⟨rfl, hb2⟩
    have HB2 := Lib.hid (HB1.out.trans (hb2.mono HB1.out.size))
    have HI2 := Lib.hid (HI1.out.below hb2 (Nat.le_refl _))
    have HPO2 := Lib.hid (HPO.out.below hb2 (Nat.le_refl _))
    have hc1' := HPO2.out.rd.cell 1 (by simp)
    simp only [List.getElem?_cons_zero, List.getElem?_cons_succ, Option.getD_some] at hc1'
    clear hb2 HB1 HI1 HPO hc0 hc1
    go_wp2_with fail
    refine (l01Numbers_any HST.out).mono ?_
    rintro e w3 ⟨a, c, rfl, ho, hb3⟩
    have HB3 := Lib.hid (HB2.out.trans (hb3.mono HB2.out.size))
    have HI3 := Lib.hid (HI2.out.below hb3 (Nat.le_refl _))
    have HO3 : Hid (Own (Value.int .i64) 2 w3 (w.heap.size + 1) a c (numsR T)) := Lib.hid (ho.mono HI2.out.lt)
    clear hb3 HB2 HI2 ho HPO2 hc1'
    have HB4 := Lib.hid (HB3.out.alloc HB3.out.size (.cells #[.int .i64 (rdV H), .slice a (numsR T).length c] 37))
    have HI4 := HI3.out.alloc (.cells #[.int .i64 (rdV H), .slice a (numsR T).length c] 37)
    have HJ4 := Blk.new w3 #[.int .i64 (rdV H), .slice a (numsR T).length c] 37
    have HO4 := Lib.hid (HO3.out.alloc (.cells #[.int .i64 (rdV H), .slice a (numsR T).length c] 37))
    have r0 := HI4.cell (i := 0) (v := .int .i64 0) rfl
    have r1 := HI4.cell (i := 1) (v := .slice none 0 0) rfl
    have q0 := HI4.free 0
    have q1 := HI4.free 1
    have j0 := HJ4.cell (i := 0) (v := .int .i64 (rdV H)) rfl
    have j1 := HJ4.cell (i := 1) (v := .slice a (numsR T).length c) rfl
    clear HI4 HJ4 HB3 HI3 HO3
    cases h1 : rdB H with
    | false =>
      obtain ⟨rfl, rfl, rfl⟩ := HNO.out (by rw [HDEF.out, h1]; simp)
      go_upto_region 7 with (fail)
      generalize w3.alloc (.cells #[.int .i64 (rdV H), .slice a (numsR T).length c] 37) = w4 at HB4 HO4 r0 r1 q0 q1 j0 j1 ⊢
      go_wp2
      refine bodyPost_ret (v := .tuple #[.agg #[.int .i64 0, .slice none 0 0], .bool false]) (by simp [results, Tryd.results37, go_sem, r0, r1]) rfl (retZer_no ((HB4.out.setCell (by simp) _).setCell (by simp) _))
    | true =>
    cases h2 : numsB T with
    | false =>
      obtain ⟨rfl, rfl, rfl⟩ := HNO.out (by rw [HDEF.out, h2]; simp)
      go_upto_region 7 with (fail)
      generalize w3.alloc (.cells #[.int .i64 (rdV H), .slice a (numsR T).length c] 37) = w4 at HB4 HO4 r0 r1 q0 q1 j0 j1 ⊢
      go_wp2
      refine bodyPost_ret (v := .tuple #[.agg #[.int .i64 0, .slice none 0 0], .bool false]) (by simp [results, Tryd.results37, go_sem, r0, r1]) rfl (retZer_no ((HB4.out.setCell (by simp) _).setCell (by simp) _))
    | true =>
    have e1 := rdV_yes h1
    have e2 : numsR T = numsL T := by unfold numsR; rw [h2]; rfl
    rw [e1, e2] at HB4 HO4 j0 j1 r0 r1 q0 q1 ⊢
    cases h3 : zerosB (rdN H) (numsL T) with
    | false =>
      obtain ⟨rfl, rfl, rfl⟩ := HNO.out (by rw [HDEF.out, h3]; simp)
      go_upto_region 7 with (fail)
      generalize w3.alloc (.cells #[.int .i64 (rdN H), .slice a (numsL T).length c] 37) = w4 at HB4 HO4 r0 r1 q0 q1 j0 j1 ⊢
      go_wp2_with fail
      refine (l04Zeros_any HO4.out.rd j0 j1).mono ?_
      rintro e w5 ⟨rfl, rfl⟩
      rw [h3]
      go_wp2
      refine bodyPost_ret (v := .tuple #[.agg #[.int .i64 0, .slice none 0 0], .bool false]) (by simp [results, Tryd.results37, go_sem, r0, r1]) rfl (retZer_no ((HB4.out.setCell (by simp) _).setCell (by simp) _))
    | true =>
      obtain ⟨rfl, hz, hl⟩ := HYES.out (by rw [HDEF.out, HF.out h2, h1, h2, h3]; rfl)
      rw [← hz, ← hl] at HB4 HO4 j0 j1 r0 r1 q0 q1 h3 ⊢
      clear hz hl
      go_upto_region 7 with (fail)
      generalize w3.alloc (.cells #[.int .i64 rz, .slice a rl.length c] 37) = w4 at HB4 HO4 r0 r1 q0 q1 j0 j1 ⊢
      go_wp2_with fail
      refine (l04Zeros_any HO4.out.rd j0 j1).mono ?_
      rintro e w5 ⟨rfl, rfl⟩
      rw [h3]
      go_wp2
      refine bodyPost_ret (v := .tuple #[.agg #[.int .i64 rz, .slice a rl.length c], .bool true]) (by simp [results, Tryd.results37, go_sem, r0, r1]) rfl ⟨a, c, rfl, ?_, (HB4.out.setCell (by simp) _).setCell (by simp) _⟩
      refine Own.mono (base := w.heap.size + 1) ?_ (by omega)
      refine Own.setFar (Own.setFar HO4.out _ _ ?_) _ _ ?_
      all_goals simp
  · have hF : ok = false := by
      rw [HDEF.out]
      cases h2 : numsB T with
      | false => simp
      | true => exact absurd (HP2.out.2 (HF.out h2) (HSE.out h2)) hl
    obtain ⟨rfl, rfl, rfl⟩ := HNO.out hF
    have r0 := HI1.out.cell (i := 0) (v := .int .i64 0) rfl
    have r1 := HI1.out.cell (i := 1) (v := .slice none 0 0) rfl
    have q0 := HI1.out.free 0
    have q1 := HI1.out.free 1
    have hln : ((P.length : Int) == 2) = false := beq_eq_false_iff_ne.2 (by omega)
    have hln2 : ((P.length : Int) != 2) = true := by show (!((P.length : Int) == 2)) = true; rw [hln]; rfl
    clear hix
    go_wp2
    refine bodyPost_ret (v := .tuple #[.agg #[.int .i64 0, .slice none 0 0], .bool false]) (by simp [results, Tryd.results37, go_sem, r0, r1]) rfl (retZer_no ((HB1.out.setCell (by simp) _).setCell (by simp) _))

theorem readZeros_len (s : ByteArray) : (rzL s).length ≤ 1048576 := by
  unfold rzL
  split
  · rename_i h
    unfold rzB at h
    simp only [Bool.and_eq_true] at h
    have := (numsB_all h.1.2).2
    rw [numsL_len]; omega
  · simp

set_option maxHeartbeats 1000000 in
theorem specRz_any {t : ByteArray} {w : World} (hs : t.size ≤ 1048576) :
    Calls Tryd.prog 17 #[.string t] w (RetZer w (rzZ t) (rzL t) (rzB t)) := by
  have HB0 := Lib.hid ((Below.refl w.heap.size w).alloc (Nat.le_refl _) (.cells #[.int .i64 0, .slice none 0 0] 37))
  have HI0 : Hid (Blk (w.alloc (.cells #[.int .i64 0, .slice none 0 0] 37)) w.heap.size #[.int .i64 0, .slice none 0 0] 37) := Lib.hid (Blk.new _ _ _)
  have HC := Lib.hid (specReadZeros_any (t := t) (w := w.alloc (.cells #[.int .i64 0, .slice none 0 0] 37)) hs)
  generalize rzZ t = Z at HC ⊢
  generalize rzL t = zs at HC ⊢
  generalize rzB t = b at HC ⊢
  go_enter Tryd.func17, Tryd.ntmps17
  go_wp2_with fail
  refine HC.out.mono ?_
  rintro e w1 ⟨a, c, rfl, ho, hb1⟩
  have HB1 := Lib.hid (HB0.out.trans (hb1.mono HB0.out.size))
  have HI1 := HI0.out.below hb1 (Nat.le_refl _)
  have HO1 : Hid (Own (Value.int .i64) 2 w1 (w.heap.size + 1) a c zs) := Lib.hid (ho.mono (by simp))
  have r0 := HI1.cell (i := 0) (v := .int .i64 0) rfl
  have r1 := HI1.cell (i := 1) (v := .slice none 0 0) rfl
  have q0 := HI1.free 0
  have q1 := HI1.free 1
  clear hb1 HB0 HI0 HI1 ho HC
  go_wp2
  refine bodyPost_ret (v := .tuple #[.agg #[.int .i64 Z, .slice a zs.length c], .bool b]) (by simp [results, Tryd.results17, go_sem, r0, r1]) rfl ⟨a, c, rfl, ?_, (HB1.out.setCell (by simp) _).setCell (by simp) _⟩
  refine Own.mono (base := w.heap.size + 1) ?_ (by omega)
  refine Own.setFar (Own.setFar HO1.out _ _ ?_) _ _ ?_
  all_goals simp

end Go.Proofs.YtmmpemfhbnkomaaDoor
