/- Reading numbers and lists of numbers, in the program's text. Reading numbers and lists of numbers, in the reference's text. -/
import Derived.Test.YtmmpemfhbnkomaaDoorQRj19
import Derived.Test.YtmmpemfhbnkomaaDoorQRj12
import Derived.Test.YtmmpemfhbnkomaaDoorQRj11
import Derived.Test.YtmmpemfhbnkomaaDoorQRj0
import Derived.Lib.ParseIntBTie
import Derived.Lib.ParseIntBMem
set_option linter.unusedVariables false
set_option linter.unusedSimpArgs false
namespace Go.Proofs.YtmmpemfhbnkomaaDoor
open Go.RowKit

/-- The library's two errors lie in their variables. -/
def ETab (w : World) : Prop := (∃ t p, w.cell? ⟨1, 0, none⟩ = some (.iface t p)) ∧ (∃ t p, w.cell? ⟨2, 0, none⟩ = some (.iface t p))
theorem ETab.below {w w' : World} (h : ETab w) {B : Nat} (hb : Below B w w') (hB : w.heap.size ≤ B) : ETab w' := by
  obtain ⟨⟨t, p, h1⟩, ⟨t2, p2, h2⟩⟩ := h
  exact ⟨⟨t, p, k_below hb hB h1⟩, ⟨t2, p2, k_below hb hB h2⟩⟩

/-- Two rows of different types are two blocks. -/
theorem sep_of_type {α β : Type} {f : α → Value} {g : β → Value} {e e2 : TypeId} {w : World} {b b2 : Nat} {a a2 : Option Addr} {c c2 : Nat} {xs : List α} {ys : List β} (h : Own f e w b a c xs) (h2 : Own g e2 w b2 a2 c2 ys) (hne : e ≠ e2) : Sep a a2 := by
  intro p q hp hq hpq
  rcases h.shape with ⟨rfl, _, _⟩ | ⟨x, rfl, _, _, _, _, cur, hx, _, _⟩
  · simp at hp
  · rcases h2.shape with ⟨rfl, _, _⟩ | ⟨y, rfl, _, _, _, _, cur2, hy, _, _⟩
    · simp at hq
    · simp at hp hq
      subst hp; subst hq
      simp at hpq
      subst hpq
      rw [hx] at hy
      simp at hy
      exact hne hy.2

theorem parseInt_any {s : ByteArray} {w : World} (hE : ETab w) (hs : s.size ≤ 1048576) :
    Calls Tryd.prog 61 #[.string s, .int .i64 10, .int .i64 64] w fun e w' =>
      ((∃ v, Lib.parseIntB 64 s.data.toList = .ok v ∧ e = .returned (.tuple #[.int .i64 v, .nilIface])) ∨ ((∀ v, Lib.parseIntB 64 s.data.toList ≠ .ok v) ∧ ∃ v t p, e = .returned (.tuple #[.int .i64 v, .iface t (.pointer (some p))]))) ∧ Below w.heap.size w w' := by
  obtain ⟨⟨t, p, h1⟩, ⟨t2, p2, h2⟩⟩ := hE
  cases hp : Lib.parseIntB 64 s.data.toList with
  | ok v =>
    refine (Tryd.strconv_ParseInt_10_at64_ok s (by omega) v hp w).mono ?_
    rintro e w' ⟨rfl, hw⟩
    refine ⟨.inl ⟨v, rfl, rfl⟩, ?_⟩
    rcases hw with rfl | ⟨t, rfl⟩
    · exact Below.refl _ _
    · exact Lib.bytesWorld_below _ _ _
  | range =>
    refine (Tryd.strconv_ParseInt_10_at64_range s (by omega) hp _ w h2 (.inr ⟨t2, p2, rfl⟩)).mono ?_
    rintro e w' ⟨N, rfl, _, _, hb⟩
    exact ⟨.inr ⟨fun v h => (by cases h), _, _, _, rfl⟩, hb⟩
  | _ =>
    refine (Tryd.strconv_ParseInt_10_at64_bad s (by omega) (fun v e => (by rw [hp] at e; cases e)) (fun e => (by rw [hp] at e; cases e)) _ w h1 (.inr ⟨t, p, rfl⟩)).mono ?_
    rintro e w' ⟨N, rfl, _, _, hb⟩
    exact ⟨.inr ⟨fun v h => (by cases h), _, _, _, rfl⟩, hb⟩

set_option maxHeartbeats 2000000 in
theorem implReadDecimal_any {s : ByteArray} {w : World} (hT : PTab w) (hE : ETab w) (hs : s.size ≤ 1048576) :
    Calls Tryd.prog 38 #[.string s] w fun e w' => e = .returned (.tuple #[.int .i64 (rdV s), .bool (rdB s)]) ∧ Below w.heap.size w w' := by
  obtain ⟨rb, hrb⟩ : ∃ b, rdB s = b := ⟨_, rfl⟩
  obtain ⟨rv, hrv⟩ : ∃ v, rdV s = v := ⟨_, rfl⟩
  have HNO : Hid (rdB s = false → rb = false ∧ rv = 0) := Lib.hid (fun h => ⟨hrb ▸ h, hrv ▸ rdV_no h⟩)
  have HYES : Hid (rdB s = true → rb = true ∧ rv = rdN s) := Lib.hid (fun h => ⟨hrb ▸ h, hrv ▸ rdV_yes h⟩)
  have HP := Lib.hid (parseInt_any hE hs)
  have HT := Lib.hid hT
  rw [hrb, hrv]
  clear hrb hrv hT hE
  go_enter Tryd.func38, Tryd.ntmps38
  go_wp2_with fail
  refine HP.out.mono ?_
  rintro e w1 ⟨he, hb1⟩
  have HB1 := Lib.hid hb1
  clear hb1 HP
  rcases he with ⟨v, hp, rfl⟩ | ⟨hp, v, t, p, rfl⟩
  · have hrd := rd_of_parse hp
    have HRD := Lib.hid hrd
    clear hp hrd
    cases hv : valR v with
    | false =>
      have h0 := HNO.out (by rw [HRD.out.1, hv]; rfl)
      obtain ⟨rfl, rfl⟩ := h0
      go_wp2_with fail
      refine isValue_any.mono ?_
      rintro e w2 ⟨rfl, rfl⟩
      rw [hv]
      go_wp2
      go_ret2
      exact ⟨rfl, HB1.out⟩
    | true =>
      have hvi := valR_iff.1 hv
      have hbq := tl_beq (decT v) s
      have HD := Lib.hid (decimal_any (n := v) (HT.out.below HB1.out (Nat.le_refl _)) (by omega) (by omega))
      go_wp2_with fail
      refine isValue_any.mono ?_
      rintro e w2 ⟨rfl, rfl⟩
      rw [hv]
      go_wp2_with fail
      refine HD.out.mono ?_
      rintro e w2 ⟨rfl, hb2⟩
      have HB2 := Lib.hid (HB1.out.trans (hb2.mono HB1.out.size))
      clear hb2 HD
      by_cases hd : decT v = s
      · have h0 := HRD.out.1
        rw [hv, decide_eq_true hd] at h0
        have h1 := HYES.out h0
        rw [HRD.out.2 h0] at h1
        obtain ⟨rfl, rfl⟩ := h1
        rw [decide_eq_true hd] at hbq
        have hbq2 : (!((decT rv).toList == s.toList)) = false := by rw [hbq]; rfl
        have hbq3 : ((decT rv).toList != s.toList) = false := hbq2
        clear hd h0
        generalize decT rv = d at hbq hbq2 hbq3 ⊢
        go_wp2
        go_ret2
        exact ⟨rfl, HB2.out⟩
      · have h0 := HRD.out.1
        rw [hv, decide_eq_false hd] at h0
        obtain ⟨rfl, rfl⟩ := HNO.out h0
        rw [decide_eq_false hd] at hbq
        have hbq2 : (!((decT v).toList == s.toList)) = true := by rw [hbq]; rfl
        have hbq3 : ((decT v).toList != s.toList) = true := hbq2
        clear hd h0
        generalize decT v = d at hbq hbq2 hbq3 ⊢
        go_wp2
        go_ret2
        exact ⟨rfl, HB2.out⟩
  · obtain ⟨rfl, rfl⟩ := HNO.out (rd_of_fail hp)
    clear hp
    go_wp2
    go_ret2
    exact ⟨rfl, HB1.out⟩

set_option maxHeartbeats 1000000 in
theorem pieces_any {s : ByteArray} {w : World} (hM : MLen w) (hs : s.size ≤ 1048576) :
    Calls Tryd.prog 74 #[.string s] w fun e w' => ∃ a c, e = .returned (.slice a (pcs s).length c) ∧ Own Value.string 9 w' w.heap.size a c (pcs s) ∧ Below w.heap.size w w' := by
  have hbq : (s.toList == [110, 111, 110, 101]) = decide (s = noneT) := by rw [← tl_beq, tl_eq noneT]; rfl
  by_cases h : s = noneT
  · have e : pcs s = [] := by unfold pcs; rw [if_pos h]
    rw [e]
    rw [decide_eq_true h] at hbq
    clear h e
    go_enter Tryd.func74, Tryd.ntmps74
    go_wp2
    go_ret
    exact ⟨none, 0, rfl, own_nil Value.string 9 w _, Below.refl _ _⟩
  · have e : pcs s = parts s 44 := by unfold pcs; rw [if_neg h]
    rw [e]
    rw [decide_eq_false h] at hbq
    have HSP := Lib.hid (split_any 44 hM hs)
    generalize parts s 44 = P at HSP ⊢
    clear h e
    go_enter Tryd.func74, Tryd.ntmps74
    go_wp2_with fail
    refine HSP.out.mono ?_
    rintro e w1 ⟨a, c, rfl, ho, hb1⟩
    have HO := Lib.hid ho
    have HB := Lib.hid hb1
    clear ho hb1
    go_wp2
    go_ret
    exact ⟨a, c, rfl, HO.out, HB.out⟩

theorem pcs_len {s : ByteArray} : (pcs s).length ≤ s.size + 1 := by
  unfold pcs
  split
  · simp
  · exact (parts_len s 44).2
theorem mem_size {s p : ByteArray} (m : UInt8) (h : p ∈ parts s m) : p.size ≤ s.size := by
  have key : ∀ (l : List UInt8) (q : List UInt8), q ∈ sp m l → q.length ≤ l.length := by
    intro l
    induction l with
    | nil => intro q hq; simp [sp] at hq; subst hq; simp
    | cons b l ih =>
      intro q hq
      unfold sp at hq
      by_cases hb : b = m
      · rw [if_pos hb, List.mem_cons] at hq
        rcases hq with rfl | hq
        · simp
        · have := ih q hq; simp; omega
      · rw [if_neg hb] at hq
        obtain ⟨x, xs, hx⟩ := sp_ne m l
        rw [hx] at hq ih
        simp only [consH, List.mem_cons] at hq
        rcases hq with rfl | hq
        · have := ih x (List.mem_cons_self ..); simp; omega
        · have := ih q (List.mem_cons_of_mem _ hq); simp; omega
  have h2 : toL p ∈ sp m (toL s) := by rw [← parts_toL']; exact List.mem_map_of_mem h
  have := key _ _ h2
  rw [toL_len, toL_len] at this
  exact this
theorem pcs_size {s p : ByteArray} (h : p ∈ pcs s) : p.size ≤ s.size := by
  unfold pcs at h
  split at h
  · simp at h
  · exact mem_size 44 h

/-- readList. -/
def rlB (s : ByteArray) : Bool := (pcs s).all rdB
def rlR (s : ByteArray) : List Int := if rlB s then numsL s else []
set_option maxHeartbeats 2000000 in
theorem readList_any {s : ByteArray} {w : World} (hT : PTab w) (hE : ETab w) (hM : MLen w) (hs : s.size ≤ 1048576) :
    Calls Tryd.prog 56 #[.string s] w fun e w' => RetSB (Value.int .i64) 2 w (rlR s) (rlB s) e w' := by
  have hpl := pcs_len (s := s)
  have HPS : Hid (∀ p ∈ pcs s, p.size ≤ 1048576) := Lib.hid (fun p hp => Nat.le_trans (pcs_size hp) hs)
  have HB0 := Lib.hid ((Below.refl w.heap.size w).alloc (Nat.le_refl _) (.cells #[] 2))
  have HO0 : Hid (Own (Value.int .i64) 2 (w.alloc (.cells #[] 2)) w.heap.size (some ⟨w.heap.size, 0, none⟩) 0 []) := Lib.hid (own_empty w _ (Nat.le_refl _) rfl)
  have HM := Lib.hid (hM.below HB0.out (Nat.le_refl _))
  have HT := Lib.hid hT
  have HE := Lib.hid hE
  have HPC := Lib.hid (pieces_any HM.out hs)
  obtain ⟨rb, hrb⟩ : ∃ b, rlB s = b := ⟨_, rfl⟩
  obtain ⟨rr, hrr⟩ : ∃ r, rlR s = r := ⟨_, rfl⟩
  have HNO : Hid (∀ p ∈ pcs s, rdB p = false → rb = false ∧ rr = []) := Lib.hid (fun p hp h => by
    have h1 : rlB s = false := by unfold rlB; rw [List.all_eq_false]; exact ⟨p, hp, by rw [h]; simp⟩
    refine ⟨hrb ▸ h1, ?_⟩
    rw [← hrr]; unfold rlR; rw [h1]; rfl)
  have HYES : Hid ((∀ p ∈ pcs s, (!rdB p) = false) → rb = true ∧ rr = (pcs s).map rdN) := Lib.hid (fun h => by
    have h1 : rlB s = true := by unfold rlB; rw [List.all_eq_true]; intro p hp; simpa using h p hp
    refine ⟨hrb ▸ h1, ?_⟩
    rw [← hrr]; unfold rlR; rw [h1]; rfl)
  rw [hrb, hrr]
  clear hrb hrr hT hE hM
  generalize pcs s = P at hpl HPS HPC HNO HYES
  go_enter Tryd.func56, Tryd.ntmps56
  go_wp2_with fail
  refine HPC.out.mono ?_
  rintro e w1 ⟨pa, pc, rfl, hpo, hb1⟩
  have hr := hpo.rd
  have HB1 := Lib.hid (HB0.out.trans (hb1.mono HB0.out.size))
  have HO1 : Hid (Own (Value.int .i64) 2 w1 w.heap.size (some ⟨w.heap.size, 0, none⟩) 0 []) := Lib.hid (HO0.out.below hb1 (Nat.le_refl _))
  have HR := Lib.hid hpo
  have hix := hr.idx und_ss siz_ss
  clear hb1 HPC HB0 HO0 hr HM hpo
  go_wp2
  go_loopw [4, 6, 7, 8, 13] (fun oi _ _ _ vi wr => ∃ (k : Nat) (a : Option Addr) (c : Nat) (out : List Int), vi = .int .i64 k ∧ k ≤ P.length ∧ oi = .slice a out.length c ∧ out.length ≤ k ∧ Hid (out = (P.take k).map rdN) ∧ Hid (∀ p ∈ P.take k, (!rdB p) = false) ∧ Hid (Own (Value.int .i64) 2 wr w.heap.size a c out ∧ Below w.heap.size w wr ∧ Own Value.string 9 wr (w.alloc (.cells #[] 2)).heap.size pa pc P)) (fun _ _ _ _ vi _ => P.length - (intOf vi).toNat)
  case atStart => exact ⟨0, _, _, [], rfl, Nat.zero_le _, rfl, Nat.le_refl _, Lib.hid rfl, Lib.hid (by simp), Lib.hid ⟨HO1.out, HB1.out, HR.out⟩⟩
  case round =>
    clear HO1 HB1 HR
    obtain ⟨k, a, c, out, rfl, hk, rfl, hol, HOUT, HALL, HI⟩ := hrel
    have hbw : w.heap.size ≤ wr.heap.size := HI.out.2.1.size
    by_cases hlt : k < P.length
    · have hltz : (k : Int) < (P.length : Int) := by omega
      have hcx := HI.out.2.2.cell k hlt
      have ewk : IntKind.i64.wrap ((k : Int) + 1) = (k : Int) + 1 := IntWalk.i64_in _ (by omega)
      have HNO1 : Hid (rdB P[k] = false → rb = false ∧ rr = []) := Lib.hid (HNO.out P[k] (List.getElem_mem hlt))
      have HAL1 : Hid (rdB P[k] = true → ∀ p ∈ P.take (k + 1), (!rdB p) = false) := Lib.hid (fun h => snoc_none (p := fun x => !rdB x) hlt HALL.out (by show (!rdB P[k]) = false; rw [h]; rfl))
      have HOU1 : Hid ((P.take (k + 1)).map rdN = out ++ [rdN P[k]]) := Lib.hid (by rw [List.take_add_one, List.getElem?_eq_getElem hlt, List.map_append, ← HOUT.out]; rfl)
      have HPK : Hid (P[k].size ≤ 1048576) := Lib.hid (HPS.out P[k] (List.getElem_mem hlt))
      generalize P[k] = x at hcx HNO1 HAL1 HOU1 HPK
      cases hv : rdB x with
      | false =>
        obtain ⟨rfl, rfl⟩ := HNO1.out hv
        go_wp2_with fail
        refine (implReadDecimal_any (HT.out.below HI.out.2.1 (Nat.le_refl _)) (HE.out.below HI.out.2.1 (Nat.le_refl _)) HPK.out).mono ?_
        rintro e w2 ⟨rfl, hb2⟩
        rw [hv]
        have HB2 := Lib.hid (HI.out.2.1.trans (hb2.mono hbw))
        clear hb2
        go_wp2
        go_ret2
        exact retSB_no HB2.out
      | true =>
        have hal := Lib.hid (HAL1.out hv)
        have hrv := rdV_yes hv
        have HRV := Lib.hid hrv
        clear hrv
        go_wp2_with fail
        refine (implReadDecimal_any (HT.out.below HI.out.2.1 (Nat.le_refl _)) (HE.out.below HI.out.2.1 (Nat.le_refl _)) HPK.out).mono ?_
        rintro e w2 ⟨rfl, hb2⟩
        rw [hv, HRV.out]
        have HI2 : Hid (Own (Value.int .i64) 2 w2 w.heap.size a c out ∧ Below w.heap.size w w2 ∧ Own Value.string 9 w2 (w.alloc (.cells #[] 2)).heap.size pa pc P) := Lib.hid ⟨HI.out.1.below hb2 (Nat.le_refl _), HI.out.2.1.trans (hb2.mono hbw), HI.out.2.2.below hb2 (Nat.le_refl _)⟩
        have hbw2 : w.heap.size ≤ w2.heap.size := HI2.out.2.1.size
        clear hb2 HI hcx
        generalize rdN x = n at HOU1 ⊢
        go_wp2_with (at_builtin; refine wpl_append1 (f := Value.int .i64) (d := 0) (base := w.heap.size) und_ise info_i (fun _ => rfl) n HI2.out.1 rfl _ _ rfl rfl rfl (by omega) (by omega) hbw2 ?_; intro a3 c3 w3 ho3 hg3; have HO3 := Lib.hid ho3; have HR3 := Lib.hid (HI2.out.2.2.keptS hg3 (sep_of_type HI2.out.2.2 HI2.out.1 (by decide))); have HB3 := Lib.hid (HI2.out.2.1.trans (grown_belowOwn HI2.out.1 hg3 (Nat.le_refl _) hbw2)); clear ho3 hg3)
        go_roundw
        case rel => exact ⟨k + 1, a3, c3, out ++ [n], by go_num, by omega, by simp, by simp; omega, Lib.hid HOU1.out.symm, hal, Lib.hid ⟨HO3.out, HB3.out, HR3.out⟩⟩
        case measure => simp [intOf]; omega
    · obtain rfl : k = P.length := by omega
      have hltz : ¬ (P.length : Int) < (P.length : Int) := by omega
      have hyes := HYES.out (fun p hp => HALL.out p (by rw [List.take_length]; exact hp))
      have hou := HOUT.out
      rw [List.take_length] at hou
      rw [← hou] at hyes
      obtain ⟨rfl, rfl⟩ := hyes
      clear hou
      go_wp2
      go_ret2
      exact ⟨a, c, rfl, HI.out.1, HI.out.2.1⟩

theorem rl_nums (s : ByteArray) : numsB s = (rlB s && decide ((rlR s).length ≤ 64)) := by
  unfold numsB
  cases h : rlB s with
  | false => have h2 : (pcs s).all rdB = false := h; rw [h2]; rfl
  | true =>
    have h2 : (pcs s).all rdB = true := h
    have h3 : (rlR s).length = (pcs s).length := by unfold rlR; rw [h]; exact numsL_len s
    rw [h2, h3]
theorem numsR_yes {s : ByteArray} (h : numsB s = true) : numsR s = rlR s := by
  have h2 := rl_nums s
  rw [h] at h2
  have h3 : rlB s = true := by
    cases hb : rlB s with
    | true => rfl
    | false => rw [hb] at h2; simp at h2
  unfold numsR rlR
  rw [h, h3]
theorem numsR_no {s : ByteArray} (h : numsB s = false) : numsR s = [] := by unfold numsR; rw [h]; rfl

set_option maxHeartbeats 1000000 in
theorem implReadList_any {s : ByteArray} {w : World} (hT : PTab w) (hE : ETab w) (hM : MLen w) (hs : s.size ≤ 1048576) :
    Calls Tryd.prog 32 #[.string s] w fun e w' => RetSB (Value.int .i64) 2 w (numsR s) (numsB s) e w' := by
  have HC := Lib.hid (readList_any hT hE hM hs)
  have HN := Lib.hid (rl_nums s)
  have hno := fun h => numsR_no (s := s) h
  have hyes := fun h => numsR_yes (s := s) h
  have HNO := Lib.hid hno
  have HYES := Lib.hid hyes
  clear hT hE hM hno hyes
  generalize numsR s = R at HNO HYES ⊢
  generalize numsB s = B at HN HNO HYES ⊢
  generalize rlR s = r at HC HN HYES
  generalize rlB s = b at HC HN
  go_enter Tryd.func32, Tryd.ntmps32
  go_wp2_with fail
  refine HC.out.mono ?_
  rintro e w1 ⟨a, c, rfl, ho, hb1⟩
  have HO := Lib.hid ho
  have HB := Lib.hid hb1
  clear ho hb1 HC
  cases b with
  | false =>
    obtain rfl := HN.out
    obtain rfl := HNO.out (by simp)
    go_wp2
    go_ret2
    exact retSB_no HB.out
  | true =>
    by_cases hl : r.length ≤ 64
    · have hd : decide ((64 : Int) < (r.length : Int)) = false := decide_eq_false (by omega)
      have hB : B = true := by rw [HN.out, decide_eq_true hl]; rfl
      subst hB
      obtain rfl := HYES.out rfl
      go_wp2
      go_ret2
      exact ⟨a, c, rfl, HO.out, HB.out⟩
    · have hd : decide ((64 : Int) < (r.length : Int)) = true := decide_eq_true (by omega)
      have hB : B = false := by rw [HN.out, decide_eq_false hl]; rfl
      subst hB
      obtain rfl := HNO.out rfl
      go_wp2
      go_ret2
      exact retSB_no HB.out

end Go.Proofs.YtmmpemfhbnkomaaDoor

namespace Go.Proofs.YtmmpemfhbnkomaaDoor
open Go.RowKit

set_option maxHeartbeats 2000000 in
theorem l01Value_any {s : ByteArray} {w : World} (hs : s.size ≤ 1048576) :
    Calls Tryd.prog 59 #[.string s] w fun e w' => e = .returned (.tuple #[.int .i64 (rdV s), .bool (rdB s)]) ∧ Below w.heap.size w w' := by
  obtain ⟨rb, hrb⟩ : ∃ b, rdB s = b := ⟨_, rfl⟩
  obtain ⟨rv, hrv⟩ : ∃ v, rdV s = v := ⟨_, rfl⟩
  have hno : rdB s = false → rb = false ∧ rv = 0 := fun h => ⟨hrb ▸ h, hrv ▸ rdV_no h⟩
  have HYES : Hid (rdB s = true → rb = true ∧ rv = rdN s) := Lib.hid (fun h => ⟨hrb ▸ h, hrv ▸ rdV_yes h⟩)
  rw [hrb, hrv]
  clear hrb hrv
  by_cases hsz : 1 ≤ s.size ∧ s.size ≤ 17
  · have hd1 : decide ((s.size : Int) < 1) = false := decide_eq_false (by omega)
    have hd2 : decide ((17 : Int) < (s.size : Int)) = false := decide_eq_false (by omega)
    have HNO := Lib.hid hno
    have hBD : ∀ k, k ≤ 17 → 0 ≤ fdN s k ∧ fdN s k < 100000000000000000 := fun k hk => by
      have := fdN_bd s k
      have h17 : (10 : Nat) ^ k ≤ 10 ^ 17 := Nat.pow_le_pow_right (by decide) hk
      have h18 : (10 : Nat) ^ 17 = 100000000000000000 := by decide
      have h19 : ((10 ^ k : Nat) : Int) = (10 : Int) ^ k := by simp
      omega
    have HBD := Lib.hid hBD
    have HS : Hid (∀ k, fdN s (k + 1) = digF (fdN s k) (byt s k)) := Lib.hid (fun _ => rfl)
    have H0 : Hid (fdN s 0 = 0) := Lib.hid rfl
    have HRN : Hid (∀ z, fdN s s.size = z → rdN s = if byt s 0 = 45 then -z else z) := Lib.hid (fun z hz => by unfold rdN; rw [hz])
    have HRB : Hid (rdB s = (valR (rdN s) && decide (decT (rdN s) = s))) := Lib.hid rfl
    clear hno hBD
    generalize fdN s = D at HBD HS H0 HRN
    go_enter Tryd.func59, Tryd.ntmps59
    go_wp2
    go_loopw [4, 5] (fun ni vi wr => ∃ k : Nat, vi = .int .i64 k ∧ k ≤ s.size ∧ ni = .int .i64 (D k) ∧ Hid (wr = w)) (fun _ vi _ => s.size - (intOf vi).toNat)
    case atStart => exact ⟨0, rfl, Nat.zero_le _, by rw [H0.out], Lib.hid rfl⟩
    case round =>
      obtain ⟨k, rfl, hk, rfl, HW⟩ := hrel
      obtain rfl := HW.out
      clear HW
      by_cases hlt : k < s.size
      · have hltz : (k : Int) < (s.size : Int) := by omega
        have hbe := byt_eq hlt
        have ewk : IntKind.i64.wrap ((k : Int) + 1) = (k : Int) + 1 := IntWalk.i64_in _ (by omega)
        have HS1 := Lib.hid (HS.out k)
        have hb1 := HBD.out k (by omega)
        have hbl := byt_lt s k
        obtain ⟨x, hx⟩ : ∃ x, byt s k = x := ⟨_, rfl⟩
        rw [hx] at hbe HS1 hbl
        obtain ⟨z, hz⟩ : ∃ z, D k = z := ⟨_, rfl⟩
        rw [hz] at hb1 HS1 ⊢
        clear hx hz
        by_cases hd : 48 ≤ x ∧ x ≤ 57
        · have h1 : decide ((48 : Int) ≤ (x : Int)) = true := decide_eq_true (by omega)
          have h2 : decide ((x : Int) ≤ 57) = true := decide_eq_true (by omega)
          have HZ : Hid (D (k + 1) = 10 * z + ((x : Int) - 48)) := Lib.hid (by rw [HS1.out]; unfold digF; rw [if_pos hd])
          have e1 : IntKind.i64.wrap (10 * z) = 10 * z := IntWalk.i64_in _ (by omega)
          have e2 : IntKind.u8.wrap ((x : Int) - 48) = (x : Int) - 48 := by rw [IntKind.wrap_u8']; omega
          have e3 : IntKind.i64.wrap ((x : Int) - 48) = (x : Int) - 48 := IntWalk.i64_in _ (by omega)
          have e4 : IntKind.i64.wrap (10 * z + ((x : Int) - 48)) = 10 * z + ((x : Int) - 48) := IntWalk.i64_in _ (by omega)
          clear hd
          go_wp2
          go_roundw
          case rel => exact ⟨k + 1, by go_num, by omega, by rw [HZ.out], Lib.hid trivial⟩
          case measure => simp [intOf]; omega
        · have HZ : Hid (D (k + 1) = z) := Lib.hid (by rw [HS1.out]; unfold digF; rw [if_neg hd])
          by_cases h48 : 48 ≤ x
          · have h1 : decide ((48 : Int) ≤ (x : Int)) = true := decide_eq_true (by omega)
            have h2 : decide ((x : Int) ≤ 57) = false := decide_eq_false (by omega)
            clear hd
            go_wp2
            go_roundw
            case rel => exact ⟨k + 1, by go_num, by omega, by rw [HZ.out], Lib.hid trivial⟩
            case measure => simp [intOf]; omega
          · have h1 : decide ((48 : Int) ≤ (x : Int)) = false := decide_eq_false (by omega)
            clear hd
            go_wp2
            go_roundw
            case rel => exact ⟨k + 1, by go_num, by omega, by rw [HZ.out], Lib.hid trivial⟩
            case measure => simp [intOf]; omega
      · obtain rfl : k = s.size := by omega
        have hltz : ¬ (s.size : Int) < (s.size : Int) := by omega
        have hb1 := HBD.out s.size hsz.2
        obtain ⟨z, hz⟩ : ∃ z, D s.size = z := ⟨_, rfl⟩
        have HRZ := Lib.hid (HRN.out z hz)
        rw [hz] at hb1 ⊢
        have hlt0 : 0 < s.size := by omega
        have hltz0 : (0 : Int) < (s.size : Int) := by omega
        have hbe := byt_eq hlt0
        obtain ⟨x, hx⟩ : ∃ x, byt s 0 = x := ⟨_, rfl⟩
        rw [hx] at hbe HRZ
        have e0 : IntKind.i64.wrap (-z) = -z := IntWalk.i64_in _ (by omega)
        -- what is left once the number stands
        have key : ∀ n : Int, -100000000000000000 < n ∧ n < 100000000000000000 → rdN s = n → (valR n = false → rb = false ∧ rv = 0) ∧ (valR n = true → decT n ≠ s → rb = false ∧ rv = 0) ∧ (valR n = true → decT n = s → rb = true ∧ rv = n) := by
          intro n _ hn
          refine ⟨fun h => HNO.out (by rw [HRB.out, hn, h]; rfl), fun h h2 => HNO.out (by rw [HRB.out, hn, h, decide_eq_false h2]; rfl), fun h h2 => ?_⟩
          have := HYES.out (by rw [HRB.out, hn, h, decide_eq_true h2]; rfl)
          rw [hn] at this
          exact this
        have KEY := Lib.hid key
        clear hx hz key
        by_cases h45 : x = 45
        · have hm : ((x : Int) == 45) = true := by simp [h45]
          have hrn : rdN s = -z := by rw [HRZ.out, if_pos h45]
          have KK := Lib.hid (KEY.out (-z) (by omega) hrn)
          have hbn : -100000000000000000 < -z ∧ -z < 100000000000000000 := by omega
          clear hrn KEY h45 hb1
          obtain ⟨n, hn⟩ : ∃ n, -z = n := ⟨_, rfl⟩
          rw [hn] at KK hbn e0
          have HDT := Lib.hid (fun w => l01Dec_any (n := n) (w := w) (by omega) (by omega))
          cases hv : valR n with
          | false =>
            obtain ⟨rfl, rfl⟩ := KK.out.1 hv
            have hv2 : inR n (-1000000000000000) 1000000000000000 = false := hv
            go_wp2_with fail
            refine (l00In_any _ _ _ _).mono ?_
            rintro e w2 ⟨rfl, rfl⟩
            first | rw [hv2] | (rw [hn, hv2])
            go_wp2
            go_ret2
            exact ⟨rfl, Below.refl _ _⟩
          | true =>
            have hv2 : inR n (-1000000000000000) 1000000000000000 = true := hv
            have hbq := tl_beq (decT n) s
            go_wp2_with fail
            refine (l00In_any _ _ _ _).mono ?_
            rintro e w2 ⟨rfl, rfl⟩
            first | rw [hv2] | (rw [hn, hv2])
            go_wp2_with fail
            refine (HDT.out _).mono ?_
            rintro e w2 ⟨rfl, hb2⟩
            have HB2 := Lib.hid hb2
            clear hb2 HDT
            by_cases hd : decT n = s
            · obtain ⟨rfl, rfl⟩ := KK.out.2.2 hv hd
              rw [decide_eq_true hd] at hbq
              have hbq3 : ((decT rv).toList != s.toList) = false := by show (!((decT rv).toList == s.toList)) = false; rw [hbq]; rfl
              clear hd
              generalize decT rv = d at hbq hbq3 ⊢
              go_wp2
              go_ret2
              exact ⟨rfl, HB2.out⟩
            · obtain ⟨rfl, rfl⟩ := KK.out.2.1 hv hd
              rw [decide_eq_false hd] at hbq
              have hbq3 : ((decT n).toList != s.toList) = true := by show (!((decT n).toList == s.toList)) = true; rw [hbq]; rfl
              clear hd
              generalize decT n = d at hbq hbq3 ⊢
              go_wp2
              go_ret2
              exact ⟨rfl, HB2.out⟩
        · have hm : ((x : Int) == 45) = false := by simp; omega
          have hrn : rdN s = z := by rw [HRZ.out, if_neg h45]
          have KK := Lib.hid (KEY.out z (by omega) hrn)
          have hbn : -100000000000000000 < z ∧ z < 100000000000000000 := by omega
          clear hrn KEY h45 hb1 e0
          have HDT := Lib.hid (fun w => l01Dec_any (n := z) (w := w) (by omega) (by omega))
          cases hv : valR z with
          | false =>
            obtain ⟨rfl, rfl⟩ := KK.out.1 hv
            have hv2 : inR z (-1000000000000000) 1000000000000000 = false := hv
            go_wp2_with fail
            refine (l00In_any _ _ _ _).mono ?_
            rintro e w2 ⟨rfl, rfl⟩
            rw [hv2]
            go_wp2
            go_ret2
            exact ⟨rfl, Below.refl _ _⟩
          | true =>
            have hv2 : inR z (-1000000000000000) 1000000000000000 = true := hv
            have hbq := tl_beq (decT z) s
            go_wp2_with fail
            refine (l00In_any _ _ _ _).mono ?_
            rintro e w2 ⟨rfl, rfl⟩
            rw [hv2]
            go_wp2_with fail
            refine (HDT.out _).mono ?_
            rintro e w2 ⟨rfl, hb2⟩
            have HB2 := Lib.hid hb2
            clear hb2 HDT
            by_cases hd : decT z = s
            · obtain ⟨rfl, rfl⟩ := KK.out.2.2 hv hd
              rw [decide_eq_true hd] at hbq
              have hbq3 : ((decT rv).toList != s.toList) = false := by show (!((decT rv).toList == s.toList)) = false; rw [hbq]; rfl
              clear hd
              generalize decT rv = d at hbq hbq3 ⊢
              go_wp2
              go_ret2
              exact ⟨rfl, HB2.out⟩
            · obtain ⟨rfl, rfl⟩ := KK.out.2.1 hv hd
              rw [decide_eq_false hd] at hbq
              have hbq3 : ((decT z).toList != s.toList) = true := by show (!((decT z).toList == s.toList)) = true; rw [hbq]; rfl
              clear hd
              generalize decT z = d at hbq hbq3 ⊢
              go_wp2
              go_ret2
              exact ⟨rfl, HB2.out⟩
  · obtain ⟨rfl, rfl⟩ := hno (by
      cases hb : rdB s with
      | false => rfl
      | true => exact absurd (rdB_17 hb) hsz)
    clear hno HYES
    by_cases h1 : s.size < 1
    · have hd1 : decide ((s.size : Int) < 1) = true := decide_eq_true (by omega)
      go_enter Tryd.func59, Tryd.ntmps59
      go_wp2
      go_ret2
      exact ⟨rfl, Below.refl _ _⟩
    · have hd1 : decide ((s.size : Int) < 1) = false := decide_eq_false (by omega)
      have hd2 : decide ((17 : Int) < (s.size : Int)) = true := decide_eq_true (by omega)
      go_enter Tryd.func59, Tryd.ntmps59
      go_wp2
      go_ret2
      exact ⟨rfl, Below.refl _ _⟩

set_option maxHeartbeats 2000000 in
theorem l01Numbers_any {s : ByteArray} {w : World} (hs : s.size ≤ 1048576) :
    Calls Tryd.prog 53 #[.string s] w fun e w' => RetSB (Value.int .i64) 2 w (numsR s) (numsB s) e w' := by
  have HB0 := Lib.hid ((Below.refl w.heap.size w).alloc (Nat.le_refl _) (.cells #[] 2))
  have HO0 : Hid (Own (Value.int .i64) 2 (w.alloc (.cells #[] 2)) w.heap.size (some ⟨w.heap.size, 0, none⟩) 0 []) := Lib.hid (own_empty w _ (Nat.le_refl _) rfl)
  have hbq : (s.toList == [110, 111, 110, 101]) = decide (s = noneT) := by rw [← tl_beq, tl_eq noneT]; rfl
  obtain ⟨rb, hrb⟩ : ∃ b, numsB s = b := ⟨_, rfl⟩
  obtain ⟨rr, hrr⟩ : ∃ r, numsR s = r := ⟨_, rfl⟩
  have hno : numsB s = false → rb = false ∧ rr = [] := fun h => ⟨hrb ▸ h, by rw [← hrr]; exact numsR_no h⟩
  have hyes : numsB s = true → rb = true ∧ rr = (pcs s).map rdN := fun h => ⟨hrb ▸ h, by rw [← hrr]; unfold numsR; rw [h]; rfl⟩
  rw [hrb, hrr]
  clear hrb hrr
  by_cases hn : s = noneT
  · have hp : pcs s = [] := by unfold pcs; rw [if_pos hn]
    have h1 : numsB s = true := by unfold numsB; rw [hp]; rfl
    obtain ⟨rfl, h2⟩ := hyes h1
    rw [hp] at h2
    have h3 : rr = [] := h2
    subst h3
    rw [decide_eq_true hn] at hbq
    clear hno hyes hp h1 h2 hn
    go_enter Tryd.func53, Tryd.ntmps53
    go_wp2
    go_ret2
    exact ⟨_, _, rfl, HO0.out, HB0.out⟩
  · have hp : pcs s = parts s 44 := by unfold pcs; rw [if_neg hn]
    rw [decide_eq_false hn] at hbq
    have hpl := parts_len s 44
    have HPS : Hid (∀ p ∈ parts s 44, p.size ≤ 1048576) := Lib.hid (fun p hp => Nat.le_trans (mem_size 44 hp) hs)
    have HPC := Lib.hid (l01Cut_any (s := s) (m := 44) (mi := 44) (w := w.alloc (.cells #[] 2)) hs rfl)
    have HNO : Hid (∀ p ∈ parts s 44, rdB p = false → rb = false ∧ rr = []) := Lib.hid (fun p hpm h => hno (by
      have h1 : (pcs s).all rdB = false := by rw [List.all_eq_false]; exact ⟨p, by rw [hp]; exact hpm, by rw [h]; simp⟩
      unfold numsB; rw [h1]; rfl))
    have HBIG : Hid (¬ (parts s 44).length ≤ 64 → rb = false ∧ rr = []) := Lib.hid (fun h => hno (by unfold numsB; rw [hp, decide_eq_false h, Bool.and_false]))
    have HYES : Hid ((parts s 44).length ≤ 64 → (∀ p ∈ parts s 44, (!rdB p) = false) → rb = true ∧ rr = (parts s 44).map rdN) := Lib.hid (fun hl h => by
      have h1 : (pcs s).all rdB = true := by rw [List.all_eq_true, hp]; intro p hpm; simpa using h p hpm
      have := hyes (by unfold numsB; rw [h1, hp, decide_eq_true hl]; rfl)
      rw [hp] at this
      exact this)
    clear hno hyes hp hn
    generalize parts s 44 = P at hpl HPS HPC HNO HBIG HYES
    go_enter Tryd.func53, Tryd.ntmps53
    go_wp2_with fail
    refine HPC.out.mono ?_
    rintro e w1 ⟨pa, pc, rfl, hpo, hb1⟩
    have hr := hpo.rd
    have HB1 := Lib.hid (HB0.out.trans (hb1.mono HB0.out.size))
    have HO1 : Hid (Own (Value.int .i64) 2 w1 w.heap.size (some ⟨w.heap.size, 0, none⟩) 0 []) := Lib.hid (HO0.out.below hb1 (Nat.le_refl _))
    have HR := Lib.hid hpo
    have hix := hr.idx und_ss siz_ss
    clear hb1 HPC HB0 HO0 hr hpo
    by_cases h64 : P.length ≤ 64
    · have hd : decide ((64 : Int) < (P.length : Int)) = false := decide_eq_false (by omega)
      go_wp2
      go_loopw [4, 6, 7, 8] (fun oi vi _ _ wr => ∃ (k : Nat) (a : Option Addr) (c : Nat) (out : List Int), vi = .int .i64 k ∧ k ≤ P.length ∧ oi = .slice a out.length c ∧ out.length ≤ k ∧ Hid (out = (P.take k).map rdN) ∧ Hid (∀ p ∈ P.take k, (!rdB p) = false) ∧ Hid (Own (Value.int .i64) 2 wr w.heap.size a c out ∧ Below w.heap.size w wr ∧ Own Value.string 9 wr (w.alloc (.cells #[] 2)).heap.size pa pc P)) (fun _ vi _ _ _ => P.length - (intOf vi).toNat)
      case atStart => exact ⟨0, _, _, [], rfl, Nat.zero_le _, rfl, Nat.le_refl _, Lib.hid rfl, Lib.hid (by simp), Lib.hid ⟨HO1.out, HB1.out, HR.out⟩⟩
      case round =>
        clear HO1 HB1 HR
        obtain ⟨k, a, c, out, rfl, hk, rfl, hol, HOUT, HALL, HI⟩ := hrel
        have hbw : w.heap.size ≤ wr.heap.size := HI.out.2.1.size
        by_cases hlt : k < P.length
        · have hltz : (k : Int) < (P.length : Int) := by omega
          have hcx := HI.out.2.2.cell k hlt
          have ewk : IntKind.i64.wrap ((k : Int) + 1) = (k : Int) + 1 := IntWalk.i64_in _ (by omega)
          have HNO1 : Hid (rdB P[k] = false → rb = false ∧ rr = []) := Lib.hid (HNO.out P[k] (List.getElem_mem hlt))
          have HAL1 : Hid (rdB P[k] = true → ∀ p ∈ P.take (k + 1), (!rdB p) = false) := Lib.hid (fun h => snoc_none (p := fun x => !rdB x) hlt HALL.out (by show (!rdB P[k]) = false; rw [h]; rfl))
          have HOU1 : Hid ((P.take (k + 1)).map rdN = out ++ [rdN P[k]]) := Lib.hid (by rw [List.take_add_one, List.getElem?_eq_getElem hlt, List.map_append, ← HOUT.out]; rfl)
          have HPK : Hid (P[k].size ≤ 1048576) := Lib.hid (HPS.out P[k] (List.getElem_mem hlt))
          generalize P[k] = x at hcx HNO1 HAL1 HOU1 HPK
          cases hv : rdB x with
          | false =>
            obtain ⟨rfl, rfl⟩ := HNO1.out hv
            go_wp2_with fail
            refine (l01Value_any HPK.out).mono ?_
            rintro e w2 ⟨rfl, hb2⟩
            rw [hv]
            have HB2 := Lib.hid (HI.out.2.1.trans (hb2.mono hbw))
            clear hb2
            go_wp2
            go_ret2
            exact retSB_no HB2.out
          | true =>
            have hal := Lib.hid (HAL1.out hv)
            have hrv := rdV_yes hv
            have HRV := Lib.hid hrv
            clear hrv
            go_wp2_with fail
            refine (l01Value_any HPK.out).mono ?_
            rintro e w2 ⟨rfl, hb2⟩
            rw [hv, HRV.out]
            have HI2 : Hid (Own (Value.int .i64) 2 w2 w.heap.size a c out ∧ Below w.heap.size w w2 ∧ Own Value.string 9 w2 (w.alloc (.cells #[] 2)).heap.size pa pc P) := Lib.hid ⟨HI.out.1.below hb2 (Nat.le_refl _), HI.out.2.1.trans (hb2.mono hbw), HI.out.2.2.below hb2 (Nat.le_refl _)⟩
            have hbw2 : w.heap.size ≤ w2.heap.size := HI2.out.2.1.size
            clear hb2 HI hcx
            generalize rdN x = n at HOU1 ⊢
            go_wp2_with (at_builtin; refine wpl_append1 (f := Value.int .i64) (d := 0) (base := w.heap.size) und_ise info_i (fun _ => rfl) n HI2.out.1 rfl _ _ rfl rfl rfl (by omega) (by omega) hbw2 ?_; intro a3 c3 w3 ho3 hg3; have HO3 := Lib.hid ho3; have HR3 := Lib.hid (HI2.out.2.2.keptS hg3 (sep_of_type HI2.out.2.2 HI2.out.1 (by decide))); have HB3 := Lib.hid (HI2.out.2.1.trans (grown_belowOwn HI2.out.1 hg3 (Nat.le_refl _) hbw2)); clear ho3 hg3)
            go_roundw
            case rel => exact ⟨k + 1, a3, c3, out ++ [n], by go_num, by omega, by simp, by simp; omega, Lib.hid HOU1.out.symm, hal, Lib.hid ⟨HO3.out, HB3.out, HR3.out⟩⟩
            case measure => simp [intOf]; omega
        · obtain rfl : k = P.length := by omega
          have hltz : ¬ (P.length : Int) < (P.length : Int) := by omega
          have hyes := HYES.out h64 (fun p hp => HALL.out p (by rw [List.take_length]; exact hp))
          have hou := HOUT.out
          rw [List.take_length] at hou
          rw [← hou] at hyes
          obtain ⟨rfl, rfl⟩ := hyes
          clear hou
          go_wp2
          go_ret2
          exact ⟨a, c, rfl, HI.out.1, HI.out.2.1⟩
    · have hd : decide ((64 : Int) < (P.length : Int)) = true := decide_eq_true (by omega)
      obtain ⟨rfl, rfl⟩ := HBIG.out h64
      go_wp2
      go_ret2
      exact retSB_no HB1.out

end Go.Proofs.YtmmpemfhbnkomaaDoor
