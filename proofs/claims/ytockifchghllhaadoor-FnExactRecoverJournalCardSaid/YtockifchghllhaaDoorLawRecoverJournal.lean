/- The walk of the law FnExactRecoverJournal. -/
import Derived.Test.YtockifchghllhaaDoorRcvS
import Derived.Test.YtockifchghllhaaDoorMkS
namespace Go.Proofs.YtockifchghllhaaDoor
open Go.RowKit

def rjB (t : ByteArray) : Bool := decide (t.size ≤ 16000)
def rjL (t : ByteArray) : List ByteArray := if rjB t then rL (linesL t) (rN (linesL t)) else []
def rjN (t : ByteArray) : Int := if rjB t then (rA (linesL t) (rN (linesL t)) : Int) else 0
def RetJ (w : World) (L : List ByteArray) (n : Int) (b : Bool) (en : Ending) (w' : World) : Prop :=
  ∃ a c, en = .returned (.tuple #[.slice a L.length c, .int .i64 n, .bool b]) ∧ Own Value.string 9 w' w.heap.size a c L ∧ Below w.heap.size w w'

set_option maxHeartbeats 1000000 in
theorem implRecoverJournal_any {t : ByteArray} {w : World} (hM : MLen w) (hT : PTab w) (hs : t.size ≤ 1048576) :
    Calls Tryd.prog 30 #[.string t] w (RetJ w (rjL t) (rjN t) (rjB t)) := by
  by_cases h : t.size ≤ 16000
  · have hd : decide ((16000 : Int) < (t.size : Int)) = false := decide_eq_false (by omega)
    have hb : rjB t = true := decide_eq_true h
    have hL : rjL t = rL (linesL t) (rN (linesL t)) := by unfold rjL; rw [hb]; rfl
    have hN : rjN t = (rA (linesL t) (rN (linesL t)) : Int) := by unfold rjN; rw [hb]; rfl
    have HC := Lib.hid (recovered_any hM hT hs)
    rw [hb, hL, hN]
    generalize rL (linesL t) (rN (linesL t)) = L at HC ⊢
    generalize rA (linesL t) (rN (linesL t)) = n at HC ⊢
    clear hb hL hN hM hT
    go_enter Tryd.func30, Tryd.ntmps30
    go_wp2_with fail
    refine HC.out.mono ?_
    rintro e w1 ⟨a, c, rfl, ho, hb1⟩
    have HO := Lib.hid ho
    have HB := Lib.hid hb1
    clear ho hb1
    go_wp2
    go_ret3
    exact ⟨a, c, rfl, HO.out, HB.out⟩
  · have hd : decide ((16000 : Int) < (t.size : Int)) = true := decide_eq_true (by omega)
    have hb : rjB t = false := decide_eq_false h
    have hL : rjL t = [] := by unfold rjL; rw [hb]; rfl
    have hN : rjN t = 0 := by unfold rjN; rw [hb]; rfl
    rw [hb, hL, hN]
    clear hb hL hN
    go_enter Tryd.func30, Tryd.ntmps30
    go_wp2
    go_ret3
    exact ⟨none, 0, rfl, own_nil _ _ _ _, Below.refl _ _⟩

set_option maxHeartbeats 1000000 in
theorem specRecoverJournal_any {t : ByteArray} {w : World} (hs : t.size ≤ 1048576) :
    Calls Tryd.prog 29 #[.string t] w (RetJ w (rjL t) (rjN t) (rjB t)) := by
  by_cases h : t.size ≤ 16000
  · have hd : decide ((16000 : Int) < (t.size : Int)) = false := decide_eq_false (by omega)
    have hb : rjB t = true := decide_eq_true h
    have hL : rjL t = rL (linesL t) (rN (linesL t)) := by unfold rjL; rw [hb]; rfl
    have hN : rjN t = (rA (linesL t) (rN (linesL t)) : Int) := by unfold rjN; rw [hb]; rfl
    have HC := Lib.hid (l08Recover_any (w := w) hs)
    rw [hb, hL, hN]
    generalize rL (linesL t) (rN (linesL t)) = L at HC ⊢
    generalize rA (linesL t) (rN (linesL t)) = n at HC ⊢
    clear hb hL hN
    go_enter Tryd.func29, Tryd.ntmps29
    go_wp2_with fail
    refine HC.out.mono ?_
    rintro e w1 ⟨a, c, rfl, ho, hb1⟩
    have HO := Lib.hid ho
    have HB := Lib.hid hb1
    clear ho hb1
    go_wp2
    go_ret3
    exact ⟨a, c, rfl, HO.out, HB.out⟩
  · have hd : decide ((16000 : Int) < (t.size : Int)) = true := decide_eq_true (by omega)
    have hb : rjB t = false := decide_eq_false h
    have hL : rjL t = [] := by unfold rjL; rw [hb]; rfl
    have hN : rjN t = 0 := by unfold rjN; rw [hb]; rfl
    rw [hb, hL, hN]
    clear hb hL hN
    go_enter Tryd.func29, Tryd.ntmps29
    go_wp2
    go_ret3
    exact ⟨none, 0, rfl, own_nil _ _ _ _, Below.refl _ _⟩
theorem rj_len (t : ByteArray) (hs : t.size ≤ 1048576) : (rjL t).length ≤ 1048576 := by
  unfold rjL
  split
  · rw [rL_len]
    have h1 : ∀ f k, k ≤ (linesL t).length → rNf (linesL t) f k ≤ (linesL t).length := by
      intro f
      induction f with
      | zero => intro k hk; exact hk
      | succ f ih =>
        intro k hk
        rw [rNf]
        split
        · rename_i h; exact ih (k + 1) (by omega)
        · exact hk
    have h2 := h1 (linesL t).length 0 (Nat.zero_le _)
    have h3 := parts_len t 10
    have h4 : (linesL t).length ≤ (parts t 10).length - 1 := by unfold linesL; rw [List.length_take]; omega
    unfold rN
    omega
  · simp

set_option maxRecDepth 20000 in
set_option maxHeartbeats 4000000 in
theorem lawRecoverJournal_walk {s : ByteArray} {w : World} (hM : MLen w) (hT : PTab w) :
    Calls Tryd.prog 7 #[.string s] w fun e w' => e = .returned (.bool true) ∧ Below w.heap.size w w' := by
  by_cases hs : s.size ≤ 1048576
  · have hd : decide ((1048576 : Int) < (s.size : Int)) = false := decide_eq_false (by omega)
    have hlen := rj_len s hs
    obtain ⟨L, hL⟩ : ∃ z, rjL s = z := ⟨_, rfl⟩
    obtain ⟨n, hn⟩ : ∃ z, rjN s = z := ⟨_, rfl⟩
    obtain ⟨b, hb⟩ : ∃ z, rjB s = z := ⟨_, rfl⟩
    rw [hL] at hlen
    have HSP : Hid (∀ w : World, Calls Tryd.prog 29 #[.string s] w (RetJ w L n b)) := by
      show ∀ w : World, _
      intro w
      have := specRecoverJournal_any (t := s) (w := w) hs
      rwa [hL, hn, hb] at this
    have HIM : Hid (∀ w : World, MLen w → PTab w → Calls Tryd.prog 30 #[.string s] w (RetJ w L n b)) := by
      show ∀ w : World, _
      intro w h1 h2
      have := implRecoverJournal_any (t := s) (w := w) h1 h2 hs
      rwa [hL, hn, hb] at this
    have HV : Hid (∀ w', Below w.heap.size w w' → MLen w' ∧ PTab w') := Lib.hid (fun w' hb => ⟨hM.below hb (Nat.le_refl _), hT.below hb (Nat.le_refl _)⟩)
    have hnb : (b ^^ b) = false := by simp
    have hnb2 : (b != b) = false := by simp
    have hnn : (n == n) = true := by simp
    have hnn2 : (n != n) = false := by simp
    clear hM hT hL hn hb
    go_enter Tryd.func7, Tryd.ntmps7
    go_wp2_with fail
    refine (HSP.out _).mono ?_
    rintro e w1 ⟨aw, cw, rfl, ow, hb1⟩
    have B1 := Lib.hid hb1
    have W1 := Lib.hid ow
    clear hb1 ow
    go_wp2_with fail
    refine (HIM.out _ (HV.out _ B1.out).1 (HV.out _ B1.out).2).mono ?_
    rintro e w2 ⟨ag, cg, rfl, og, hb2⟩
    have B2 := Lib.hid (B1.out.trans (hb2.mono B1.out.size))
    have LW := Lib.hid W1.out.blk
    have LG := Lib.hid og.blk
    have W2 := Lib.hid (W1.out.below hb2 (Nat.le_refl _))
    have G2 := Lib.hid og
    clear hb2 og W1
    go_wp2_with fail
    refine (eqSs_any G2.out.rd W2.out.rd).mono ?_
    rintro e w3 ⟨rfl, hb3⟩
    rw [decide_eq_true (rfl : L = L)]
    have B3 := Lib.hid (B2.out.trans (hb3.mono B2.out.size))
    have W3 := Lib.hid (W2.out.below hb3 (Nat.le_refl _))
    have G3 := Lib.hid (G2.out.below hb3 (Nat.le_refl _))
    clear hb3 B2 W2 G2
    go_wp2_with fail
    refine (markS_any (k0 := 1) G3.out (Nat.le_refl _) (by omega)).mono ?_
    rintro e w4 ⟨rfl, hm, hg⟩
    have M4 := Lib.hid hm.rd
    have B4 : Hid (Below w.heap.size w w4) := Lib.hid (B3.out.trans (grown_belowOwn G3.out hg B1.out.size B3.out.size))
    have W4 : Hid (Own Value.string 9 w4 w.heap.size aw cw L) := Lib.hid (W3.out.kept hg (fun g hgg p hp => by
      cases ha : ag with
      | none => rw [ha] at hgg; simp at hgg
      | some q =>
        rw [ha] at hgg
        have h1 := (LG.out q ha).1
        have h2 := (LW.out p hp).2
        simp at hgg
        omega))
    clear hm hg G3 W3 B3
    go_wp2_with fail
    refine (heldS_any (k0 := 1) M4.out (Nat.le_refl _) (by omega)).mono ?_
    rintro e w5 ⟨rfl, hb5⟩
    have B5 := Lib.hid (B4.out.trans (hb5.mono B4.out.size))
    have W5 := Lib.hid (W4.out.below hb5 (Nat.le_refl _))
    have M5 := Lib.hid (M4.out.below hb5 (Nat.le_refl _))
    clear hb5 B4 W4 M4
    go_wp2_with fail
    refine (HIM.out _ (HV.out _ B5.out).1 (HV.out _ B5.out).2).mono ?_
    rintro e w6 ⟨ah, ch, rfl, oh, hb6⟩
    have B6 := Lib.hid (B5.out.trans (hb6.mono B5.out.size))
    have W6 := Lib.hid (W5.out.below hb6 (Nat.le_refl _))
    have M6 := Lib.hid (M5.out.below hb6 (Nat.le_refl _))
    have H6 := Lib.hid oh.rd
    clear hb6 oh B5 W5 M5
    go_wp2_with fail
    refine (eqSs_any H6.out W6.out.rd).mono ?_
    rintro e w7 ⟨rfl, hb7⟩
    rw [decide_eq_true (rfl : L = L)]
    have B7 := Lib.hid (B6.out.trans (hb7.mono B6.out.size))
    have M7 := Lib.hid (M6.out.below hb7 (Nat.le_refl _))
    clear hb7 B6 M6 H6 W6
    go_wp2_with fail
    refine (heldS_any (k0 := 1) M7.out (Nat.le_refl _) (by omega)).mono ?_
    rintro e w8 ⟨rfl, hb8⟩
    have B8 := Lib.hid (B7.out.trans (hb8.mono B7.out.size))
    clear hb8
    go_wp2
    go_ret
    exact ⟨rfl, B8.out⟩
  · have hd : decide ((1048576 : Int) < (s.size : Int)) = true := decide_eq_true (by omega)
    clear hM hT
    go_enter Tryd.func7, Tryd.ntmps7
    go_wp2
    go_ret
    exact ⟨rfl, Below.refl _ _⟩

end Go.Proofs.YtockifchghllhaaDoor
