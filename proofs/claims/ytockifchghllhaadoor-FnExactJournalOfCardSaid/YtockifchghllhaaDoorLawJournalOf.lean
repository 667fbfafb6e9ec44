/- The walk of the law FnExactJournalOf. -/
import Derived.Test.YtockifchghllhaaDoorJrn
import Derived.Test.YtockifchghllhaaDoorTxL
namespace Go.Proofs.YtockifchghllhaaDoor
open Go.RowKit

set_option maxHeartbeats 4000000 in
theorem lawJournalOf_walk {a : Option Addr} {c : Nat} {L : List ByteArray} {w : World} (hM : MLen w) (hT : PTab w) (hr : Rd Value.string w a c L) (hm : ∀ x ∈ L, x.size ≤ 9223372036854775807) :
    Calls Tryd.prog 5 #[.slice a L.length c] w fun e w' => e = .returned (.bool true) ∧ Below w.heap.size w w' := by
  obtain ⟨t, ht⟩ : ∃ t, jR L = t := ⟨_, rfl⟩
  obtain ⟨b, hb⟩ : ∃ b, jOk L = b := ⟨_, rfl⟩
  have HSZ := Lib.hid (szS_any hr hm)
  have HR := Lib.hid hr
  have HM := Lib.hid hM
  have HT := Lib.hid hT
  have HS : Hid (L.length ≤ 1048576 → (∀ x ∈ L, x.size ≤ 1048576) → ∀ {a : Option Addr} {c : Nat} {w : World}, Rd Value.string w a c L → Calls Tryd.prog 20 #[.slice a L.length c] w fun e w' => e = .returned (.tuple #[.string t, .bool b]) ∧ Below w.heap.size w w') := Lib.hid (by
    show L.length ≤ 1048576 → (∀ x ∈ L, x.size ≤ 1048576) → ∀ {a : Option Addr} {c : Nat} {w : World}, _
    intro h1 h2 a c w h3
    have := specJournalOf_any h3 (fun k => by
      by_cases hk : k < L.length
      · rw [bsT_at hk]; exact h2 _ (List.getElem_mem hk)
      · have : bsT L k = ⟨#[]⟩ := by unfold bsT; rw [List.getElem?_eq_none (by omega)]; rfl
        rw [this]; exact Nat.zero_le _) h1
    rwa [ht, hb] at this)
  have HI : Hid (L.length ≤ 1048576 → (∀ x ∈ L, x.size ≤ 1048576) → ∀ {a : Option Addr} {c : Nat} {w : World}, MLen w → PTab w → Rd Value.string w a c L → Calls Tryd.prog 22 #[.slice a L.length c] w fun e w' => e = .returned (.tuple #[.string t, .bool b]) ∧ Below w.heap.size w w') := Lib.hid (by
    show L.length ≤ 1048576 → (∀ x ∈ L, x.size ≤ 1048576) → ∀ {a : Option Addr} {c : Nat} {w : World}, _
    intro h1 h2 a c w h4 h5 h3
    have := implJournalOf_any h4 h5 h3 (fun k => by
      by_cases hk : k < L.length
      · rw [bsT_at hk]; exact h2 _ (List.getElem_mem hk)
      · have : bsT L k = ⟨#[]⟩ := by unfold bsT; rw [List.getElem?_eq_none (by omega)]; rfl
        rw [this]; exact Nat.zero_le _) h1
    rwa [ht, hb] at this)
  clear ht hb hr hM hT hm
  have hnb : (b ^^ b) = false := by simp
  have hnb2 : (b != b) = false := by simp
  have hnt : (t.toList == t.toList) = true := by simp
  have hnt2 : (t.toList != t.toList) = false := by simp
  have HSELF : Hid (decide (L = L) = true) := Lib.hid (by simp)
  go_enter Tryd.func5, Tryd.ntmps5
  go_wp2_with fail
  refine HSZ.out.mono ?_
  rintro e w1 ⟨⟨r, rfl, hroom⟩, rfl⟩
  by_cases hr0 : r < 0
  · have hd : decide (r < 0) = true := decide_eq_true hr0
    clear hroom
    go_wp2
    go_ret
    exact ⟨rfl, Below.refl _ _⟩
  have hd : decide (r < 0) = false := decide_eq_false hr0
  obtain ⟨hl, hx⟩ := hroom (by omega)
  have HL := Lib.hid hl
  have HX := Lib.hid hx
  clear hl hx
  go_wp2_with fail
  refine (toS_any HR.out HL.out).mono ?_
  rintro e w2 ⟨a2, c2, rfl, ho, hb2⟩
  have B2 := Lib.hid hb2
  have HO := Lib.hid ho.rd
  clear ho hb2
  go_wp2_with fail
  refine (HS.out HL.out HX.out HO.out).mono ?_
  rintro e w3 ⟨rfl, hb3⟩
  have B3 := Lib.hid (B2.out.trans (hb3.mono B2.out.size))
  clear hb3 HO B2
  go_wp2_with fail
  refine (toS_any (HR.out.below B3.out (Nat.le_refl _)) HL.out).mono ?_
  rintro e w4 ⟨ax, cx, rfl, ho, hb4⟩
  have B4 := Lib.hid (B3.out.trans (hb4.mono B3.out.size))
  have HX0 := Lib.hid ho.rd
  clear ho hb4 B3
  go_wp2_with fail
  refine (HI.out HL.out HX.out (HM.out.below B4.out (Nat.le_refl _)) (HT.out.below B4.out (Nat.le_refl _)) HX0.out).mono ?_
  rintro e w5 ⟨rfl, hb5⟩
  have B5 := Lib.hid (B4.out.trans (hb5.mono B4.out.size))
  have HX1 := Lib.hid (HX0.out.below hb5 (Nat.le_refl _))
  clear hb5 B4 HX0
  go_wp2_with fail
  refine (toS_any (HR.out.below B5.out (Nat.le_refl _)) HL.out).mono ?_
  rintro e w6 ⟨ay, cy, rfl, ho, hb6⟩
  have B6 := Lib.hid (B5.out.trans (hb6.mono B5.out.size))
  have HX2 := Lib.hid (HX1.out.below hb6 (Nat.le_refl _))
  have HY := Lib.hid ho.rd
  clear ho hb6 B5 HX1
  go_wp2_with fail
  refine (eqSs_any HX2.out HY.out).mono ?_
  rintro e w7 ⟨rfl, hb7⟩
  rw [decide_eq_true (rfl : L = L)]
  have B7 := Lib.hid (B6.out.trans (hb7.mono B6.out.size))
  clear hb7
  go_wp2
  go_ret
  exact ⟨rfl, B7.out⟩

end Go.Proofs.YtockifchghllhaaDoor
