/- mark.., held.. on sieves, zeros, windows, desks. -/
import Derived.Test.YtockifchghllhaaDoorMkB
import Derived.Test.YtockifchghllhaaDoorToI
import Derived.Test.YtockifchghllhaaDoorBlk
import Derived.Test.YtockifchghllhaaDoorNest
namespace Go.Proofs.YtockifchghllhaaDoor
open Go.RowKit

theorem grown_of_alloc (w : World) (o : Obj) (row : Option Nat) : w.grownBy (w.alloc o) row :=
  have hb : Below w.heap.size w (w.alloc o) := (Below.refl _ _).alloc (Nat.le_refl _) o
  ⟨hb.os, hb.tape, hb.output, hb.size, fun k hk _ => hb.block k hk⟩
theorem Turned.alloc {lo hi : Nat} {w w' : World} (h : Turned lo hi w w') (o : Obj) : Turned lo hi w (w'.alloc o) :=
  h.trans (Turned.of_grown (a := none) (grown_of_alloc _ _ _) (by simp))
theorem Blk.turned {w w' : World} {k : Nat} {cs : Array Value} {T : TypeId} (h : Blk w k cs T) {lo hi : Nat} (ht : Turned lo hi w w') (hk : k < lo ∨ hi ≤ k) : Blk w' k cs T := by
  have := h.lt
  unfold Blk at *
  rw [ht.block k this hk]; exact h
abbrev boolM : Nat → Bool := fun k => decide (k % 3 = 0)
abbrev intM : Nat → Int := fun k => (k : Int)
theorem Own.off {α : Type} {f : α → Value} {e : TypeId} {w : World} {base : Nat} {a : Option Addr} {c : Nat} {xs : List α} (h : Own f e w base a c xs) {k : Nat} (hk : w.heap.size ≤ k) : some k ≠ a.map (·.block) := by
  cases ha : a with
  | none => simp
  | some p => have := h.blk p ha; simp; omega

set_option maxHeartbeats 800000 in
theorem markSieve_any {a : Option Addr} {c base k0 : Nat} {xs : List Bool} {R S : Int} {w : World} (ho : Own (Value.bool) 4 w base a c xs) (hk : k0 + xs.length ≤ 4611686018427387904) :
    Calls Tryd.prog 40 #[.agg #[.int .i64 R, .int .i64 S, .slice a xs.length c], .int .i64 k0] w (RetM (Value.bool) 4 w base a c boolM k0 xs.length) := by
  have HO := Lib.hid (ho.alloc (.cells #[.int .i64 R, .int .i64 S, .slice a xs.length c] 31))
  have HG := Lib.hid (grown_of_alloc w (.cells #[.int .i64 R, .int .i64 S, .slice a xs.length c] 31) (a.map (·.block)))
  go_enter Tryd.func40, Tryd.ntmps40
  go_wp2_with fail
  refine (markB_any HO.out hk).mono ?_
  rintro e w1 ⟨rfl, hm, hg⟩
  have HM := Lib.hid hm
  have HC := Lib.hid (grown_trans HG.out hg)
  clear hm hg
  go_wp2
  go_ret
  exact ⟨rfl, HM.out, HC.out⟩

set_option maxHeartbeats 800000 in
theorem markZeros_any {a : Option Addr} {c base k0 : Nat} {xs : List Int} {Z : Int} {w : World} (ho : Own (Value.int .i64) 2 w base a c xs) (hk : k0 + xs.length ≤ 4611686018427387904) :
    Calls Tryd.prog 44 #[.agg #[.int .i64 Z, .slice a xs.length c], .int .i64 k0] w (RetM (Value.int .i64) 2 w base a c intM k0 xs.length) := by
  have HO := Lib.hid (ho.alloc (.cells #[.int .i64 Z, .slice a xs.length c] 46))
  have HG := Lib.hid (grown_of_alloc w (.cells #[.int .i64 Z, .slice a xs.length c] 46) (a.map (·.block)))
  go_enter Tryd.func44, Tryd.ntmps44
  go_wp2_with fail
  refine (markI_any HO.out hk).mono ?_
  rintro e w1 ⟨rfl, hm, hg⟩
  have HM := Lib.hid hm
  have HC := Lib.hid (grown_trans HG.out hg)
  clear hm hg
  go_wp2
  go_ret
  exact ⟨rfl, HM.out, HC.out⟩

set_option maxHeartbeats 800000 in
theorem markWindow_any {ta sa : Option Addr} {tc sc base k0 : Nat} {ts ss : List Int} {L P : Int} {w : World} (ht : Own (Value.int .i64) 2 w base ta tc ts) (hs : Own (Value.int .i64) 2 w base sa sc ss) (hsep : Sep ta sa) {hi : Nat} (kt : ∀ p, ta = some p → p.block < hi) (ks : ∀ p, sa = some p → p.block < hi) (hk : k0 + ts.length + ss.length ≤ 4611686018427387904) :
    Calls Tryd.prog 48 #[.agg #[.int .i64 L, .int .i64 P, .slice ta ts.length tc, .slice sa ss.length sc], .int .i64 k0] w fun e w' => e = .returned (.int .i64 ((k0 + ts.length + ss.length : Nat) : Int)) ∧ Own (Value.int .i64) 2 w' base ta tc (marks intM k0 ts.length) ∧ Own (Value.int .i64) 2 w' base sa sc (marks intM (k0 + ts.length) ss.length) ∧ Turned base hi w w' := by
  have I0 : Hid (Blk (w.alloc (.cells #[.int .i64 L, .int .i64 P, .slice ta ts.length tc, .slice sa ss.length sc] 56)) w.heap.size #[.int .i64 L, .int .i64 P, .slice ta ts.length tc, .slice sa ss.length sc] 56) := Lib.hid (Blk.new _ _ _)
  have HT := Lib.hid (ht.alloc (.cells #[.int .i64 L, .int .i64 P, .slice ta ts.length tc, .slice sa ss.length sc] 56))
  have HS := Lib.hid (hs.alloc (.cells #[.int .i64 L, .int .i64 P, .slice ta ts.length tc, .slice sa ss.length sc] 56))
  have HG := Lib.hid ((Turned.refl base hi w).alloc (.cells #[.int .i64 L, .int .i64 P, .slice ta ts.length tc, .slice sa ss.length sc] 56))
  have HB : Hid ((∀ p, ta = some p → base ≤ p.block ∧ p.block < hi) ∧ (∀ p, sa = some p → base ≤ p.block ∧ p.block < hi)) := Lib.hid (And.intro (fun p hp => ⟨(ht.blk p hp).1, kt p hp⟩) (fun p hp => ⟨(hs.blk p hp).1, ks p hp⟩))
  have HN := Lib.hid (And.intro (ht.off (Nat.le_refl _)) (hs.off (Nat.le_refl _)))
  have HP := Lib.hid hsep
  clear ht hs hsep kt ks
  go_enter Tryd.func48, Tryd.ntmps48
  go_wp2_with fail
  generalize w.alloc (.cells #[.int .i64 L, .int .i64 P, .slice ta ts.length tc, .slice sa ss.length sc] 56) = w0 at I0 HT HS HG ⊢
  refine (markI_any HT.out (by omega)).mono ?_
  rintro e w1 ⟨rfl, hm, hg⟩
  have HT1 := Lib.hid hm
  have HS1 := Lib.hid (HS.out.keptS hg (fun p q hp hq e => HP.out q p hq hp e.symm))
  have I1 := Lib.hid (I0.out.grown hg HN.out.1)
  have HG1 := Lib.hid (HG.out.trans (Turned.of_grown hg HB.out.1))
  clear hm hg HT HS I0 HG
  have i3 := I1.out.cell (i := 3) (v := .slice sa ss.length sc) rfl
  go_wp2_with fail
  refine (markI_any (k0 := k0 + ts.length) HS1.out (by omega)).mono ?_
  rintro e w2 ⟨rfl, hm, hg⟩
  have HS2 := Lib.hid hm
  have HT2 := Lib.hid (HT1.out.keptS hg HP.out)
  have HG2 := Lib.hid (HG1.out.trans (Turned.of_grown hg HB.out.2))
  clear hm hg i3
  go_wp2
  go_ret
  exact ⟨rfl, HT2.out, HS2.out, HG2.out⟩

end Go.Proofs.YtockifchghllhaaDoor
