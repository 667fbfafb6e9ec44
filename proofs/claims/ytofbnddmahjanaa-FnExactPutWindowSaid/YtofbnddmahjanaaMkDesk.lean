/- mark.., held.. on sieves, zeros, windows, desks. -/
import Derived.Test.YtofbnddmahjanaaMkB
import Derived.Test.YtofbnddmahjanaaToI
import Derived.Test.YtofbnddmahjanaaBlk
import Derived.Test.YtofbnddmahjanaaNest
namespace Go.Proofs.Ytofbnddmahjanaa
open Go.RowKit

theorem grown_of_alloc (w : World) (o : Obj) (row : Option Nat) : w.grownBy (w.alloc o) row :=
  have hb : Below w.heap.size w (w.alloc o) := (Below.refl _ _).alloc (Nat.le_refl _) o
  ⟨hb.os, hb.tape, hb.output, hb.size, fun k hk _ => hb.block k hk⟩
theorem Turned.alloc {lo hi : Nat} {w w' : World} (h : Turned lo hi w w') (o : Obj) : Turned lo hi w (w'.alloc o) :=
  h.trans (Turned.of_grown (a := none) (grown_of_alloc _ _ _) (by simp))
theorem Blk.turned {w w' : World} {k : Nat} {cs : Array Value} {T : TypeId} (h : Blk w k cs T) {lo hi : Nat} (ht : Turned lo hi w w') (hk : k < lo ∨ hi ≤ k) : Blk w' k cs T := by
  have := h.lt
  unfold Blk at *
  rw [ht.block k this hk]; exact h
abbrev boolM : Nat → Bool := fun k => decide (k % 3 = 0)
abbrev intM : Nat → Int := fun k => (k : Int)
theorem Own.off {α : Type} {f : α → Value} {e : TypeId} {w : World} {base : Nat} {a : Option Addr} {c : Nat} {xs : List α} (h : Own f e w base a c xs) {k : Nat} (hk : w.heap.size ≤ k) : some k ≠ a.map (·.block) := by
  cases ha : a with
  | none => simp
  | some p => have := h.blk p ha; simp; omega

set_option maxHeartbeats 800000 in
theorem markSieve_any {a : Option Addr} {c base k0 : Nat} {xs : List Bool} {R S : Int} {w : World} (ho : Own (Value.bool) 4 w base a c xs) (hk : k0 + xs.length ≤ 4611686018427387904) :
    Calls Try.prog 83 #[.agg #[.int .i64 R, .int .i64 S, .slice a xs.length c], .int .i64 k0] w (RetM (Value.bool) 4 w base a c boolM k0 xs.length) := by
  have HO := Lib.hid (ho.alloc (.cells #[.int .i64 R, .int .i64 S, .slice a xs.length c] 49))
  have HG := Lib.hid (grown_of_alloc w (.cells #[.int .i64 R, .int .i64 S, .slice a xs.length c] 49) (a.map (·.block)))
  go_enter Try.func83, Try.ntmps83
  go_wp2_with fail
  refine (markB_any HO.out hk).mono ?_
  rintro e w1 ⟨rfl, hm, hg⟩
  have HM := Lib.hid hm
  have HC := Lib.hid (grown_trans HG.out hg)
  clear hm hg
  go_wp2
  go_ret
  exact ⟨rfl, HM.out, HC.out⟩

set_option maxHeartbeats 800000 in
theorem markZeros_any {a : Option Addr} {c base k0 : Nat} {xs : List Int} {Z : Int} {w : World} (ho : Own (Value.int .i64) 2 w base a c xs) (hk : k0 + xs.length ≤ 4611686018427387904) :
    Calls Try.prog 84 #[.agg #[.int .i64 Z, .slice a xs.length c], .int .i64 k0] w (RetM (Value.int .i64) 2 w base a c intM k0 xs.length) := by
  have HO := Lib.hid (ho.alloc (.cells #[.int .i64 Z, .slice a xs.length c] 51))
  have HG := Lib.hid (grown_of_alloc w (.cells #[.int .i64 Z, .slice a xs.length c] 51) (a.map (·.block)))
  go_enter Try.func84, Try.ntmps84
  go_wp2_with fail
  refine (markI_any HO.out hk).mono ?_
  rintro e w1 ⟨rfl, hm, hg⟩
  have HM := Lib.hid hm
  have HC := Lib.hid (grown_trans HG.out hg)
  clear hm hg
  go_wp2
  go_ret
  exact ⟨rfl, HM.out, HC.out⟩

set_option maxHeartbeats 800000 in
theorem markWindow_any {ta sa : Option Addr} {tc sc base k0 : Nat} {ts ss : List Int} {L P : Int} {w : World} (ht : Own (Value.int .i64) 2 w base ta tc ts) (hs : Own (Value.int .i64) 2 w base sa sc ss) (hsep : Sep ta sa) {hi : Nat} (kt : ∀ p, ta = some p → p.block < hi) (ks : ∀ p, sa = some p → p.block < hi) (hk : k0 + ts.length + ss.length ≤ 4611686018427387904) :
    Calls Try.prog 42 #[.agg #[.int .i64 L, .int .i64 P, .slice ta ts.length tc, .slice sa ss.length sc], .int .i64 k0] w fun e w' => e = .returned (.int .i64 ((k0 + ts.length + ss.length : Nat) : Int)) ∧ Own (Value.int .i64) 2 w' base ta tc (marks intM k0 ts.length) ∧ Own (Value.int .i64) 2 w' base sa sc (marks intM (k0 + ts.length) ss.length) ∧ Turned base hi w w' := by
  have I0 : Hid (Blk (w.alloc (.cells #[.int .i64 L, .int .i64 P, .slice ta ts.length tc, .slice sa ss.length sc] 53)) w.heap.size #[.int .i64 L, .int .i64 P, .slice ta ts.length tc, .slice sa ss.length sc] 53) := Lib.hid (Blk.new _ _ _)
  have HT := Lib.hid (ht.alloc (.cells #[.int .i64 L, .int .i64 P, .slice ta ts.length tc, .slice sa ss.length sc] 53))
  have HS := Lib.hid (hs.alloc (.cells #[.int .i64 L, .int .i64 P, .slice ta ts.length tc, .slice sa ss.length sc] 53))
  have HG := Lib.hid ((Turned.refl base hi w).alloc (.cells #[.int .i64 L, .int .i64 P, .slice ta ts.length tc, .slice sa ss.length sc] 53))
  have HB : Hid ((∀ p, ta = some p → base ≤ p.block ∧ p.block < hi) ∧ (∀ p, sa = some p → base ≤ p.block ∧ p.block < hi)) := Lib.hid (And.intro (fun p hp => ⟨(ht.blk p hp).1, kt p hp⟩) (fun p hp => ⟨(hs.blk p hp).1, ks p hp⟩))
  have HN := Lib.hid (And.intro (ht.off (Nat.le_refl _)) (hs.off (Nat.le_refl _)))
  have HP := Lib.hid hsep
  clear ht hs hsep kt ks
  go_enter Try.func42, Try.ntmps42
  go_wp2_with fail
  generalize w.alloc (.cells #[.int .i64 L, .int .i64 P, .slice ta ts.length tc, .slice sa ss.length sc] 53) = w0 at I0 HT HS HG ⊢
  refine (markI_any HT.out (by omega)).mono ?_
  rintro e w1 ⟨rfl, hm, hg⟩
  have HT1 := Lib.hid hm
  have HS1 := Lib.hid (HS.out.keptS hg (fun p q hp hq e => HP.out q p hq hp e.symm))
  have I1 := Lib.hid (I0.out.grown hg HN.out.1)
  have HG1 := Lib.hid (HG.out.trans (Turned.of_grown hg HB.out.1))
  clear hm hg HT HS I0 HG
  have i3 := I1.out.cell (i := 3) (v := .slice sa ss.length sc) rfl
  go_wp2_with fail
  refine (markI_any (k0 := k0 + ts.length) HS1.out (by omega)).mono ?_
  rintro e w2 ⟨rfl, hm, hg⟩
  have HS2 := Lib.hid hm
  have HT2 := Lib.hid (HT1.out.keptS hg HP.out)
  have HG2 := Lib.hid (HG1.out.trans (Turned.of_grown hg HB.out.2))
  clear hm hg i3
  go_wp2
  go_ret
  exact ⟨rfl, HT2.out, HS2.out, HG2.out⟩

set_option maxHeartbeats 1600000 in
theorem markDesk_any {ba za ka : Option Addr} {bc zc kc base k0 : Nat} {bs : List Bool} {zs ks : List Int} {R S Z L P : Int} {w : World} (hb : Own (Value.bool) 4 w base ba bc bs) (hz : Own (Value.int .i64) 2 w base za zc zs) (hq : Own (Value.int .i64) 2 w base ka kc ks) (sbz : Sep ba za) (sbk : Sep ba ka) (szk : Sep za ka) {hi : Nat} (kb : ∀ p, ba = some p → p.block < hi) (kz : ∀ p, za = some p → p.block < hi) (kk : ∀ p, ka = some p → p.block < hi) (hk : k0 + bs.length + zs.length + ks.length ≤ 4611686018427387904) :
    Calls Try.prog 32 #[.agg #[.int .i64 R, .int .i64 S, .slice ba bs.length bc, .int .i64 Z, .slice za zs.length zc, .int .i64 L, .int .i64 P, .slice none 0 0, .slice none 0 0, .slice ka ks.length kc], .int .i64 k0] w fun e w' => e = .returned (.int .i64 ((k0 + bs.length + zs.length + ks.length : Nat) : Int)) ∧ Own (Value.bool) 4 w' base ba bc (marks boolM k0 bs.length) ∧ Own (Value.int .i64) 2 w' base za zc (marks intM (k0 + bs.length) zs.length) ∧ Own (Value.int .i64) 2 w' base ka kc (marks intM (k0 + bs.length + zs.length) ks.length) ∧ Turned base hi w w' := by
  have I0 : Hid (Blk (w.alloc (.cells #[.int .i64 R, .int .i64 S, .slice ba bs.length bc, .int .i64 Z, .slice za zs.length zc, .int .i64 L, .int .i64 P, .slice none 0 0, .slice none 0 0, .slice ka ks.length kc] 55)) w.heap.size #[.int .i64 R, .int .i64 S, .slice ba bs.length bc, .int .i64 Z, .slice za zs.length zc, .int .i64 L, .int .i64 P, .slice none 0 0, .slice none 0 0, .slice ka ks.length kc] 55) := Lib.hid (Blk.new _ _ _)
  have O0 := Lib.hid (And.intro (hb.alloc (.cells #[.int .i64 R, .int .i64 S, .slice ba bs.length bc, .int .i64 Z, .slice za zs.length zc, .int .i64 L, .int .i64 P, .slice none 0 0, .slice none 0 0, .slice ka ks.length kc] 55)) (And.intro (hz.alloc (.cells #[.int .i64 R, .int .i64 S, .slice ba bs.length bc, .int .i64 Z, .slice za zs.length zc, .int .i64 L, .int .i64 P, .slice none 0 0, .slice none 0 0, .slice ka ks.length kc] 55)) (hq.alloc (.cells #[.int .i64 R, .int .i64 S, .slice ba bs.length bc, .int .i64 Z, .slice za zs.length zc, .int .i64 L, .int .i64 P, .slice none 0 0, .slice none 0 0, .slice ka ks.length kc] 55))))
  have T0 := Lib.hid ((Turned.refl base hi w).alloc (.cells #[.int .i64 R, .int .i64 S, .slice ba bs.length bc, .int .i64 Z, .slice za zs.length zc, .int .i64 L, .int .i64 P, .slice none 0 0, .slice none 0 0, .slice ka ks.length kc] 55))
  have HB : Hid ((∀ p, ba = some p → base ≤ p.block ∧ p.block < hi) ∧ (∀ p, za = some p → base ≤ p.block ∧ p.block < hi) ∧ (∀ p, ka = some p → base ≤ p.block ∧ p.block < hi)) := Lib.hid (And.intro (fun p hp => ⟨(hb.blk p hp).1, kb p hp⟩) (And.intro (fun p hp => ⟨(hz.blk p hp).1, kz p hp⟩) (fun p hp => ⟨(hq.blk p hp).1, kk p hp⟩)))
  have HN := Lib.hid (And.intro (hb.off (Nat.le_refl _)) (And.intro (hz.off (Nat.le_refl _)) (hq.off (Nat.le_refl _))))
  have HP := Lib.hid (And.intro sbz (And.intro sbk szk))
  clear hb hz hq sbz sbk szk kb kz kk
  go_enter Try.func32, Try.ntmps32
  go_wp2_with fail
  generalize w.alloc (.cells #[.int .i64 R, .int .i64 S, .slice ba bs.length bc, .int .i64 Z, .slice za zs.length zc, .int .i64 L, .int .i64 P, .slice none 0 0, .slice none 0 0, .slice ka ks.length kc] 55) = w0 at I0 O0 T0 ⊢
  refine (markSieve_any O0.out.1 (by omega)).mono ?_
  rintro e w1 ⟨rfl, hm, hg⟩
  have O1 := Lib.hid (And.intro hm (And.intro (O0.out.2.1.keptS hg (fun p q hp hq e => HP.out.1 q p hq hp e.symm)) (O0.out.2.2.keptS hg (fun p q hp hq e => HP.out.2.1 q p hq hp e.symm))))
  have I1 := Lib.hid (I0.out.grown hg HN.out.1)
  have T1 := Lib.hid (T0.out.trans (Turned.of_grown hg HB.out.1))
  clear hm hg O0 I0 T0
  have i3 := I1.out.cell (i := 3) (v := .int .i64 Z) rfl
  have i4 := I1.out.cell (i := 4) (v := .slice za zs.length zc) rfl
  go_wp2_with fail
  refine (markZeros_any (k0 := k0 + bs.length) O1.out.2.1 (by omega)).mono ?_
  rintro e w2 ⟨rfl, hm, hg⟩
  have O2 := Lib.hid (And.intro (O1.out.1.keptS hg HP.out.1) (And.intro hm (O1.out.2.2.keptS hg (fun p q hp hq e => HP.out.2.2 q p hq hp e.symm))))
  have I2 := Lib.hid (I1.out.grown hg HN.out.2.1)
  have T2 := Lib.hid (T1.out.trans (Turned.of_grown hg HB.out.2.1))
  clear hm hg O1 I1 T1 i3 i4
  have i5 := I2.out.cell (i := 5) (v := .int .i64 L) rfl
  have i6 := I2.out.cell (i := 6) (v := .int .i64 P) rfl
  have i7 := I2.out.cell (i := 7) (v := .slice none 0 0) rfl
  have i8 := I2.out.cell (i := 8) (v := .slice none 0 0) rfl
  go_wp2_with fail
  refine (markWindow_any (k0 := k0 + bs.length + zs.length) (base := w2.heap.size) (ts := []) (ss := []) (own_nil _ _ _ _) (own_nil _ _ _ _) (by intro p q hp; simp at hp) (hi := w2.heap.size) (by intro p hp; simp at hp) (by intro p hp; simp at hp) (by simp; omega)).mono ?_
  rintro e w3 ⟨rfl, -, -, ht⟩
  have hb3 := ht.below (Nat.le_refl _) (Nat.le_refl _)
  have O3 := Lib.hid (And.intro (O2.out.1.below hb3 (Nat.le_refl _)) (And.intro (O2.out.2.1.below hb3 (Nat.le_refl _)) (O2.out.2.2.below hb3 (Nat.le_refl _))))
  have I3 := Lib.hid (I2.out.below hb3 (Nat.le_refl _))
  have T3 := Lib.hid (T2.out.trans (Turned.of_grown (a := none) ⟨hb3.os, hb3.tape, hb3.output, hb3.size, fun k hk _ => hb3.block k hk⟩ (by simp)))
  clear ht hb3 O2 I2 T2 i5 i6 i7 i8
  have i9 := I3.out.cell (i := 9) (v := .slice ka ks.length kc) rfl
  go_wp2_with fail
  refine (markI_any (k0 := k0 + bs.length + zs.length) O3.out.2.2 (by omega)).mono ?_
  rintro e w4 ⟨rfl, hm, hg⟩
  have O4 := Lib.hid (And.intro (O3.out.1.keptS hg HP.out.2.1) (And.intro (O3.out.2.1.keptS hg HP.out.2.2) hm))
  have T4 := Lib.hid (T3.out.trans (Turned.of_grown hg HB.out.2.2))
  clear hm hg O3 I3 T3 i9
  go_wp2
  go_ret
  exact ⟨rfl, O4.out.1, O4.out.2.1, O4.out.2.2, T4.out⟩

end Go.Proofs.Ytofbnddmahjanaa
