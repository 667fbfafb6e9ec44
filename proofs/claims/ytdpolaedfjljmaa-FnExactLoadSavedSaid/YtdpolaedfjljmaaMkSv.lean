/- mark.., held.. on a saved one. -/
import Derived.Test.YtdpolaedfjljmaaLdB
import Derived.Test.YtdpolaedfjljmaaMkDesk
namespace Go.Proofs.Ytdpolaedfjljmaa
open Go.RowKit

set_option maxHeartbeats 800000 in
theorem markCells_any {a : Option Addr} {c base k0 : Nat} {xs : List Int} {W D S : Int} {w : World} (ho : Own (Value.int .i64) 2 w base a c xs) (hk : k0 + xs.length ≤ 4611686018427387904) :
    Calls Try.prog 54 #[.agg #[.int .i64 W, .int .i64 D, .int .i64 S, .slice a xs.length c], .int .i64 k0] w (RetM (Value.int .i64) 2 w base a c intM k0 xs.length) := by
  have HO := Lib.hid (ho.alloc (.cells #[.int .i64 W, .int .i64 D, .int .i64 S, .slice a xs.length c] 24))
  have HG := Lib.hid (grown_of_alloc w (.cells #[.int .i64 W, .int .i64 D, .int .i64 S, .slice a xs.length c] 24) (a.map (·.block)))
  go_enter Try.func54, Try.ntmps54
  go_wp2_with fail
  refine (markI_any HO.out hk).mono ?_
  rintro e w1 ⟨rfl, hm, hg⟩
  have HM := Lib.hid hm
  have HC := Lib.hid (grown_trans HG.out hg)
  clear hm hg
  go_wp2
  go_ret
  exact ⟨rfl, HM.out, HC.out⟩

set_option maxHeartbeats 1600000 in
theorem markTops_any {ka ta ea : Option Addr} {kc tc ec base k0 : Nat} {ks ts es : List Int} {R : Int} {w : World} (h1 : Own (Value.int .i64) 2 w base ka kc ks) (h2 : Own (Value.int .i64) 2 w base ta tc ts) (h3 : Own (Value.int .i64) 2 w base ea ec es) (s12 : Sep ka ta) (s13 : Sep ka ea) (s23 : Sep ta ea) {hi : Nat} (k1 : ∀ p, ka = some p → p.block < hi) (k2 : ∀ p, ta = some p → p.block < hi) (k3 : ∀ p, ea = some p → p.block < hi) (hk : k0 + ks.length + ts.length + es.length ≤ 4611686018427387904) :
    Calls Try.prog 55 #[.agg #[.int .i64 R, .slice ka ks.length kc, .slice ta ts.length tc, .slice ea es.length ec], .int .i64 k0] w fun e w' => e = .returned (.int .i64 ((k0 + ks.length + ts.length + es.length : Nat) : Int)) ∧ Own (Value.int .i64) 2 w' base ka kc (marks intM k0 ks.length) ∧ Own (Value.int .i64) 2 w' base ta tc (marks intM (k0 + ks.length) ts.length) ∧ Own (Value.int .i64) 2 w' base ea ec (marks intM (k0 + ks.length + ts.length) es.length) ∧ Turned base hi w w' ∧ (∀ k, k < w.heap.size → some k ≠ ka.map (·.block) → some k ≠ ta.map (·.block) → some k ≠ ea.map (·.block) → w'.heap[k]? = w.heap[k]?) := by
  have I0 : Hid (Blk (w.alloc (.cells #[.int .i64 R, .slice ka ks.length kc, .slice ta ts.length tc, .slice ea es.length ec] 26)) w.heap.size #[.int .i64 R, .slice ka ks.length kc, .slice ta ts.length tc, .slice ea es.length ec] 26) := Lib.hid (Blk.new _ _ _)
  have O0 := Lib.hid (And.intro (h1.alloc (.cells #[.int .i64 R, .slice ka ks.length kc, .slice ta ts.length tc, .slice ea es.length ec] 26)) (And.intro (h2.alloc (.cells #[.int .i64 R, .slice ka ks.length kc, .slice ta ts.length tc, .slice ea es.length ec] 26)) (h3.alloc (.cells #[.int .i64 R, .slice ka ks.length kc, .slice ta ts.length tc, .slice ea es.length ec] 26))))
  have T0 := Lib.hid ((Turned.refl base hi w).alloc (.cells #[.int .i64 R, .slice ka ks.length kc, .slice ta ts.length tc, .slice ea es.length ec] 26))
  have HB : Hid ((∀ p, ka = some p → base ≤ p.block ∧ p.block < hi) ∧ (∀ p, ta = some p → base ≤ p.block ∧ p.block < hi) ∧ (∀ p, ea = some p → base ≤ p.block ∧ p.block < hi)) := Lib.hid (And.intro (fun p hp => ⟨(h1.blk p hp).1, k1 p hp⟩) (And.intro (fun p hp => ⟨(h2.blk p hp).1, k2 p hp⟩) (fun p hp => ⟨(h3.blk p hp).1, k3 p hp⟩)))
  have HN := Lib.hid (And.intro (h1.off (Nat.le_refl _)) (And.intro (h2.off (Nat.le_refl _)) (h3.off (Nat.le_refl _))))
  have F0 : Hid (∀ k, k < w.heap.size → (w.alloc (.cells #[.int .i64 R, .slice ka ks.length kc, .slice ta ts.length tc, .slice ea es.length ec] 26)).heap[k]? = w.heap[k]?) := Lib.hid (fun k hk => heap_alloc_old w _ hk)
  have HP := Lib.hid (And.intro s12 (And.intro s13 s23))
  clear h1 h2 h3 s12 s13 s23 k1 k2 k3
  go_enter Try.func55, Try.ntmps55
  go_wp2_with fail
  generalize w.alloc (.cells #[.int .i64 R, .slice ka ks.length kc, .slice ta ts.length tc, .slice ea es.length ec] 26) = w0 at I0 O0 T0 F0 ⊢
  refine (markI_any O0.out.1 (by omega)).mono ?_
  rintro e w1 ⟨rfl, hm, hg⟩
  have O1 := Lib.hid (And.intro hm (And.intro (O0.out.2.1.keptS hg HP.out.1.symm) (O0.out.2.2.keptS hg HP.out.2.1.symm)))
  have I1 := Lib.hid (I0.out.grown hg HN.out.1)
  have F1 : Hid (∀ k, k < w.heap.size → some k ≠ ka.map (·.block) → w1.heap[k]? = w.heap[k]?) := Lib.hid (fun k hk n1 => (hg.block k (Nat.lt_of_lt_of_le hk T0.out.size) n1).trans (F0.out k hk))
  have T1 := Lib.hid (T0.out.trans (Turned.of_grown hg HB.out.1))
  clear hm hg O0 I0 T0
  have i2 := I1.out.cell (i := 2) (v := .slice ta ts.length tc) rfl
  go_wp2_with fail
  refine (markI_any (k0 := k0 + ks.length) O1.out.2.1 (by omega)).mono ?_
  rintro e w2 ⟨rfl, hm, hg⟩
  have O2 := Lib.hid (And.intro (O1.out.1.keptS hg HP.out.1) (And.intro hm (O1.out.2.2.keptS hg HP.out.2.2.symm)))
  have I2 := Lib.hid (I1.out.grown hg HN.out.2.1)
  have F2 : Hid (∀ k, k < w.heap.size → some k ≠ ka.map (·.block) → some k ≠ ta.map (·.block) → w2.heap[k]? = w.heap[k]?) := Lib.hid (fun k hk n1 n2 => (hg.block k (Nat.lt_of_lt_of_le hk T1.out.size) n2).trans (F1.out k hk n1))
  have T2 := Lib.hid (T1.out.trans (Turned.of_grown hg HB.out.2.1))
  clear hm hg O1 I1 T1 i2
  have i3 := I2.out.cell (i := 3) (v := .slice ea es.length ec) rfl
  go_wp2_with fail
  refine (markI_any (k0 := k0 + ks.length + ts.length) O2.out.2.2 (by omega)).mono ?_
  rintro e w3 ⟨rfl, hm, hg⟩
  have O3 := Lib.hid (And.intro (O2.out.1.keptS hg HP.out.2.1) (And.intro (O2.out.2.1.keptS hg HP.out.2.2) hm))
  have F3 : Hid (∀ k, k < w.heap.size → some k ≠ ka.map (·.block) → some k ≠ ta.map (·.block) → some k ≠ ea.map (·.block) → w3.heap[k]? = w.heap[k]?) := Lib.hid (fun k hk n1 n2 n3 => (hg.block k (Nat.lt_of_lt_of_le hk T2.out.size) n3).trans (F2.out k hk n1 n2))
  have T3 := Lib.hid (T2.out.trans (Turned.of_grown hg HB.out.2.2))
  clear hm hg O2 I2 T2 i3
  go_wp2
  go_ret
  exact ⟨rfl, O3.out.1, O3.out.2.1, O3.out.2.2, T3.out, F3.out⟩

/-- A saved one behind a mark. -/
def mkSv (k : Nat) (x : Sv) : Sv := { x with cs := marks intM k x.cs.length, ks := marks intM (k + x.cs.length) x.ks.length, ts := marks intM (k + x.cs.length + x.ks.length) x.ts.length, es := marks intM (k + x.cs.length + x.ks.length + x.ts.length) x.es.length }

set_option maxHeartbeats 1600000 in
theorem markSaved_any {h : SvH} {x : Sv} {base hi k0 : Nat} {w : World} (g : SvOwn w base h x) (hh : (∀ p, h.a0 = some p → p.block < hi) ∧ (∀ p, h.a1 = some p → p.block < hi) ∧ (∀ p, h.a2 = some p → p.block < hi) ∧ (∀ p, h.a3 = some p → p.block < hi)) (sp : SvSep h) (hk : k0 + x.cs.length + x.ks.length + x.ts.length + x.es.length ≤ 4611686018427387904) :
    Calls Try.prog 14 #[.agg #[.string x.nm, .int .i64 x.W, .int .i64 x.D, .int .i64 x.S, .slice h.a0 x.cs.length h.c0, .int .i64 x.R, .slice h.a1 x.ks.length h.c1, .slice h.a2 x.ts.length h.c2, .slice h.a3 x.es.length h.c3], .int .i64 k0] w fun e w' => e = .returned (.int .i64 ((k0 + x.cs.length + x.ks.length + x.ts.length + x.es.length : Nat) : Int)) ∧ SvOwn w' base h (mkSv k0 x) ∧ Turned base hi w w' := by
  have I0 : Hid (Blk (w.alloc (.cells #[.string x.nm, .int .i64 x.W, .int .i64 x.D, .int .i64 x.S, .slice h.a0 x.cs.length h.c0, .int .i64 x.R, .slice h.a1 x.ks.length h.c1, .slice h.a2 x.ts.length h.c2, .slice h.a3 x.es.length h.c3] 28)) w.heap.size #[.string x.nm, .int .i64 x.W, .int .i64 x.D, .int .i64 x.S, .slice h.a0 x.cs.length h.c0, .int .i64 x.R, .slice h.a1 x.ks.length h.c1, .slice h.a2 x.ts.length h.c2, .slice h.a3 x.es.length h.c3] 28) := Lib.hid (Blk.new _ _ _)
  have O0 : Hid (SvOwn (w.alloc (.cells #[.string x.nm, .int .i64 x.W, .int .i64 x.D, .int .i64 x.S, .slice h.a0 x.cs.length h.c0, .int .i64 x.R, .slice h.a1 x.ks.length h.c1, .slice h.a2 x.ts.length h.c2, .slice h.a3 x.es.length h.c3] 28)) base h x) := Lib.hid ⟨g.nm, g.cs.alloc _, g.ks.alloc _, g.ts.alloc _, g.es.alloc _⟩
  have T0 := Lib.hid ((Turned.refl base hi w).alloc (.cells #[.string x.nm, .int .i64 x.W, .int .i64 x.D, .int .i64 x.S, .slice h.a0 x.cs.length h.c0, .int .i64 x.R, .slice h.a1 x.ks.length h.c1, .slice h.a2 x.ts.length h.c2, .slice h.a3 x.es.length h.c3] 28))
  have HB0 : Hid (∀ p, h.a0 = some p → base ≤ p.block ∧ p.block < hi) := Lib.hid (fun p hp => ⟨(g.cs.blk p hp).1, hh.1 p hp⟩)
  have HB1 : Hid ((∀ p, h.a1 = some p → p.block < hi) ∧ (∀ p, h.a2 = some p → p.block < hi) ∧ (∀ p, h.a3 = some p → p.block < hi)) := Lib.hid hh.2
  have HN := Lib.hid (g.cs.off (Nat.le_refl _))
  have HP := Lib.hid sp
  have HNM := Lib.hid g.nm
  clear g sp hh
  go_enter Try.func14, Try.ntmps14
  go_wp2_with fail
  generalize w.alloc (.cells #[.string x.nm, .int .i64 x.W, .int .i64 x.D, .int .i64 x.S, .slice h.a0 x.cs.length h.c0, .int .i64 x.R, .slice h.a1 x.ks.length h.c1, .slice h.a2 x.ts.length h.c2, .slice h.a3 x.es.length h.c3] 28) = w0 at I0 O0 T0 ⊢
  refine (markCells_any O0.out.cs (by omega)).mono ?_
  rintro e w1 ⟨rfl, hm, hg⟩
  have C1 := Lib.hid hm
  have K1 := Lib.hid (And.intro (O0.out.ks.keptS hg HP.out.s01.symm) (And.intro (O0.out.ts.keptS hg HP.out.s02.symm) (O0.out.es.keptS hg HP.out.s03.symm)))
  have I1 := Lib.hid (I0.out.grown hg HN.out)
  have T1 := Lib.hid (T0.out.trans (Turned.of_grown hg HB0.out))
  clear hm hg O0 I0 T0
  have i5 := I1.out.cell (i := 5) (v := .int .i64 x.R) rfl
  have i6 := I1.out.cell (i := 6) (v := .slice h.a1 x.ks.length h.c1) rfl
  have i7 := I1.out.cell (i := 7) (v := .slice h.a2 x.ts.length h.c2) rfl
  have i8 := I1.out.cell (i := 8) (v := .slice h.a3 x.es.length h.c3) rfl
  go_wp2_with fail
  refine (markTops_any (k0 := k0 + x.cs.length) (base := base) K1.out.1 K1.out.2.1 K1.out.2.2 HP.out.s12 HP.out.s13 HP.out.s23 HB1.out.1 HB1.out.2.1 HB1.out.2.2 (by omega)).mono ?_
  rintro e w2 ⟨rfl, o1, o2, o3, ht, hf⟩
  have sepk : ∀ {a b : Option Addr} {p : Addr}, Sep a b → a = some p → some p.block ≠ b.map (·.block) := by
    intro a b p hs hp hh
    cases hb : b with
    | none => rw [hb] at hh; simp at hh
    | some q => rw [hb] at hh; simp at hh; exact hs p q hp hb hh
  have C2 := Lib.hid (C1.out.heap (w' := w2) (fun p hp => hf p.block (C1.out.lt p hp) (sepk HP.out.s01 hp) (sepk HP.out.s02 hp) (sepk HP.out.s03 hp)))
  have O2 := Lib.hid (And.intro o1 (And.intro o2 o3))
  have T2 := Lib.hid (T1.out.trans ht)
  clear o1 o2 o3 ht hf i5 i6 i7 i8 sepk
  go_wp2
  go_ret
  exact ⟨rfl, ⟨HNM.out, by unfold mkSv; simpa [marks_length] using C2.out, by unfold mkSv; simpa [marks_length] using O2.out.1, by unfold mkSv; simpa [marks_length] using O2.out.2.1, by unfold mkSv; simpa [marks_length] using O2.out.2.2⟩, T2.out⟩

set_option maxHeartbeats 800000 in
theorem heldCells_any {a : Option Addr} {c k0 n : Nat} {W D S : Int} {w : World} (hr : Rd (Value.int .i64) w a c (marks intM k0 n)) (hk : k0 + n ≤ 4611686018427387904) :
    Calls Try.prog 56 #[.agg #[.int .i64 W, .int .i64 D, .int .i64 S, .slice a n c], .int .i64 k0] w fun e w' => e = .returned (.int .i64 ((k0 + n : Nat) : Int)) ∧ Below w.heap.size w w' := by
  have hB : Below w.heap.size w (w.alloc (.cells #[.int .i64 W, .int .i64 D, .int .i64 S, .slice a n c] 24)) := (Below.refl _ _).alloc (Nat.le_refl _) _
  have HR := Lib.hid (hr.below hB (Nat.le_refl _))
  have HB := Lib.hid hB
  clear hr hB
  go_enter Try.func56, Try.ntmps56
  go_wp2_with fail
  refine (heldI_any HR.out hk).mono ?_
  rintro e w1 ⟨rfl, hb⟩
  have HC := Lib.hid (HB.out.trans (hb.mono HB.out.size))
  clear hb
  go_wp2
  go_ret
  exact ⟨rfl, HC.out⟩

set_option maxHeartbeats 1600000 in
theorem heldTops_any {ka ta ea : Option Addr} {kc tc ec k0 n1 n2 n3 : Nat} {R : Int} {w : World} (h1 : Rd (Value.int .i64) w ka kc (marks intM k0 n1)) (h2 : Rd (Value.int .i64) w ta tc (marks intM (k0 + n1) n2)) (h3 : Rd (Value.int .i64) w ea ec (marks intM (k0 + n1 + n2) n3)) (hk : k0 + n1 + n2 + n3 ≤ 4611686018427387904) :
    Calls Try.prog 57 #[.agg #[.int .i64 R, .slice ka n1 kc, .slice ta n2 tc, .slice ea n3 ec], .int .i64 k0] w fun e w' => e = .returned (.int .i64 ((k0 + n1 + n2 + n3 : Nat) : Int)) ∧ Below w.heap.size w w' := by
  have I0 : Hid (Blk (w.alloc (.cells #[.int .i64 R, .slice ka n1 kc, .slice ta n2 tc, .slice ea n3 ec] 26)) w.heap.size #[.int .i64 R, .slice ka n1 kc, .slice ta n2 tc, .slice ea n3 ec] 26) := Lib.hid (Blk.new _ _ _)
  have B0 : Hid (Below w.heap.size w (w.alloc (.cells #[.int .i64 R, .slice ka n1 kc, .slice ta n2 tc, .slice ea n3 ec] 26))) := Lib.hid ((Below.refl _ _).alloc (Nat.le_refl _) _)
  have HR := Lib.hid (And.intro h1 (And.intro h2 h3))
  clear h1 h2 h3
  go_enter Try.func57, Try.ntmps57
  go_wp2_with fail
  generalize w.alloc (.cells #[.int .i64 R, .slice ka n1 kc, .slice ta n2 tc, .slice ea n3 ec] 26) = w0 at I0 B0 ⊢
  refine (heldI_any (HR.out.1.below B0.out (Nat.le_refl _)) (by omega)).mono ?_
  rintro e w1 ⟨rfl, hb⟩
  have B1 := Lib.hid (B0.out.trans (hb.mono B0.out.size))
  have I1 := Lib.hid (I0.out.below hb (Nat.le_refl _))
  clear hb B0 I0
  have i2 := I1.out.cell (i := 2) (v := .slice ta n2 tc) rfl
  go_wp2_with fail
  refine (heldI_any (k0 := k0 + n1) (HR.out.2.1.below B1.out (Nat.le_refl _)) (by omega)).mono ?_
  rintro e w2 ⟨rfl, hb⟩
  have B2 := Lib.hid (B1.out.trans (hb.mono B1.out.size))
  have I2 := Lib.hid (I1.out.below hb (Nat.le_refl _))
  clear hb B1 I1 i2
  have i3 := I2.out.cell (i := 3) (v := .slice ea n3 ec) rfl
  go_wp2_with fail
  refine (heldI_any (k0 := k0 + n1 + n2) (HR.out.2.2.below B2.out (Nat.le_refl _)) (by omega)).mono ?_
  rintro e w3 ⟨rfl, hb⟩
  have B3 := Lib.hid (B2.out.trans (hb.mono B2.out.size))
  clear hb B2 I2 i3
  go_wp2
  go_ret
  exact ⟨rfl, B3.out⟩

set_option maxHeartbeats 1600000 in
theorem heldSaved_any {h : SvH} {x : Sv} {k0 : Nat} {w : World} (g : SvRd w h (mkSv k0 x)) (hk : k0 + x.cs.length + x.ks.length + x.ts.length + x.es.length ≤ 4611686018427387904) :
    Calls Try.prog 15 #[.agg #[.string x.nm, .int .i64 x.W, .int .i64 x.D, .int .i64 x.S, .slice h.a0 x.cs.length h.c0, .int .i64 x.R, .slice h.a1 x.ks.length h.c1, .slice h.a2 x.ts.length h.c2, .slice h.a3 x.es.length h.c3], .int .i64 k0] w fun e w' => e = .returned (.int .i64 ((k0 + x.cs.length + x.ks.length + x.ts.length + x.es.length : Nat) : Int)) ∧ Below w.heap.size w w' := by
  have I0 : Hid (Blk (w.alloc (.cells #[.string x.nm, .int .i64 x.W, .int .i64 x.D, .int .i64 x.S, .slice h.a0 x.cs.length h.c0, .int .i64 x.R, .slice h.a1 x.ks.length h.c1, .slice h.a2 x.ts.length h.c2, .slice h.a3 x.es.length h.c3] 28)) w.heap.size #[.string x.nm, .int .i64 x.W, .int .i64 x.D, .int .i64 x.S, .slice h.a0 x.cs.length h.c0, .int .i64 x.R, .slice h.a1 x.ks.length h.c1, .slice h.a2 x.ts.length h.c2, .slice h.a3 x.es.length h.c3] 28) := Lib.hid (Blk.new _ _ _)
  have B0 : Hid (Below w.heap.size w (w.alloc (.cells #[.string x.nm, .int .i64 x.W, .int .i64 x.D, .int .i64 x.S, .slice h.a0 x.cs.length h.c0, .int .i64 x.R, .slice h.a1 x.ks.length h.c1, .slice h.a2 x.ts.length h.c2, .slice h.a3 x.es.length h.c3] 28))) := Lib.hid ((Below.refl _ _).alloc (Nat.le_refl _) _)
  have HC : Hid (Rd (Value.int .i64) w h.a0 h.c0 (marks intM k0 x.cs.length)) := Lib.hid g.cs
  have HT : Hid (Rd (Value.int .i64) w h.a1 h.c1 (marks intM (k0 + x.cs.length) x.ks.length) ∧ Rd (Value.int .i64) w h.a2 h.c2 (marks intM (k0 + x.cs.length + x.ks.length) x.ts.length) ∧ Rd (Value.int .i64) w h.a3 h.c3 (marks intM (k0 + x.cs.length + x.ks.length + x.ts.length) x.es.length)) := Lib.hid ⟨g.ks, g.ts, g.es⟩
  clear g
  go_enter Try.func15, Try.ntmps15
  go_wp2_with fail
  generalize w.alloc (.cells #[.string x.nm, .int .i64 x.W, .int .i64 x.D, .int .i64 x.S, .slice h.a0 x.cs.length h.c0, .int .i64 x.R, .slice h.a1 x.ks.length h.c1, .slice h.a2 x.ts.length h.c2, .slice h.a3 x.es.length h.c3] 28) = w0 at I0 B0 ⊢
  refine (heldCells_any (HC.out.below B0.out (Nat.le_refl _)) (by omega)).mono ?_
  rintro e w1 ⟨rfl, hb⟩
  have B1 := Lib.hid (B0.out.trans (hb.mono B0.out.size))
  have I1 := Lib.hid (I0.out.below hb (Nat.le_refl _))
  clear hb B0 I0
  have i5 := I1.out.cell (i := 5) (v := .int .i64 x.R) rfl
  have i6 := I1.out.cell (i := 6) (v := .slice h.a1 x.ks.length h.c1) rfl
  have i7 := I1.out.cell (i := 7) (v := .slice h.a2 x.ts.length h.c2) rfl
  have i8 := I1.out.cell (i := 8) (v := .slice h.a3 x.es.length h.c3) rfl
  go_wp2_with fail
  refine (heldTops_any (k0 := k0 + x.cs.length) (HT.out.1.below B1.out (Nat.le_refl _)) (HT.out.2.1.below B1.out (Nat.le_refl _)) (HT.out.2.2.below B1.out (Nat.le_refl _)) (by omega)).mono ?_
  rintro e w2 ⟨rfl, hb⟩
  have B2 := Lib.hid (B1.out.trans (hb.mono B1.out.size))
  clear hb B1 I1 i5 i6 i7 i8
  go_wp2
  go_ret
  exact ⟨rfl, B2.out⟩

end Go.Proofs.Ytdpolaedfjljmaa
