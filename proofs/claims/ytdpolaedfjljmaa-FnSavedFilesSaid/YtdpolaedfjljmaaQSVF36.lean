/- RecoverAll in both texts. -/
import Derived.Test.YtdpolaedfjljmaaQSVF34
import Derived.Test.YtdpolaedfjljmaaQSVF31
import Derived.Test.YtdpolaedfjljmaaQSVF4
namespace Go.Proofs.Ytdpolaedfjljmaa
open Go.RowKit
attribute [local go_sem ↓] Go.wp_at_zero Go.wp_at_succ

set_option maxHeartbeats 4000000 in
theorem recoverAll_any {s : ByteArray} {w : World} (hs : s.size ≤ 1048576) :
    Calls Try.prog 17 #[.string s] w (RetRA w (raL s) (raN s)) := by
  go_enter Try.func17, Try.ntmps17
  go_upto_region 2 with (fail)
  have HL0 : Hid (Lst9 (w.alloc (.cells #[] 28)) w.heap.size (some ⟨w.heap.size, 0, none⟩) 0 [] []) := Lib.hid (Lst9.start w (Nat.le_refl _))
  have HB0 : Hid (Below w.heap.size w (w.alloc (.cells #[] 28))) := Lib.hid ((Below.refl _ _).alloc (Nat.le_refl _) _)
  change Code.wp _ _ _ _ (w.alloc (.cells #[] 28))
  generalize w.alloc (.cells #[] 28) = wa at HL0 HB0 ⊢
  go_wp2
  go_loopw [5, 6] (fun l i wr => ∃ (p : Nat) (a : Option Addr) (c : Nat) (qs : List SvH) (ss : List Sv), l = .slice a ss.length c ∧ i = .int .i64 (p : Int) ∧ ss.length ≤ 8 ∧ p ≤ s.size ∧ Hid (Lst9 wr w.heap.size a c qs ss) ∧ Hid (Below w.heap.size w wr) ∧ Hid (RaInv s ss p)) (fun l i _ => s.size + 1 - (intOf i).toNat)
  case atStart => exact ⟨0, _, _, [], [], rfl, rfl, by simp, Nat.zero_le _, HL0, HB0, Lib.hid (RaInv.start s)⟩
  case round =>
    obtain ⟨p, a, c, qs, ss, rfl, rfl, h8, hp, HL, HB, HI⟩ := hrel
    clear HL0 HB0
    by_cases hlt : ss.length < 8
    · have hltz : (ss.length : Int) < 8 := by omega
      have hcut : (s.extract p s.size).size ≤ 1048576 := by rw [ByteArray.size_extract]; omega
      have hpz : (p : Int) ≤ (s.size : Int) := by omega
      have HSTEP : Hid (ldOk (s.extract p s.size) = true → RaInv s (ss ++ [ldV (s.extract p s.size)]) (p + ldN0 (s.extract p s.size)) ∧ 15 ≤ ldN0 (s.extract p s.size)) := Lib.hid (fun hk => ⟨HI.out.step hlt hk, RaInv.pos hk⟩)
      have HSTOP : Hid (ldOk (s.extract p s.size) = false → raL s = ss ∧ raN s = p ∧ ldN0 (s.extract p s.size) = 0) := Lib.hid (fun hk => ⟨(HI.out.stop hk).1, (HI.out.stop hk).2, by unfold ldN0; rw [hk]; rfl⟩)
      go_wp2_with fail
      refine (load_any (s := s.extract p s.size) (w := wr) hcut).mono ?_
      generalize ldOk (s.extract p s.size) = ok at HSTEP HSTOP ⊢
      generalize ldV (s.extract p s.size) = x at HSTEP HSTOP ⊢
      generalize ldN0 (s.extract p s.size) = n0 at HSTEP HSTOP ⊢
      rintro e w1 ⟨h, rfl, ho, hsp, hb1⟩
      have HB1 := Lib.hid (HB.out.trans (hb1.mono HB.out.size))
      have HL1 := Lib.hid (HL.out.below hb1 (Nat.le_refl _))
      have HO := Lib.hid ho
      have HSP := Lib.hid hsp
      have HAP : Hid (∀ (j : Nat) (h' : SvH), qs[j]? = some h' → Apart h' h) := Lib.hid (fun j h' hj => apart_of (hi := wr.heap.size) (fun a' ha' q hq => by
        have hlt' : j < ss.length := by rw [← HL.out.len]; exact (List.getElem?_eq_some_iff.1 hj).1
        exact ((HL.out.own j h' _ hj (List.getElem?_eq_getElem hlt')).1.lt a' ha' q hq).2) HO.out)
      have hbs := HB.out.size
      have HBS := Lib.hid hbs
      clear ho hsp hb1 HB HL HI hbs
      go_upto_region 5 with (fail)
      have hbs1 : w.heap.size ≤ w1.heap.size := HB1.out.size
      have HB2 := Lib.hid (HB1.out.alloc hbs1 (.cells (svV h x) 28))
      have HXB : Hid (Blk (w1.alloc (.cells (svV h x) 28)) w1.heap.size (svV h x) 28) := Lib.hid (Blk.new _ _ _)
      have HL2 := Lib.hid (HL1.out.below ((Below.refl _ _).alloc (Nat.le_refl _) (.cells (svV h x) 28)) (Nat.le_refl _))
      have HO2 := Lib.hid (HO.out.below ((Below.refl _ _).alloc (Nat.le_refl _) (.cells (svV h x) 28)) (Nat.le_refl _))
      change Code.wp _ _ _ _ (w1.alloc (.cells (svV h x) 28))
      generalize w1.alloc (.cells (svV h x) 28) = w2 at HB2 HXB HL2 HO2 ⊢
      generalize w1.heap.size = bx at HXB ⊢
      clear HB1 HL1 HO hbs1
      have hbs2 : w.heap.size ≤ w2.heap.size := HB2.out.size
      cases ok with
      | false =>
        obtain ⟨e1, e2, rfl⟩ := HSTOP.out rfl
        clear HSTEP HSTOP HXB
        go_wp2
        go_ret3
        exact ⟨a, c, qs, by first | rfl | (rw [e1, e2]; rfl), by first | exact HL2.out | (rw [e1]; exact HL2.out), HB2.out⟩
      | true =>
        obtain ⟨hri, hn15⟩ := HSTEP.out rfl
        have hpn : p + n0 ≤ s.size := hri.1
        have h9 : ss.length + 1 ≤ 8 := by have := hri.2.1; simpa using this
        have HRI := Lib.hid hri
        have h4 : ((n0 : Int) == 0) = false := beq_eq_false_iff_ne.2 (by omega)
        have h6 : ¬ (n0 : Int) = 0 := by omega
        clear HSTEP HSTOP hri
        have c0 := HXB.out.cell (i := 0) (v := .string x.nm) rfl
        have c1 := HXB.out.cell (i := 1) (v := .int .i64 x.W) rfl
        have c2 := HXB.out.cell (i := 2) (v := .int .i64 x.D) rfl
        have c3 := HXB.out.cell (i := 3) (v := .int .i64 x.S) rfl
        have c4 := HXB.out.cell (i := 4) (v := .slice h.a0 x.cs.length h.c0) rfl
        have c5 := HXB.out.cell (i := 5) (v := .int .i64 x.R) rfl
        have c6 := HXB.out.cell (i := 6) (v := .slice h.a1 x.ks.length h.c1) rfl
        have c7 := HXB.out.cell (i := 7) (v := .slice h.a2 x.ts.length h.c2) rfl
        have c8 := HXB.out.cell (i := 8) (v := .slice h.a3 x.es.length h.c3) rfl
        have epn : IntKind.i64.wrap ((p : Int) + (n0 : Int)) = (p : Int) + (n0 : Int) := IntWalk.i64_in _ (by omega)
        go_wp2_with (at_builtin; refine wpl_append9 (base := w.heap.size) und_svie info_sv rfl HL2.out (h := h) (x := x) HO2.out HBS.out HSP.out HAP.out rfl _ _ rfl rfl rfl (by omega) (by omega) hbs2 ?_; intro a3 c3 w3 ho3 hg3 hl3; have HO3 := Lib.hid ho3; have HB3 := Lib.hid (HB2.out.trans (lst_belowOwn HL2.out hg3 (Nat.le_refl _) hbs2)); clear ho3 hg3 hl3)
        go_roundw
        case rel => exact ⟨p + n0, a3, c3, _, ss ++ [x], by simp, by go_num, by simp; omega, hpn, HO3, HB3, HRI⟩
        case measure => simp [intOf]; omega
    · have hltz : ¬ (ss.length : Int) < 8 := by omega
      obtain ⟨e1, e2⟩ := HI.out.full hlt
      go_wp2
      go_ret3
      exact ⟨a, c, qs, by first | rfl | (rw [e1, e2]; rfl), by first | exact HL.out | (rw [e1]; exact HL.out), HB.out⟩

set_option maxHeartbeats 4000000 in
theorem specRecoverAll_any {s : ByteArray} {w : World} (hs : s.size ≤ 1048576) :
    Calls Try.prog 16 #[.string s] w (RetRA w (raL s) (raN s)) := by
  go_enter Try.func16, Try.ntmps16
  go_upto_region 2 with (fail)
  have HL0 : Hid (Lst9 (w.alloc (.cells #[] 28)) w.heap.size (some ⟨w.heap.size, 0, none⟩) 0 [] []) := Lib.hid (Lst9.start w (Nat.le_refl _))
  have HB0 : Hid (Below w.heap.size w (w.alloc (.cells #[] 28))) := Lib.hid ((Below.refl _ _).alloc (Nat.le_refl _) _)
  change Code.wp _ _ _ _ (w.alloc (.cells #[] 28))
  generalize w.alloc (.cells #[] 28) = wa at HL0 HB0 ⊢
  go_wp2
  go_loopw [5, 6] (fun l i wr => ∃ (p : Nat) (a : Option Addr) (c : Nat) (qs : List SvH) (ss : List Sv), l = .slice a ss.length c ∧ i = .int .i64 (p : Int) ∧ ss.length ≤ 8 ∧ p ≤ s.size ∧ Hid (Lst9 wr w.heap.size a c qs ss) ∧ Hid (Below w.heap.size w wr) ∧ Hid (RaInv s ss p)) (fun l i _ => s.size + 1 - (intOf i).toNat)
  case atStart => exact ⟨0, _, _, [], [], rfl, rfl, by simp, Nat.zero_le _, HL0, HB0, Lib.hid (RaInv.start s)⟩
  case round =>
    obtain ⟨p, a, c, qs, ss, rfl, rfl, h8, hp, HL, HB, HI⟩ := hrel
    clear HL0 HB0
    by_cases hlt : ss.length < 8
    · have hltz : (ss.length : Int) < 8 := by omega
      have hcut : (s.extract p s.size).size ≤ 1048576 := by rw [ByteArray.size_extract]; omega
      have hpz : (p : Int) ≤ (s.size : Int) := by omega
      have HSTEP : Hid (ldOk (s.extract p s.size) = true → RaInv s (ss ++ [ldV (s.extract p s.size)]) (p + ldN0 (s.extract p s.size)) ∧ 15 ≤ ldN0 (s.extract p s.size)) := Lib.hid (fun hk => ⟨HI.out.step hlt hk, RaInv.pos hk⟩)
      have HSTOP : Hid (ldOk (s.extract p s.size) = false → raL s = ss ∧ raN s = p ∧ ldN0 (s.extract p s.size) = 0) := Lib.hid (fun hk => ⟨(HI.out.stop hk).1, (HI.out.stop hk).2, by unfold ldN0; rw [hk]; rfl⟩)
      go_wp2_with fail
      refine (l07Begin_any (s := s.extract p s.size) (w := wr) hcut).mono ?_
      generalize ldOk (s.extract p s.size) = ok at HSTEP HSTOP ⊢
      generalize ldV (s.extract p s.size) = x at HSTEP HSTOP ⊢
      generalize ldN0 (s.extract p s.size) = n0 at HSTEP HSTOP ⊢
      rintro e w1 ⟨h, rfl, ho, hsp, hb1⟩
      have HB1 := Lib.hid (HB.out.trans (hb1.mono HB.out.size))
      have HL1 := Lib.hid (HL.out.below hb1 (Nat.le_refl _))
      have HO := Lib.hid ho
      have HSP := Lib.hid hsp
      have HAP : Hid (∀ (j : Nat) (h' : SvH), qs[j]? = some h' → Apart h' h) := Lib.hid (fun j h' hj => apart_of (hi := wr.heap.size) (fun a' ha' q hq => by
        have hlt' : j < ss.length := by rw [← HL.out.len]; exact (List.getElem?_eq_some_iff.1 hj).1
        exact ((HL.out.own j h' _ hj (List.getElem?_eq_getElem hlt')).1.lt a' ha' q hq).2) HO.out)
      have hbs := HB.out.size
      have HBS := Lib.hid hbs
      clear ho hsp hb1 HB HL HI hbs
      go_upto_region 5 with (fail)
      have hbs1 : w.heap.size ≤ w1.heap.size := HB1.out.size
      have HB2 := Lib.hid (HB1.out.alloc hbs1 (.cells (svV h x) 28))
      have HXB : Hid (Blk (w1.alloc (.cells (svV h x) 28)) w1.heap.size (svV h x) 28) := Lib.hid (Blk.new _ _ _)
      have HL2 := Lib.hid (HL1.out.below ((Below.refl _ _).alloc (Nat.le_refl _) (.cells (svV h x) 28)) (Nat.le_refl _))
      have HO2 := Lib.hid (HO.out.below ((Below.refl _ _).alloc (Nat.le_refl _) (.cells (svV h x) 28)) (Nat.le_refl _))
      change Code.wp _ _ _ _ (w1.alloc (.cells (svV h x) 28))
      generalize w1.alloc (.cells (svV h x) 28) = w2 at HB2 HXB HL2 HO2 ⊢
      generalize w1.heap.size = bx at HXB ⊢
      clear HB1 HL1 HO hbs1
      have hbs2 : w.heap.size ≤ w2.heap.size := HB2.out.size
      cases ok with
      | false =>
        obtain ⟨e1, e2, rfl⟩ := HSTOP.out rfl
        clear HSTEP HSTOP HXB
        go_wp2
        go_ret3
        exact ⟨a, c, qs, by first | rfl | (rw [e1, e2]; rfl), by first | exact HL2.out | (rw [e1]; exact HL2.out), HB2.out⟩
      | true =>
        obtain ⟨hri, hn15⟩ := HSTEP.out rfl
        have hpn : p + n0 ≤ s.size := hri.1
        have h9 : ss.length + 1 ≤ 8 := by have := hri.2.1; simpa using this
        have HRI := Lib.hid hri
        have h4 : ((n0 : Int) == 0) = false := beq_eq_false_iff_ne.2 (by omega)
        have h6 : ¬ (n0 : Int) = 0 := by omega
        clear HSTEP HSTOP hri
        have c0 := HXB.out.cell (i := 0) (v := .string x.nm) rfl
        have c1 := HXB.out.cell (i := 1) (v := .int .i64 x.W) rfl
        have c2 := HXB.out.cell (i := 2) (v := .int .i64 x.D) rfl
        have c3 := HXB.out.cell (i := 3) (v := .int .i64 x.S) rfl
        have c4 := HXB.out.cell (i := 4) (v := .slice h.a0 x.cs.length h.c0) rfl
        have c5 := HXB.out.cell (i := 5) (v := .int .i64 x.R) rfl
        have c6 := HXB.out.cell (i := 6) (v := .slice h.a1 x.ks.length h.c1) rfl
        have c7 := HXB.out.cell (i := 7) (v := .slice h.a2 x.ts.length h.c2) rfl
        have c8 := HXB.out.cell (i := 8) (v := .slice h.a3 x.es.length h.c3) rfl
        have epn : IntKind.i64.wrap ((p : Int) + (n0 : Int)) = (p : Int) + (n0 : Int) := IntWalk.i64_in _ (by omega)
        go_wp2_with (at_builtin; refine wpl_append9 (base := w.heap.size) und_svie info_sv rfl HL2.out (h := h) (x := x) HO2.out HBS.out HSP.out HAP.out rfl _ _ rfl rfl rfl (by omega) (by omega) hbs2 ?_; intro a3 c3 w3 ho3 hg3 hl3; have HO3 := Lib.hid ho3; have HB3 := Lib.hid (HB2.out.trans (lst_belowOwn HL2.out hg3 (Nat.le_refl _) hbs2)); clear ho3 hg3 hl3)
        go_roundw
        case rel => exact ⟨p + n0, a3, c3, _, ss ++ [x], by simp, by go_num, by simp; omega, hpn, HO3, HB3, HRI⟩
        case measure => simp [intOf]; omega
    · have hltz : ¬ (ss.length : Int) < 8 := by omega
      obtain ⟨e1, e2⟩ := HI.out.full hlt
      go_wp2
      go_ret3
      exact ⟨a, c, qs, by first | rfl | (rw [e1, e2]; rfl), by first | exact HL.out | (rw [e1]; exact HL.out), HB.out⟩

end Go.Proofs.Ytdpolaedfjljmaa
