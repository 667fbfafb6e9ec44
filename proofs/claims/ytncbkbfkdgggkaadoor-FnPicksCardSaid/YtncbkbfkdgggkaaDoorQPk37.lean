/- DistinctSample in the program's text. DistinctSample in the reference's text. -/
import Derived.Test.YtncbkbfkdgggkaaDoorQPk22
import Derived.Test.YtncbkbfkdgggkaaDoorQPk30
import Derived.Test.YtncbkbfkdgggkaaDoorQPk4
import Derived.Test.YtncbkbfkdgggkaaDoorQPk10
import Derived.Test.YtncbkbfkdgggkaaDoorQPk23
import Derived.Test.YtncbkbfkdgggkaaDoorQPk2
import Derived.Deep.LoopGhost
set_option linter.unusedVariables false
set_option linter.unusedSimpArgs false
namespace Go.Proofs.YtncbkbfkdgggkaaDoor
open Go.RowKit

/-- 's[:k]' of an own list. -/
theorem head_own {α : Type} {f : α → Value} {e : TypeId} {w : World} {base : Nat} {a : Option Addr} {c : Nat} {xs : List α} (ho : Own f e w base a c xs) {P : Program} {T : TypeId} (hT : P.underlying T = some (.slice (P.elem T))) (hs : ∀ w, (sizeOf (P.elem T)).run P w = .ok 1 w) {k : Nat} (hk : k ≤ xs.length) :
    ∀ w' : World, (Instr.sliceAt T (.slice a xs.length c) none (some (.int .i64 (k : Int))) none).run P w' = .ok (.slice a k c) w' := by
  intro w'
  have hcap := ho.cap.1
  rw [run_sliceAt_slice (h := hT), run_slice_h (ht := hT) (h0 := by omega) (h2 := by omega), hs]
  rcases ho.shape with ⟨rfl, rfl, rfl⟩ | ⟨g, rfl, _⟩
  · simp [Result.andThen, sliced]
  · simp [Result.andThen, sliced, add_elt]

theorem leastOf_any {a : Option Addr} {c : Nat} {xs : List Int} {w : World} (hr : Rd (Value.int .i64) w a c xs) (hn : xs.length ≤ 1048576) :
    Calls Tryd.prog 67 #[.slice a xs.length c, .int .i64 xs.length] w (RetS (Value.int .i64) 2 w (uniq xs)) := by
  have hul := uniq_len xs
  obtain ⟨n, hnn⟩ : ∃ n, xs.length = n := ⟨_, rfl⟩
  have HC := Lib.hid (clonei_any _ _ _ _ hr hn)
  have HN := Lib.hid hnn
  obtain ⟨us, hus⟩ : ∃ us, uniq xs = us := ⟨_, rfl⟩
  have HU := Lib.hid hus
  rw [hnn] at hul hn HC ⊢
  rw [hus] at hul ⊢
  clear hr hnn hus
  go_enter Tryd.func67, Tryd.ntmps67
  go_wp2_with fail
  refine HC.out.mono ?_
  rintro e w1 ⟨a1, c1, rfl, ho1, hb1⟩
  have hsr := sorti_any ho1 (by rw [HN.out]; exact hn)
  rw [HN.out] at hsr
  have HSR := Lib.hid hsr
  have HO1 := Lib.hid ho1
  have HB1 := Lib.hid hb1
  simp only [HN.out]
  clear hsr ho1 hb1 HC
  go_wp2_with fail
  refine HSR.out.mono ?_
  rintro e w2 ⟨rfl, ho2, hg2⟩
  have hun : uniq (srt xs) = us := (uniq_perm (srt_perm xs)).trans HU.out
  have hcm := compact_own ho2 (by rw [srt_len, HN.out]; exact hn) (srt_pw xs)
  rw [srt_len, HN.out, hun] at hcm
  have HCM := Lib.hid hcm
  have HB2 := Lib.hid (HB1.out.trans (grown_belowOwn HO1.out hg2 (Nat.le_refl _) HB1.out.size))
  have HO2 := Lib.hid ho2
  clear hcm ho2 hg2 HSR hun HO1 HB1
  go_wp2_with fail
  refine HCM.out.mono ?_
  rintro e w3 ⟨rfl, ho3, hg3⟩
  have HB3 := Lib.hid (HB2.out.trans (grown_belowOwn HO2.out hg3 (Nat.le_refl _) HB2.out.size))
  have hhd := head_own ho3 (P := Tryd.prog) (T := 25) und_is siz_is (Nat.le_refl _)
  have hmin : ∀ w', (Builtin.min_ #[3, 3] 3 #[.int .i64 (us.length : Int), .int .i64 (n : Int)]).run Tryd.prog w' = .ok (.int .i64 (us.length : Int)) w' := by
    intro w'
    rw [run_min_int2]
    have : (if (n : Int) < (us.length : Int) then (n : Int) else (us.length : Int)) = (us.length : Int) := by split <;> omega
    rw [this]
  have HO3 := Lib.hid ho3
  clear ho3 hg3 HCM HO2 HB2 hul
  go_wp2
  go_ret
  exact ⟨a1, c1, rfl, HO3.out, HB3.out⟩

/-- The keys of a level. -/
def lev (xs : List Int) (salt : Int) (l : Nat) : List Int := uniq (xs.filter fun k => decide ((l : Int) ≤ lowZ (hashZ k salt)))
theorem lev_len (xs : List Int) (salt : Int) (l : Nat) : (lev xs salt l).length ≤ xs.length := Nat.le_trans (uniq_len _) (List.length_filter_le _ _)
/-- Few enough. -/
def few (xs : List Int) (room salt : Int) (l : Nat) : Bool := decide (((lev xs salt l).length : Int) ≤ room)
def dstO (xs : List Int) (room salt : Int) (fr : Nat) : Option Nat := lvl (few xs room salt) fr
def dstV (xs : List Int) (room salt : Int) (fr : Nat) : Int := match dstO xs room salt fr with | some l => l | none => 0
def dstL (xs : List Int) (room salt : Int) (fr : Nat) : List Int := match dstO xs room salt fr with | some l => lev xs salt l | none => []
def dstK (xs : List Int) (room salt : Int) (fr : Nat) : Bool := match dstO xs room salt fr with | some _ => true | none => false
theorem dstL_len (xs : List Int) (room salt : Int) (fr : Nat) : (dstL xs room salt fr).length ≤ xs.length := by
  unfold dstL
  split
  · exact lev_len _ _ _
  · simp
/-- A level, a list in new memory, whether. -/
def RetD (w : World) (L : Int) (ys : List Int) (b : Bool) (en : Ending) (w' : World) : Prop :=
  ∃ a c, en = .returned (.tuple #[.int .i64 L, .slice a ys.length c, .bool b]) ∧ Own (Value.int .i64) 2 w' w.heap.size a c ys ∧ Below w.heap.size w w'
theorem retD_no {w w' : World} (hb : Below w.heap.size w w') : RetD w 0 [] false (.returned (.tuple #[.int .i64 0, .slice none 0 0, .bool false])) w' := ⟨none, 0, rfl, own_nil _ _ _ _, hb⟩

theorem dst1_any {k salt l : Int} {bs bl : Nat} {w : World} (hs : w.cell? ⟨bs, 0, none⟩ = some (.int .i64 salt)) (hl : w.cell? ⟨bl, 0, none⟩ = some (.int .i64 l)) (hk : isKey k = true) (hsk : isKey salt = true) (hT : Tab w) :
    Calls Tryd.prog 69 #[.int .i64 k, .pointer (some ⟨bs, 0, none⟩), .pointer (some ⟨bl, 0, none⟩)] w fun e w' => e = .returned (.bool (decide (lowZ (hashZ k salt) < l))) ∧ Below w.heap.size w w' := by
  obtain ⟨k0, k1⟩ := isKey_bd hk
  obtain ⟨s0, s1⟩ := isKey_bd hsk
  have HH := Lib.hid (hash_any (w := w) k0 k1 s0 s1)
  obtain ⟨h0, h1⟩ := hashZ_bd k salt
  have HL := Lib.hid (implLow_any (w := w) h0 h1 hT)
  clear hT hk hsk k0 k1 s0 s1
  generalize hashZ k salt = h at HH HL h0 h1 ⊢
  go_enter Tryd.func69, Tryd.ntmps69
  go_wp2_with fail
  refine HH.out.mono ?_
  rintro e w1 ⟨rfl, rfl⟩
  go_wp2_with fail
  refine HL.out.mono ?_
  rintro e w1 ⟨rfl, rfl⟩
  go_wp2
  go_ret
  exact ⟨rfl, Below.refl _ _⟩

theorem call_dst1 (vs : Array Value) (w : World) : (callFunc 69 vs).run Tryd.prog w = .ok (.enter 69 vs) w := by kernel_rfl

theorem lev_filter (xs : List Int) (salt : Int) (l : Nat) : (uniq xs).filter (fun k => !decide (lowZ (hashZ k salt) < (l : Int))) = lev xs salt l := by
  unfold lev
  rw [uniq_filter]
  congr 2
  funext k
  by_cases h : lowZ (hashZ k salt) < (l : Int)
  · rw [decide_eq_true h, decide_eq_false (by omega)]; rfl
  · rw [decide_eq_false h, decide_eq_true (by omega)]; rfl

set_option maxRecDepth 8000 in
set_option maxHeartbeats 4000000 in
theorem distinct_any {a : Option Addr} {c : Nat} {xs : List Int} {room salt : Int} {fr : Nat} {w : World} (hr : Rd (Value.int .i64) w a c xs) (hn : xs.length ≤ 1048576) (hk : keysB xs = true) (hsk : isKey salt = true) (hfr : fr ≤ 32) (hT : Tab w) :
    Calls Tryd.prog 48 #[.int .i64 fr, .slice a xs.length c, .int .i64 room, .int .i64 salt] w (RetD w (dstV xs room salt fr) (dstL xs room salt fr) (dstK xs room salt fr)) := by
  obtain ⟨W0, hW0⟩ : ∃ W0, W0 = (w.alloc (.cells #[.int .i64 fr] 2)).alloc (.cells #[.int .i64 salt] 2) := ⟨_, rfl⟩
  have B0 : Below w.heap.size w W0 := by rw [hW0]; exact ((Below.refl _ _).alloc (Nat.le_refl _) _).alloc (by simp) _
  have L0 : Blk W0 w.heap.size #[.int .i64 fr] 2 := by rw [hW0]; exact (Blk.new _ _ _).alloc _
  have S0 : Blk W0 (w.heap.size + 1) #[.int .i64 salt] 2 := by rw [hW0]; exact Blk.new' (by simp)
  have hlc := leastOf_any (hr.below B0 (Nat.le_refl _)) hn
  have HLC := Lib.hid hlc
  have HTW : Hid (Tab W0) := Lib.hid (hT.below B0)
  have HB0 := Lib.hid B0
  have HL0 := Lib.hid L0
  have HS0 := Lib.hid S0
  have HNL := Lib.hid hn
  have HK := Lib.hid hk
  have HSK := Lib.hid hsk
  have htl := hT.lt
  obtain ⟨n, hnn⟩ : ∃ n, xs.length = n := ⟨_, rfl⟩
  rw [hnn] at hn HLC ⊢
  have HN := Lib.hid hnn
  obtain ⟨L, hL⟩ : ∃ L, dstV xs room salt fr = L := ⟨_, rfl⟩
  obtain ⟨ys, hy⟩ : ∃ ys, dstL xs room salt fr = ys := ⟨_, rfl⟩
  obtain ⟨b, hb⟩ : ∃ b, dstK xs room salt fr = b := ⟨_, rfl⟩
  have HD := Lib.hid (And.intro hL (And.intro hy hb))
  rw [hL, hy, hb]
  clear hlc hT B0 L0 S0 hr hk hsk hnn hL hy hb
  go_enter Tryd.func48, Tryd.ntmps48
  go_wp2_with fail
  rw [← hW0]
  refine HLC.out.mono ?_
  rintro e w1 ⟨a1, c1, rfl, ho1, hb1⟩
  have hu1 : (uniq xs).length ≤ n := by have := uniq_len xs; rw [HN.out] at this; exact this
  have HO1 := Lib.hid ho1
  have HB1 := Lib.hid (HB0.out.trans (hb1.mono HB0.out.size))
  have HL1 := Lib.hid (HL0.out.below hb1 (Nat.le_refl _))
  have HS1 := Lib.hid (HS0.out.below hb1 (Nat.le_refl _))
  have HT1 := Lib.hid (HTW.out.below hb1)
  have hblk := ho1.blk
  have hz0 : w.heap.size + 1 < W0.heap.size := HS0.out.lt
  have HZ1 : Hid (∀ p, a1 = some p → w.heap.size + 1 < p.block) := Lib.hid (fun p hp => by have := (hblk p hp).1; have := HS0.out.lt; omega)
  clear ho1 hb1 HLC hW0 HB0 HL0 HS0 HTW hblk
  go_wp2_with fail
  go_loopg [12] 33 (fun gk _ wr => ∃ l : Nat, fr ≤ l ∧ l ≤ 33 ∧ 33 - l ≤ gk ∧ Hid (∀ j, fr ≤ j → j < l → few xs room salt j = false) ∧ Blk wr w.heap.size #[.int .i64 l] 2 ∧ Blk wr (w.heap.size + 1) #[.int .i64 salt] 2 ∧ Own (Value.int .i64) 2 wr w.heap.size a1 c1 (uniq xs) ∧ Tab wr ∧ Below w.heap.size w wr)
  case atStart => exact ⟨fr, Nat.le_refl _, by omega, by omega, Lib.hid (fun j h1 h2 => by omega), HL1.out, HS1.out, HO1.out.mono (by omega), HT1.out, HB1.out⟩
  case round =>
    clear HO1 HB1 HL1 HS1 HT1
    obtain ⟨l, hl0, hl1, hgk, HF, hL, hS, ho, hT, hb⟩ := hrel
    have HL1 := Lib.hid hL
    have HS1 := Lib.hid hS
    have HO1 := Lib.hid ho
    have HT1 := Lib.hid hT
    have HB1 := Lib.hid hb
    clear hL hS ho hT hb
    have hcl := HL1.out.cell (i := 0) (v := .int .i64 l) rfl
    by_cases hlt : l ≤ 32
    · have hltz : decide ((l : Int) ≤ 32) = true := decide_eq_true (by omega)
      have HC := Lib.hid (clonei_any _ _ _ _ HO1.out.rd (by have := HNL.out; have := HN.out; omega))
      go_wp2_with fail
      refine HC.out.mono ?_
      rintro e w2 ⟨a2, c2, rfl, ho2, hb2⟩
      have HL2 := Lib.hid (HL1.out.below hb2 (Nat.le_refl _))
      have HS2 := Lib.hid (HS1.out.below hb2 (Nat.le_refl _))
      have HT2 := Lib.hid (HT1.out.below hb2)
      have HB2 := Lib.hid (HB1.out.trans (hb2.mono HB1.out.size))
      have HO2 := Lib.hid (HO1.out.below hb2 (Nat.le_refl _))
      have hz2 := HS1.out.lt
      have hne : ∀ k, k ≤ w.heap.size + 1 → some k ≠ a2.map (·.block) := by
        intro k hk h
        cases h2 : a2 with
        | none => rw [h2] at h; simp at h
        | some p => rw [h2] at h; simp at h; have := (ho2.blk p h2).1; omega
      have hdf := deleteFunc_own (F := 69) (caps := #[.pointer (some ⟨w.heap.size + 1, 0, none⟩), .pointer (some ⟨w.heap.size, 0, none⟩)]) (p := fun k => decide (lowZ (hashZ k salt) < (l : Int))) call_dst1 ho2 (by have := HNL.out; have := HN.out; omega)
        (fun wr hg k hk => dst1_any ((HS2.out.grown hg (hne _ (Nat.le_refl _))).cell (i := 0) rfl) ((HL2.out.grown hg (hne _ (Nat.le_succ _))).cell (i := 0) rfl) (by
          have hm : at0 (uniq xs) k ∈ xs := by rw [← uniq_mem]; unfold at0; rw [List.getElem?_eq_getElem hk]; exact List.getElem_mem hk
          exact List.all_eq_true.1 HK.out _ hm) HSK.out (HT2.out.grown hg (by rintro h; exact hne _ (Nat.le_of_lt (Nat.lt_succ_of_lt htl)) h.symm)))
      rw [lev_filter] at hdf
      have HDF := Lib.hid hdf
      have HOC := Lib.hid ho2
      have HNE : Hid (∀ k, k ≤ w.heap.size + 1 → some k ≠ a2.map (·.block)) := Lib.hid hne
      have HSEP : Hid (Sep a1 a2) := Lib.hid (by
        intro p q hp hq
        have h1 := (HO1.out.blk p hp).2
        have h2 := (ho2.blk q hq).1
        omega)
      clear hdf ho2 hb2 hne HC hcl HL1 HS1 HT1 HB1 HO1
      go_wp2_with fail
      refine HDF.out.mono ?_
      rintro e w3 ⟨rfl, ho3, hg3⟩
      have HO3 := Lib.hid (ho3.mono (b' := w.heap.size) (by omega))
      have HL3 := Lib.hid (HL2.out.grown hg3 (HNE.out _ (Nat.le_succ _)))
      have HS3 := Lib.hid (HS2.out.grown hg3 (HNE.out _ (Nat.le_refl _)))
      have HT3 := Lib.hid (HT2.out.grown hg3 (by rintro h; exact HNE.out _ (Nat.le_of_lt (Nat.lt_succ_of_lt htl)) h.symm))
      have HU3 := Lib.hid (HO2.out.keptS hg3 HSEP.out)
      have HB3 := Lib.hid (HB2.out.trans (grown_belowOwn HOC.out hg3 (by omega) HB2.out.size))
      have hll := lev_len xs salt l
      clear ho3 hg3 HL2 HS2 HT2 HB2 HO2 HDF HOC HNE HSEP
      have hcl := HL3.out.cell (i := 0) (v := .int .i64 l) rfl
      by_cases hfw : few xs room salt l = true
      · have hO : dstO xs room salt fr = some l := lvl_some hl0 (by omega) hfw HF.out
        have h1 : L = l := by have := HD.out.1; unfold dstV at this; rw [hO] at this; exact this.symm
        have h2 : ys = lev xs salt l := by have := HD.out.2.1; unfold dstL at this; rw [hO] at this; exact this.symm
        have h3 : b = true := by have := HD.out.2.2; unfold dstK at this; rw [hO] at this; exact this.symm
        have hd : decide (((lev xs salt l).length : Int) ≤ room) = true := hfw
        subst h1 h2 h3
        clear hfw hO
        go_wp2
        go_ret3
        exact ⟨a2, c2, rfl, HO3.out, HB3.out⟩
      · have hfw' : few xs room salt l = false := by simpa using hfw
        have hd : decide (((lev xs salt l).length : Int) ≤ room) = false := hfw'
        have HF2 : Hid (∀ j, fr ≤ j → j < l + 1 → few xs room salt j = false) := Lib.hid (fun j h1 h2 => by
          by_cases hj : j = l
          · rw [hj]; exact hfw'
          · exact HF.out j h1 (by omega))
        have ew : IntKind.i64.wrap ((l : Int) + 1) = (l : Int) + 1 := IntWalk.i64_in _ (by omega)
        have hfz := HL3.out.free 0
        have HL4 := Lib.hid (HL3.out.set 0 (.int .i64 ((l : Int) + 1)))
        have HS4 := Lib.hid (HS3.out.far (p := ⟨w.heap.size, 0, none⟩) (by simp) (.int .i64 ((l : Int) + 1)))
        have HU4 := Lib.hid (HU3.out.setOff ⟨w.heap.size, 0, none⟩ (.int .i64 ((l : Int) + 1)) (fun q hq => by have := HZ1.out q hq; simp; omega))
        have HT4 : Hid (Tab (w3.setCell ⟨w.heap.size, 0, none⟩ (.int .i64 ((l : Int) + 1)))) := Lib.hid (HT3.out.grown (grown_setCell _ _ _) (fun h => absurd (Option.some.inj h) (by show ¬ w.heap.size = _; omega)))
        have HB4 := Lib.hid (HB3.out.setCell (p := ⟨w.heap.size, 0, none⟩) (by simp) (.int .i64 ((l : Int) + 1)))
        clear hfw hfw' HF HO3 HL3 HS3 HU3 HT3 HB3
        go_wp2
        go_roundg (33 - (l + 1))
        case measure => omega
        case rel => exact ⟨l + 1, by omega, by omega, by omega, HF2, HL4.out, HS4.out, HU4.out, HT4.out, HB4.out⟩
    · obtain rfl : l = 33 := by omega
      have hltz : decide (((33 : Nat) : Int) ≤ 32) = false := decide_eq_false (by omega)
      have hO : dstO xs room salt fr = none := lvl_none HF.out
      have h1 : L = 0 := by have := HD.out.1; unfold dstV at this; rw [hO] at this; exact this.symm
      have h2 : ys = [] := by have := HD.out.2.1; unfold dstL at this; rw [hO] at this; exact this.symm
      have h3 : b = false := by have := HD.out.2.2; unfold dstK at this; rw [hO] at this; exact this.symm
      subst h1 h2 h3
      clear hO
      go_wp2
      go_ret3
      exact retD_no HB1.out

end Go.Proofs.YtncbkbfkdgggkaaDoor

namespace Go.Proofs.YtncbkbfkdgggkaaDoor
open Go.RowKit

theorem insU_at {us : List Int} {x : Int} {t : Nat} (hu : Up us) (h1 : ∀ j, j < t → at0 us j < x) (h2 : ∀ j, t ≤ j → j < us.length → x < at0 us j) : insU us x = us.take t ++ x :: us.drop t := by
  have hl : ∀ y ∈ us.take t, y < x := by
    intro y hy
    obtain ⟨j, hj, rfl⟩ := List.mem_take_iff_getElem.1 hy
    have := h1 j (by omega)
    simpa [at0, show j < us.length by omega] using this
  have hg : ∀ y ∈ us.drop t, x < y := by
    intro y hy
    obtain ⟨j, hj, rfl⟩ := List.mem_drop_iff_getElem.1 hy
    have := h2 (t + j) (by omega) (by omega)
    simpa [at0, show t + j < us.length by omega] using this
  have e1 : us.filter (fun y => decide (y < x)) = us.take t := by
    conv => lhs; rw [← List.take_append_drop t us]
    rw [List.filter_append, List.filter_eq_self.2 (fun y hy => by simpa using hl y hy), List.filter_eq_nil_iff.2 (fun y hy => by have := hg y hy; simp; omega), List.append_nil]
  have e2 : us.filter (fun y => decide (x < y)) = us.drop t := by
    conv => lhs; rw [← List.take_append_drop t us]
    rw [List.filter_append, List.filter_eq_nil_iff.2 (fun y hy => by have := hl y hy; simp; omega), List.filter_eq_self.2 (fun y hy => by simpa using hg y hy), List.nil_append]
  unfold insU
  rw [e1, e2]
theorem insU_at_len {us : List Int} {x : Int} {t : Nat} (hu : Up us) (h1 : ∀ j, j < t → at0 us j < x) (h2 : ∀ j, t ≤ j → j < us.length → x < at0 us j) : (insU us x).length = us.length + 1 := by
  rw [insU_at hu h1 h2]
  simp
  omega
/-- While a place is made: all from k on stand one further. -/
def shf (us : List Int) (k : Nat) : List Int := (us ++ [0]).take (k + 1) ++ us.drop k
theorem shf_start (us : List Int) : shf us us.length = us ++ [0] := by
  unfold shf
  rw [List.drop_length, List.append_nil, List.take_of_length_le (by simp)]
theorem shf_len {us : List Int} {k : Nat} (h : k ≤ us.length) : (shf us k).length = us.length + 1 := by
  unfold shf
  simp
  omega
theorem shf_at {us : List Int} {k p : Nat} (h : p < k) (hk : k ≤ us.length) : at0 (shf us k) p = at0 us p := by
  unfold shf at0
  rw [List.getElem?_append_left (by simp; omega), List.getElem?_take, if_pos (by omega), List.getElem?_append_left (by omega)]
theorem shf_step {us : List Int} {kp : Nat} (h : kp + 1 ≤ us.length) : (shf us (kp + 1)).set (kp + 1) (at0 us kp) = shf us kp := by
  unfold shf
  rw [List.set_append_left _ _ (by simp; omega)]
  have e1 : ((us ++ [0]).take (kp + 1 + 1)).set (kp + 1) (at0 us kp) = (us ++ [0]).take (kp + 1) ++ [at0 us kp] := by
    have hl : kp + 1 < (us ++ [0]).length := by simp; omega
    rw [List.take_add_one, List.getElem?_eq_getElem hl, List.set_append_right _ _ (by simp; omega)]
    have : kp + 1 - ((us ++ [0]).take (kp + 1)).length = 0 := by simp; omega
    rw [this]
    rfl
  have e2 : us.drop kp = at0 us kp :: us.drop (kp + 1) := by
    rw [List.drop_eq_getElem_cons (by omega)]
    congr 1
    simp [at0, show kp < us.length by omega]
  rw [e1, e2, List.append_assoc]
  rfl
theorem shf_end {us : List Int} {t : Nat} {x : Int} (h : t ≤ us.length) : (shf us t).set t x = us.take t ++ x :: us.drop t := by
  unfold shf
  rw [List.set_append_left _ _ (by simp; omega)]
  have hl : t < (us ++ [0]).length := by simp; omega
  have e1 : ((us ++ [0]).take (t + 1)).set t x = us.take t ++ [x] := by
    rw [List.take_add_one, List.getElem?_eq_getElem hl, List.set_append_right _ _ (by simp; omega)]
    have : t - ((us ++ [0]).take t).length = 0 := by simp; omega
    rw [this, List.take_append_of_le_length h]
    rfl
  rw [e1, List.append_assoc]
  rfl
theorem at0_cell2 {w : World} {a : Option Addr} {c : Nat} {ys : List Int} (h : Rd (Value.int .i64) w a c ys) {p : Nat} (hp : p < ys.length) {x : Int} (hx : at0 ys p = x) : w.cell? (elt a p) = some (.int .i64 x) := by
  rw [h.cell p hp, ← hx]; rfl

/-- What is asked of keys, a room and a salt. -/
def dmpB (xs : List Int) (room salt : Int) : Bool := decide (xs.length ≤ 128) && keysB xs && inR room 1 128 && isKey salt
def dmpV (xs : List Int) (room salt : Int) : Int := if dmpB xs room salt then dstV xs room salt 0 else 0
def dmpL (xs : List Int) (room salt : Int) : List Int := if dmpB xs room salt then dstL xs room salt 0 else []
def dmpK (xs : List Int) (room salt : Int) : Bool := if dmpB xs room salt then dstK xs room salt 0 else false
theorem dmpL_len (xs : List Int) (room salt : Int) : (dmpL xs room salt).length ≤ 128 := by
  unfold dmpL
  split
  · rename_i h
    simp only [dmpB, Bool.and_eq_true, decide_eq_true_eq] at h
    exact Nat.le_trans (dstL_len _ _ _ _) h.1.1.1
  · simp
theorem dmp_no {xs : List Int} {room salt : Int} (h : dmpB xs room salt = false) : dmpV xs room salt = 0 ∧ dmpL xs room salt = [] ∧ dmpK xs room salt = false := by
  unfold dmpV dmpL dmpK
  rw [h]
  exact ⟨rfl, rfl, rfl⟩

theorem strRoom_any {x : Int} {w : World} : Calls Tryd.prog 25 #[.int .i64 x] w fun e w' => e = .returned (.bool (inR x 1 128)) ∧ w = w' := by
  go_enter Tryd.func25, Tryd.ntmps25
  go_wp2_with fail
  refine (within_any _ _ _ _).mono ?_
  rintro e w1 ⟨rfl, rfl⟩
  go_wp2
  go_ret
  exact ⟨rfl, rfl⟩
set_option maxRecDepth 8000 in
set_option maxHeartbeats 2000000 in
theorem implDst_any {a : Option Addr} {c : Nat} {xs : List Int} {room salt : Int} {w : World} (hr : Rd (Value.int .i64) w a c xs) (hT : Tab w) :
    Calls Tryd.prog 16 #[.slice a xs.length c, .int .i64 room, .int .i64 salt] w (RetD w (dmpV xs room salt) (dmpL xs room salt) (dmpK xs room salt)) := by
  have hln := hr.len
  cases hc0 : decide (xs.length ≤ 128) with
  | false =>
    have hno : dmpB xs room salt = false := by unfold dmpB; rw [hc0]; simp
    obtain ⟨e1, e2, e3⟩ := dmp_no hno
    rw [e1, e2, e3]
    clear hno e1 e2 e3
    have hcz : decide ((xs.length : Int) > 128) = true := decide_eq_true (by have := of_decide_eq_false hc0; omega)
    have hcz2 : decide ((128 : Int) < (xs.length : Int)) = true := hcz
    go_enter Tryd.func16, Tryd.ntmps16
    go_wp2
    go_ret3
    exact retD_no (Below.refl _ _)
  | true =>
  have hcz : decide ((xs.length : Int) > 128) = false := decide_eq_false (by have := of_decide_eq_true hc0; omega)
  have hcz2 : decide ((128 : Int) < (xs.length : Int)) = false := hcz
  cases hc1 : keysB xs with
  | false =>
    have hno : dmpB xs room salt = false := by unfold dmpB; rw [hc0, hc1]; simp
    obtain ⟨e1, e2, e3⟩ := dmp_no hno
    rw [e1, e2, e3]
    clear hno e1 e2 e3
    go_enter Tryd.func16, Tryd.ntmps16
    go_wp2_with fail
    refine (areAllKeys_any hr).mono ?_
    rintro e wg1 ⟨rfl, hbg1⟩
    have BG1 := Lib.hid hbg1
    clear hbg1
    rw [hc1]
    go_wp2
    go_ret3
    exact retD_no BG1.out
  | true =>
  cases hc2 : inR room 1 128 with
  | false =>
    have hno : dmpB xs room salt = false := by unfold dmpB; rw [hc0, hc1, hc2]; simp
    obtain ⟨e1, e2, e3⟩ := dmp_no hno
    rw [e1, e2, e3]
    clear hno e1 e2 e3
    go_enter Tryd.func16, Tryd.ntmps16
    go_wp2_with fail
    refine (areAllKeys_any hr).mono ?_
    rintro e wg1 ⟨rfl, hbg1⟩
    have BG1 := Lib.hid hbg1
    clear hbg1
    rw [hc1]
    go_wp2_with fail
    refine (strRoom_any).mono ?_
    rintro e wg2 ⟨rfl, rfl⟩
    rw [hc2]
    go_wp2
    go_ret3
    exact retD_no BG1.out
  | true =>
  cases hc3 : isKey salt with
  | false =>
    have hno : dmpB xs room salt = false := by unfold dmpB; rw [hc0, hc1, hc2, hc3]; simp
    obtain ⟨e1, e2, e3⟩ := dmp_no hno
    rw [e1, e2, e3]
    clear hno e1 e2 e3
    go_enter Tryd.func16, Tryd.ntmps16
    go_wp2_with fail
    refine (areAllKeys_any hr).mono ?_
    rintro e wg1 ⟨rfl, hbg1⟩
    have BG1 := Lib.hid hbg1
    clear hbg1
    rw [hc1]
    go_wp2_with fail
    refine (strRoom_any).mono ?_
    rintro e wg2 ⟨rfl, rfl⟩
    rw [hc2]
    go_wp2_with fail
    refine (implIsKey_any).mono ?_
    rintro e wg3 ⟨rfl, rfl⟩
    rw [hc3]
    go_wp2
    go_ret3
    exact retD_no BG1.out
  | true =>
  have hyes : dmpB xs room salt = true := by unfold dmpB; rw [hc0, hc1, hc2, hc3]; rfl
  have e1 : dmpV xs room salt = dstV xs room salt 0 := by unfold dmpV; rw [hyes]; rfl
  have e2 : dmpL xs room salt = dstL xs room salt 0 := by unfold dmpL; rw [hyes]; rfl
  have e3 : dmpK xs room salt = dstK xs room salt 0 := by unfold dmpK; rw [hyes]; rfl
  obtain ⟨L, hL⟩ : ∃ L, dstV xs room salt 0 = L := ⟨_, rfl⟩
  obtain ⟨ys, hy⟩ : ∃ ys, dstL xs room salt 0 = ys := ⟨_, rfl⟩
  obtain ⟨b, hb⟩ : ∃ b, dstK xs room salt 0 = b := ⟨_, rfl⟩
  have HV3 := Lib.hid (And.intro hL (And.intro hy hb))
  rw [e1, e2, e3, hL, hy, hb]
  clear hyes e1 e2 e3 hL hy hb
  go_enter Tryd.func16, Tryd.ntmps16
  go_wp2_with fail
  refine (areAllKeys_any hr).mono ?_
  rintro e wg1 ⟨rfl, hbg1⟩
  have BG1 := Lib.hid hbg1
  clear hbg1
  rw [hc1]
  go_wp2_with fail
  refine (strRoom_any).mono ?_
  rintro e wg2 ⟨rfl, rfl⟩
  rw [hc2]
  go_wp2_with fail
  refine (implIsKey_any).mono ?_
  rintro e wg3 ⟨rfl, rfl⟩
  rw [hc3]
  have hD := distinct_any (fr := 0) (room := room) (hr.below BG1.out (Nat.le_refl _)) (by have := of_decide_eq_true hc0; omega) hc1 hc3 (Nat.zero_le _) (hT.below BG1.out)
  rw [HV3.out.1, HV3.out.2.1, HV3.out.2.2] at hD
  have HD := Lib.hid hD
  clear hD
  go_wp2_with fail
  refine HD.out.mono ?_
  rintro e w9 ⟨a9, c9, rfl, ho9, hb9⟩
  have HO9 := Lib.hid (ho9.mono BG1.out.size)
  have HB9 := Lib.hid (BG1.out.trans (hb9.mono BG1.out.size))
  clear ho9 hb9
  go_wp2
  go_ret3
  exact ⟨a9, c9, rfl, HO9.out, HB9.out⟩

end Go.Proofs.YtncbkbfkdgggkaaDoor
