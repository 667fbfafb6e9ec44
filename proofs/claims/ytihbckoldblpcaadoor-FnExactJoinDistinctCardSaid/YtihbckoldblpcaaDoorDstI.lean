/- DistinctSample in the program's text. -/
import Derived.Test.YtihbckoldblpcaaDoorCmp
import Derived.Test.YtihbckoldblpcaaDoorSortC
import Derived.Test.YtihbckoldblpcaaDoorCloneI
import Derived.Test.YtihbckoldblpcaaDoorKeys
import Derived.Test.YtihbckoldblpcaaDoorTz
import Derived.Test.YtihbckoldblpcaaDoorBlk
import Derived.Deep.LoopGhost
namespace Go.Proofs.YtihbckoldblpcaaDoor
open Go.RowKit

/-- 's[:k]' of an own list. -/
theorem head_own {α : Type} {f : α → Value} {e : TypeId} {w : World} {base : Nat} {a : Option Addr} {c : Nat} {xs : List α} (ho : Own f e w base a c xs) {P : Program} {T : TypeId} (hT : P.underlying T = some (.slice (P.elem T))) (hs : ∀ w, (sizeOf (P.elem T)).run P w = .ok 1 w) {k : Nat} (hk : k ≤ xs.length) :
    ∀ w' : World, (Instr.sliceAt T (.slice a xs.length c) none (some (.int .i64 (k : Int))) none).run P w' = .ok (.slice a k c) w' := by
  intro w'
  have hcap := ho.cap.1
  rw [run_sliceAt_slice (h := hT), run_slice_h (ht := hT) (h0 := by omega) (h2 := by omega), hs]
  rcases ho.shape with ⟨rfl, rfl, rfl⟩ | ⟨g, rfl, _⟩
  · simp [Result.andThen, sliced]
  · simp [Result.andThen, sliced, add_elt]

theorem leastOf_any {a : Option Addr} {c : Nat} {xs : List Int} {w : World} (hr : Rd (Value.int .i64) w a c xs) (hn : xs.length ≤ 1048576) :
    Calls Tryd.prog 30 #[.slice a xs.length c, .int .i64 xs.length] w (RetS (Value.int .i64) 2 w (uniq xs)) := by
  have hul := uniq_len xs
  obtain ⟨n, hnn⟩ : ∃ n, xs.length = n := ⟨_, rfl⟩
  have HC := Lib.hid (clonei_any _ _ _ _ hr hn)
  have HN := Lib.hid hnn
  obtain ⟨us, hus⟩ : ∃ us, uniq xs = us := ⟨_, rfl⟩
  have HU := Lib.hid hus
  rw [hnn] at hul hn HC ⊢
  rw [hus] at hul ⊢
  clear hr hnn hus
  go_enter Tryd.func30, Tryd.ntmps30
  go_wp2_with fail
  refine HC.out.mono ?_
  rintro e w1 ⟨a1, c1, rfl, ho1, hb1⟩
  have hsr := sorti_any ho1 (by rw [HN.out]; exact hn)
  rw [HN.out] at hsr
  have HSR := Lib.hid hsr
  have HO1 := Lib.hid ho1
  have HB1 := Lib.hid hb1
  simp only [HN.out]
  clear hsr ho1 hb1 HC
  go_wp2_with fail
  refine HSR.out.mono ?_
  rintro e w2 ⟨rfl, ho2, hg2⟩
  have hun : uniq (srt xs) = us := (uniq_perm (srt_perm xs)).trans HU.out
  have hcm := compact_own ho2 (by rw [srt_len, HN.out]; exact hn) (srt_pw xs)
  rw [srt_len, HN.out, hun] at hcm
  have HCM := Lib.hid hcm
  have HB2 := Lib.hid (HB1.out.trans (grown_belowOwn HO1.out hg2 (Nat.le_refl _) HB1.out.size))
  have HO2 := Lib.hid ho2
  clear hcm ho2 hg2 HSR hun HO1 HB1
  go_wp2_with fail
  refine HCM.out.mono ?_
  rintro e w3 ⟨rfl, ho3, hg3⟩
  have HB3 := Lib.hid (HB2.out.trans (grown_belowOwn HO2.out hg3 (Nat.le_refl _) HB2.out.size))
  have hhd := head_own ho3 (P := Tryd.prog) (T := 22) und_is siz_is (Nat.le_refl _)
  have hmin : ∀ w', (Builtin.min_ #[3, 3] 3 #[.int .i64 (us.length : Int), .int .i64 (n : Int)]).run Tryd.prog w' = .ok (.int .i64 (us.length : Int)) w' := by
    intro w'
    rw [run_min_int2]
    have : (if (n : Int) < (us.length : Int) then (n : Int) else (us.length : Int)) = (us.length : Int) := by split <;> omega
    rw [this]
  have HO3 := Lib.hid ho3
  clear ho3 hg3 HCM HO2 HB2 hul
  go_wp2
  go_ret
  exact ⟨a1, c1, rfl, HO3.out, HB3.out⟩

/-- The keys of a level. -/
def lev (xs : List Int) (salt : Int) (l : Nat) : List Int := uniq (xs.filter fun k => decide ((l : Int) ≤ lowZ (hashZ k salt)))
theorem lev_len (xs : List Int) (salt : Int) (l : Nat) : (lev xs salt l).length ≤ xs.length := Nat.le_trans (uniq_len _) (List.length_filter_le _ _)
/-- Few enough. -/
def few (xs : List Int) (room salt : Int) (l : Nat) : Bool := decide (((lev xs salt l).length : Int) ≤ room)
def dstO (xs : List Int) (room salt : Int) (fr : Nat) : Option Nat := lvl (few xs room salt) fr
def dstV (xs : List Int) (room salt : Int) (fr : Nat) : Int := match dstO xs room salt fr with | some l => l | none => 0
def dstL (xs : List Int) (room salt : Int) (fr : Nat) : List Int := match dstO xs room salt fr with | some l => lev xs salt l | none => []
def dstK (xs : List Int) (room salt : Int) (fr : Nat) : Bool := match dstO xs room salt fr with | some _ => true | none => false
theorem dstL_len (xs : List Int) (room salt : Int) (fr : Nat) : (dstL xs room salt fr).length ≤ xs.length := by
  unfold dstL
  split
  · exact lev_len _ _ _
  · simp
/-- A level, a list in new memory, whether. -/
def RetD (w : World) (L : Int) (ys : List Int) (b : Bool) (en : Ending) (w' : World) : Prop :=
  ∃ a c, en = .returned (.tuple #[.int .i64 L, .slice a ys.length c, .bool b]) ∧ Own (Value.int .i64) 2 w' w.heap.size a c ys ∧ Below w.heap.size w w'
theorem retD_no {w w' : World} (hb : Below w.heap.size w w') : RetD w 0 [] false (.returned (.tuple #[.int .i64 0, .slice none 0 0, .bool false])) w' := ⟨none, 0, rfl, own_nil _ _ _ _, hb⟩

theorem dst1_any {k salt l : Int} {bs bl : Nat} {w : World} (hs : w.cell? ⟨bs, 0, none⟩ = some (.int .i64 salt)) (hl : w.cell? ⟨bl, 0, none⟩ = some (.int .i64 l)) (hk : isKey k = true) (hsk : isKey salt = true) (hT : Tab w) :
    Calls Tryd.prog 33 #[.int .i64 k, .pointer (some ⟨bs, 0, none⟩), .pointer (some ⟨bl, 0, none⟩)] w fun e w' => e = .returned (.bool (decide (lowZ (hashZ k salt) < l))) ∧ Below w.heap.size w w' := by
  obtain ⟨k0, k1⟩ := isKey_bd hk
  obtain ⟨s0, s1⟩ := isKey_bd hsk
  have HH := Lib.hid (hash_any (w := w) k0 k1 s0 s1)
  obtain ⟨h0, h1⟩ := hashZ_bd k salt
  have HL := Lib.hid (implLow_any (w := w) h0 h1 hT)
  clear hT hk hsk k0 k1 s0 s1
  generalize hashZ k salt = h at HH HL h0 h1 ⊢
  go_enter Tryd.func33, Tryd.ntmps33
  go_wp2_with fail
  refine HH.out.mono ?_
  rintro e w1 ⟨rfl, rfl⟩
  go_wp2_with fail
  refine HL.out.mono ?_
  rintro e w1 ⟨rfl, rfl⟩
  go_wp2
  go_ret
  exact ⟨rfl, Below.refl _ _⟩

theorem call_dst1 (vs : Array Value) (w : World) : (callFunc 33 vs).run Tryd.prog w = .ok (.enter 33 vs) w := by kernel_rfl

theorem lev_filter (xs : List Int) (salt : Int) (l : Nat) : (uniq xs).filter (fun k => !decide (lowZ (hashZ k salt) < (l : Int))) = lev xs salt l := by
  unfold lev
  rw [uniq_filter]
  congr 2
  funext k
  by_cases h : lowZ (hashZ k salt) < (l : Int)
  · rw [decide_eq_true h, decide_eq_false (by omega)]; rfl
  · rw [decide_eq_false h, decide_eq_true (by omega)]; rfl

set_option maxRecDepth 8000 in
set_option maxHeartbeats 4000000 in
theorem distinct_any {a : Option Addr} {c : Nat} {xs : List Int} {room salt : Int} {fr : Nat} {w : World} (hr : Rd (Value.int .i64) w a c xs) (hn : xs.length ≤ 1048576) (hk : keysB xs = true) (hsk : isKey salt = true) (hfr : fr ≤ 32) (hT : Tab w) :
    Calls Tryd.prog 20 #[.int .i64 fr, .slice a xs.length c, .int .i64 room, .int .i64 salt] w (RetD w (dstV xs room salt fr) (dstL xs room salt fr) (dstK xs room salt fr)) := by
  obtain ⟨W0, hW0⟩ : ∃ W0, W0 = (w.alloc (.cells #[.int .i64 fr] 2)).alloc (.cells #[.int .i64 salt] 2) := ⟨_, rfl⟩
  have B0 : Below w.heap.size w W0 := by rw [hW0]; exact ((Below.refl _ _).alloc (Nat.le_refl _) _).alloc (by simp) _
  have L0 : Blk W0 w.heap.size #[.int .i64 fr] 2 := by rw [hW0]; exact (Blk.new _ _ _).alloc _
  have S0 : Blk W0 (w.heap.size + 1) #[.int .i64 salt] 2 := by rw [hW0]; exact Blk.new' (by simp)
  have hlc := leastOf_any (hr.below B0 (Nat.le_refl _)) hn
  have HLC := Lib.hid hlc
  have HTW : Hid (Tab W0) := Lib.hid (hT.below B0)
  have HB0 := Lib.hid B0
  have HL0 := Lib.hid L0
  have HS0 := Lib.hid S0
  have HNL := Lib.hid hn
  have HK := Lib.hid hk
  have HSK := Lib.hid hsk
  have htl := hT.lt
  obtain ⟨n, hnn⟩ : ∃ n, xs.length = n := ⟨_, rfl⟩
  rw [hnn] at hn HLC ⊢
  have HN := Lib.hid hnn
  obtain ⟨L, hL⟩ : ∃ L, dstV xs room salt fr = L := ⟨_, rfl⟩
  obtain ⟨ys, hy⟩ : ∃ ys, dstL xs room salt fr = ys := ⟨_, rfl⟩
  obtain ⟨b, hb⟩ : ∃ b, dstK xs room salt fr = b := ⟨_, rfl⟩
  have HD := Lib.hid (And.intro hL (And.intro hy hb))
  rw [hL, hy, hb]
  clear hlc hT B0 L0 S0 hr hk hsk hnn hL hy hb
  go_enter Tryd.func20, Tryd.ntmps20
  go_wp2_with fail
  rw [← hW0]
  refine HLC.out.mono ?_
  rintro e w1 ⟨a1, c1, rfl, ho1, hb1⟩
  have hu1 : (uniq xs).length ≤ n := by have := uniq_len xs; rw [HN.out] at this; exact this
  have HO1 := Lib.hid ho1
  have HB1 := Lib.hid (HB0.out.trans (hb1.mono HB0.out.size))
  have HL1 := Lib.hid (HL0.out.below hb1 (Nat.le_refl _))
  have HS1 := Lib.hid (HS0.out.below hb1 (Nat.le_refl _))
  have HT1 := Lib.hid (HTW.out.below hb1)
  have hblk := ho1.blk
  have hz0 : w.heap.size + 1 < W0.heap.size := HS0.out.lt
  have HZ1 : Hid (∀ p, a1 = some p → w.heap.size + 1 < p.block) := Lib.hid (fun p hp => by have := (hblk p hp).1; have := HS0.out.lt; omega)
  clear ho1 hb1 HLC hW0 HB0 HL0 HS0 HTW hblk
  go_wp2_with fail
  go_loopg [12] 33 (fun gk _ wr => ∃ l : Nat, fr ≤ l ∧ l ≤ 33 ∧ 33 - l ≤ gk ∧ Hid (∀ j, fr ≤ j → j < l → few xs room salt j = false) ∧ Blk wr w.heap.size #[.int .i64 l] 2 ∧ Blk wr (w.heap.size + 1) #[.int .i64 salt] 2 ∧ Own (Value.int .i64) 2 wr w.heap.size a1 c1 (uniq xs) ∧ Tab wr ∧ Below w.heap.size w wr)
  case atStart => exact ⟨fr, Nat.le_refl _, by omega, by omega, Lib.hid (fun j h1 h2 => by omega), HL1.out, HS1.out, HO1.out.mono (by omega), HT1.out, HB1.out⟩
  case round =>
    clear HO1 HB1 HL1 HS1 HT1
    obtain ⟨l, hl0, hl1, hgk, HF, hL, hS, ho, hT, hb⟩ := hrel
    have HL1 := Lib.hid hL
    have HS1 := Lib.hid hS
    have HO1 := Lib.hid ho
    have HT1 := Lib.hid hT
    have HB1 := Lib.hid hb
    clear hL hS ho hT hb
    have hcl := HL1.out.cell (i := 0) (v := .int .i64 l) rfl
    by_cases hlt : l ≤ 32
    · have hltz : decide ((l : Int) ≤ 32) = true := decide_eq_true (by omega)
      have HC := Lib.hid (clonei_any _ _ _ _ HO1.out.rd (by have := HNL.out; have := HN.out; omega))
      go_wp2_with fail
      refine HC.out.mono ?_
      rintro e w2 ⟨a2, c2, rfl, ho2, hb2⟩
      have HL2 := Lib.hid (HL1.out.below hb2 (Nat.le_refl _))
      have HS2 := Lib.hid (HS1.out.below hb2 (Nat.le_refl _))
      have HT2 := Lib.hid (HT1.out.below hb2)
      have HB2 := Lib.hid (HB1.out.trans (hb2.mono HB1.out.size))
      have HO2 := Lib.hid (HO1.out.below hb2 (Nat.le_refl _))
      have hz2 := HS1.out.lt
      have hne : ∀ k, k ≤ w.heap.size + 1 → some k ≠ a2.map (·.block) := by
        intro k hk h
        cases h2 : a2 with
        | none => rw [h2] at h; simp at h
        | some p => rw [h2] at h; simp at h; have := (ho2.blk p h2).1; omega
      have hdf := deleteFunc_own (F := 33) (caps := #[.pointer (some ⟨w.heap.size + 1, 0, none⟩), .pointer (some ⟨w.heap.size, 0, none⟩)]) (p := fun k => decide (lowZ (hashZ k salt) < (l : Int))) call_dst1 ho2 (by have := HNL.out; have := HN.out; omega)
        (fun wr hg k hk => dst1_any ((HS2.out.grown hg (hne _ (Nat.le_refl _))).cell (i := 0) rfl) ((HL2.out.grown hg (hne _ (Nat.le_succ _))).cell (i := 0) rfl) (by
          have hm : at0 (uniq xs) k ∈ xs := by rw [← uniq_mem]; unfold at0; rw [List.getElem?_eq_getElem hk]; exact List.getElem_mem hk
          exact List.all_eq_true.1 HK.out _ hm) HSK.out (HT2.out.grown hg (by rintro h; exact hne _ (Nat.le_of_lt (Nat.lt_succ_of_lt htl)) h.symm)))
      rw [lev_filter] at hdf
      have HDF := Lib.hid hdf
      have HOC := Lib.hid ho2
      have HNE : Hid (∀ k, k ≤ w.heap.size + 1 → some k ≠ a2.map (·.block)) := Lib.hid hne
      have HSEP : Hid (Sep a1 a2) := Lib.hid (by
        intro p q hp hq
        have h1 := (HO1.out.blk p hp).2
        have h2 := (ho2.blk q hq).1
        omega)
      clear hdf ho2 hb2 hne HC hcl HL1 HS1 HT1 HB1 HO1
      go_wp2_with fail
      refine HDF.out.mono ?_
      rintro e w3 ⟨rfl, ho3, hg3⟩
      have HO3 := Lib.hid (ho3.mono (b' := w.heap.size) (by omega))
      have HL3 := Lib.hid (HL2.out.grown hg3 (HNE.out _ (Nat.le_succ _)))
      have HS3 := Lib.hid (HS2.out.grown hg3 (HNE.out _ (Nat.le_refl _)))
      have HT3 := Lib.hid (HT2.out.grown hg3 (by rintro h; exact HNE.out _ (Nat.le_of_lt (Nat.lt_succ_of_lt htl)) h.symm))
      have HU3 := Lib.hid (HO2.out.keptS hg3 HSEP.out)
      have HB3 := Lib.hid (HB2.out.trans (grown_belowOwn HOC.out hg3 (by omega) HB2.out.size))
      have hll := lev_len xs salt l
      clear ho3 hg3 HL2 HS2 HT2 HB2 HO2 HDF HOC HNE HSEP
      have hcl := HL3.out.cell (i := 0) (v := .int .i64 l) rfl
      by_cases hfw : few xs room salt l = true
      · have hO : dstO xs room salt fr = some l := lvl_some hl0 (by omega) hfw HF.out
        have h1 : L = l := by have := HD.out.1; unfold dstV at this; rw [hO] at this; exact this.symm
        have h2 : ys = lev xs salt l := by have := HD.out.2.1; unfold dstL at this; rw [hO] at this; exact this.symm
        have h3 : b = true := by have := HD.out.2.2; unfold dstK at this; rw [hO] at this; exact this.symm
        have hd : decide (((lev xs salt l).length : Int) ≤ room) = true := hfw
        subst h1 h2 h3
        clear hfw hO
        go_wp2
        go_ret3
        exact ⟨a2, c2, rfl, HO3.out, HB3.out⟩
      · have hfw' : few xs room salt l = false := by simpa using hfw
        have hd : decide (((lev xs salt l).length : Int) ≤ room) = false := hfw'
        have HF2 : Hid (∀ j, fr ≤ j → j < l + 1 → few xs room salt j = false) := Lib.hid (fun j h1 h2 => by
          by_cases hj : j = l
          · rw [hj]; exact hfw'
          · exact HF.out j h1 (by omega))
        have ew : IntKind.i64.wrap ((l : Int) + 1) = (l : Int) + 1 := IntWalk.i64_in _ (by omega)
        have hfz := HL3.out.free 0
        have HL4 := Lib.hid (HL3.out.set 0 (.int .i64 ((l : Int) + 1)))
        have HS4 := Lib.hid (HS3.out.far (p := ⟨w.heap.size, 0, none⟩) (by simp) (.int .i64 ((l : Int) + 1)))
        have HU4 := Lib.hid (HU3.out.setOff ⟨w.heap.size, 0, none⟩ (.int .i64 ((l : Int) + 1)) (fun q hq => by have := HZ1.out q hq; simp; omega))
        have HT4 : Hid (Tab (w3.setCell ⟨w.heap.size, 0, none⟩ (.int .i64 ((l : Int) + 1)))) := Lib.hid (HT3.out.grown (grown_setCell _ _ _) (fun h => absurd (Option.some.inj h) (by show ¬ w.heap.size = _; omega)))
        have HB4 := Lib.hid (HB3.out.setCell (p := ⟨w.heap.size, 0, none⟩) (by simp) (.int .i64 ((l : Int) + 1)))
        clear hfw hfw' HF HO3 HL3 HS3 HU3 HT3 HB3
        go_wp2
        go_roundg (33 - (l + 1))
        case measure => omega
        case rel => exact ⟨l + 1, by omega, by omega, by omega, HF2, HL4.out, HS4.out, HU4.out, HT4.out, HB4.out⟩
    · obtain rfl : l = 33 := by omega
      have hltz : decide (((33 : Nat) : Int) ≤ 32) = false := decide_eq_false (by omega)
      have hO : dstO xs room salt fr = none := lvl_none HF.out
      have h1 : L = 0 := by have := HD.out.1; unfold dstV at this; rw [hO] at this; exact this.symm
      have h2 : ys = [] := by have := HD.out.2.1; unfold dstL at this; rw [hO] at this; exact this.symm
      have h3 : b = false := by have := HD.out.2.2; unfold dstK at this; rw [hO] at this; exact this.symm
      subst h1 h2 h3
      clear hO
      go_wp2
      go_ret3
      exact retD_no HB1.out

end Go.Proofs.YtihbckoldblpcaaDoor
