/- The longest lines: plain. TopLines, BackLines, SlideLine: the program's texts on lines of a small vector. BackLines, SlideLine: the program's texts on lines of a small vector. FnFrequencies: the lines' texts on small vectors; what is told of the gaps. FnFrequencies: what is told of the lines that are kept. -/
import Derived.Test.YtfclkbppmkjkeaaQFq50
import Derived.Test.YtfclkbppmkjkeaaQFq40
import Derived.Test.YtfclkbppmkjkeaaQFq24
import Derived.Test.YtfclkbppmkjkeaaQFq25
import Derived.Test.YtfclkbppmkjkeaaQFq26
import Derived.Test.YtfclkbppmkjkeaaQFq27
import Derived.Test.YtfclkbppmkjkeaaQFq28
import Derived.Test.YtfclkbppmkjkeaaQFq23
namespace Go.Proofs.Ytfclkbppmkjkeaa
open Go.RowKit

/-- A float32 in parts of 2^-149. -/
def keyF (b : Nat) : Int := match FloatKind.f32.decode b with
  | .number s m e => (if s then -1 else 1) * ((m * 2 ^ (e + 149).toNat : Nat) : Int)
  | _ => 0
theorem keyF_val {b : Nat} (h : isN .f32 b) : val .f32 b = (keyF b : Rat) * tp (-149) := by
  obtain ⟨s, m, e, hd⟩ := h
  have hb := (read32_bd b hd).2.1
  have hk : keyF b = (if s then -1 else 1) * ((m * 2 ^ (e + 149).toNat : Nat) : Int) := by unfold keyF; rw [hd]
  have hv : val .f32 b = sg s * ((m : Rat) * tp e) := by unfold val; rw [hd]; rfl
  have ht := tp_shift (a := e) (b := -149) hb
  rw [show e - -149 = e + 149 by omega] at ht
  rw [hv, hk, ht]
  have h1 : (((m * 2 ^ (e + 149).toNat : Nat) : Int) : Rat) = (m : Rat) * ((2 ^ (e + 149).toNat : Nat) : Rat) := by rw [Rat.intCast_natCast, Rat.natCast_mul]
  cases s
  · rw [if_neg Bool.false_ne_true, Int.one_mul, h1]
    have : sg false = 1 := by simp [sg]
    rw [this]; grind
  · rw [if_pos rfl, Rat.intCast_mul, h1]
    have : sg true = -1 := by simp [sg]
    have e1 : ((-1 : Int) : Rat) = -1 := rfl
    rw [this, e1]; grind
theorem keyF_lt {a b : Nat} (ha : isN .f32 a) (hb : isN .f32 b) : val .f32 a < val .f32 b ↔ keyF a < keyF b := by
  rw [keyF_val ha, keyF_val hb]
  have hp := tp_pos (-149)
  constructor
  · intro h
    refine Int.lt_of_not_ge fun hge => ?_
    have := Rat.mul_le_mul_of_nonneg_right (Rat.intCast_le_intCast.2 hge) (Rat.le_of_lt hp)
    exact Rat.lt_irrefl (rlt_le h this)
  · intro h
    exact Rat.mul_lt_mul_of_pos_right (Rat.intCast_lt_intCast.2 h) hp
theorem cmpF_key {a b : Nat} (ha : isN .f32 a) (hb : isN .f32 b) : cmpF a b = cmp3 (-(keyF b)) (-(keyF a)) := by
  unfold cmpF cmp3
  by_cases h1 : val .f32 a < val .f32 b
  · have := (keyF_lt ha hb).1 h1
    rw [if_pos h1, if_pos (show -(keyF b) < -(keyF a) by omega)]
  · have g1 : ¬ keyF a < keyF b := fun h => h1 ((keyF_lt ha hb).2 h)
    rw [if_neg h1, if_neg (show ¬ -(keyF b) < -(keyF a) by omega)]
    by_cases h2 : val .f32 b < val .f32 a
    · have := (keyF_lt hb ha).1 h2
      rw [if_pos h2, if_pos (show -(keyF a) < -(keyF b) by omega)]
    · have g2 : ¬ keyF b < keyF a := fun h => h2 ((keyF_lt hb ha).2 h)
      rw [if_neg h2, if_neg (show ¬ -(keyF a) < -(keyF b) by omega)]
def lineAt (O : List (Nat × Nat)) (i : Nat) : Nat × Nat := O[i]?.getD default
def longAt (O : List (Nat × Nat)) (i : Nat) : Nat := longN (lineAt O i).1 (lineAt O i).2
def topK (O : List (Nat × Nat)) (i : Int) : Int := -(keyF (longAt O i.toNat))
/-- The first ones by a key. -/
structure PickOk (h : Int → Int) (n m : Nat) (sel : List Int) : Prop where
  len : sel.length = m
  rng : ∀ x ∈ sel, 0 ≤ x ∧ x < (n : Int)
  ord : ∀ i j : Nat, i < n → j < n → (i : Int) ∈ sel → ¬ (j : Int) ∈ sel → h i ≤ h j
  all : m = n → ∀ i : Nat, i < n → (i : Int) ∈ sel
theorem ordT_in {h : Int → Int} {n i : Nat} (hi : i < n) : tag (h i) i ∈ ordT h n := by
  unfold ordT tags
  rw [List.mem_map]
  exact ⟨i, by rw [List.mem_range, idxN_len]; exact hi, by rw [idxN_at hi]⟩
theorem pick_ok {h : Int → Int} {n : Nat} {room : Int} (hn : n ≤ 1048576) : PickOk h n (min n room.toNat) (pickL h n room) := by
  obtain ⟨m, hm⟩ : ∃ m, min n room.toNat = m := ⟨_, rfl⟩
  have hmn : m ≤ n := by omega
  obtain ⟨ts, hts⟩ : ∃ ts, srt (ordT h n) = ts := ⟨_, rfl⟩
  have hpm : ∀ t, t ∈ ts ↔ t ∈ ordT h n := fun t => by rw [← hts]; exact (srt_perm _).mem_iff
  have hpw : ts.Pairwise (· ≤ ·) := by rw [← hts]; exact srt_pw _
  have htl : ts.length = n := by rw [← hts, srt_len, ordT_len]
  have hsel : ∀ x, x ∈ pickL h n room ↔ ∃ t, t ∈ ts.take m ∧ t % tagM = x := by
    intro x
    unfold pickL ordL
    rw [hm, (srt_perm _).mem_iff, hts, ← List.map_take, List.mem_map]
  have htag : ∀ t, t ∈ ts → ∃ i : Nat, i < n ∧ t = tag (h i) i := fun t ht => ordT_mem ((hpm t).1 ht)
  rw [hm]
  refine ⟨?_, ?_, ?_, ?_⟩
  · unfold pickL
    rw [srt_len, List.length_take, ordL_len]
    omega
  · intro x hx
    obtain ⟨t, ht, rfl⟩ := (hsel x).1 hx
    obtain ⟨i, hi, rfl⟩ := htag t (List.mem_of_mem_take ht)
    rw [tag_mod _ (by omega)]
    omega
  · intro i j hi hj hin hout
    obtain ⟨t, ht, hti⟩ := (hsel i).1 hin
    obtain ⟨i', hi', rfl⟩ := htag t (List.mem_of_mem_take ht)
    rw [tag_mod _ (by omega)] at hti
    obtain rfl : i' = i := by omega
    have hj2 : tag (h j) j ∈ ts := (hpm _).2 (ordT_in hj)
    rw [← List.take_append_drop m ts] at hj2 hpw
    rcases List.mem_append.1 hj2 with g | g
    · exact absurd ((hsel j).2 ⟨_, g, tag_mod _ (by omega)⟩) hout
    · have := (List.pairwise_append.1 hpw).2.2 _ ht _ g
      unfold tag tagM at this
      omega
  · intro e i hi
    refine (hsel i).2 ⟨tag (h i) i, ?_, tag_mod _ (by omega)⟩
    rw [e, ← htl, List.take_length]
    exact (hpm _).2 (ordT_in hi)
/-- The lines that are kept; all others are 0. -/
def topL (O : List (Nat × Nat)) (sel : List Int) : List (Nat × Nat) := (List.range O.length).map fun k : Nat => if (k : Int) ∈ sel then lineAt O k else (0, 0)
theorem topL_len (O : List (Nat × Nat)) (sel : List Int) : (topL O sel).length = O.length := by simp [topL]
theorem topL_nil (O : List (Nat × Nat)) : topL O [] = List.replicate O.length (0, 0) := by
  refine List.ext_getElem (by simp [topL]) fun i h1 h2 => ?_
  simp [topL]
theorem topL_get {O : List (Nat × Nat)} {sel : List Int} {k : Nat} (h : k < O.length) : (topL O sel)[k]?.getD default = if (k : Int) ∈ sel then lineAt O k else (0, 0) := by
  simp [topL, h]
theorem topL_set {O : List (Nat × Nat)} {sel : List Int} {k : Nat} (h : k < O.length) : (topL O sel).set k (lineAt O k) = topL O (sel ++ [(k : Int)]) := by
  refine List.ext_getElem (by simp [topL]) fun i h1 h2 => ?_
  rw [List.getElem_set]
  simp only [topL, List.getElem_map, List.getElem_range, List.mem_append, List.mem_singleton]
  by_cases e : k = i
  · subst e; simp
  · rw [if_neg e]
    have : ¬ (i : Int) = (k : Int) := by omega
    simp [this]
/-- How many of n places are in a list. -/
theorem cnt_one (a : Int) : ∀ n : Nat, (List.range n).countP (fun i : Nat => decide ((i : Int) = a)) ≤ 1 ∧ (¬ (0 ≤ a ∧ a < (n : Int)) → (List.range n).countP (fun i : Nat => decide ((i : Int) = a)) = 0)
  | 0 => ⟨by simp, fun _ => by simp⟩
  | n + 1 => by
    obtain ⟨h1, h2⟩ := cnt_one a n
    rw [List.range_succ, List.countP_append, List.countP_singleton]
    by_cases e : (n : Int) = a
    · have := h2 (by omega)
      rw [this, decide_eq_true e]
      exact ⟨by simp, fun h => absurd (show 0 ≤ a ∧ a < ((n + 1 : Nat) : Int) by omega) h⟩
    · rw [decide_eq_false e]
      simp only [Bool.false_eq_true, if_false, Nat.add_zero]
      exact ⟨h1, fun h => h2 (fun g => h (by omega))⟩
theorem cnt_in (n : Nat) : ∀ sel : List Int, (List.range n).countP (fun i : Nat => decide ((i : Int) ∈ sel)) ≤ sel.length
  | [] => by simp
  | a :: sel => by
    have h := cnt_in n sel
    have h1 := (cnt_one a n).1
    have h2 : (List.range n).countP (fun i : Nat => decide ((i : Int) ∈ a :: sel)) ≤ (List.range n).countP (fun i : Nat => decide ((i : Int) = a)) + (List.range n).countP (fun i : Nat => decide ((i : Int) ∈ sel)) := by
      generalize List.range n = l
      induction l with
      | nil => simp
      | cons x l ih =>
        simp only [List.countP_cons]
        by_cases e1 : (x : Int) = a <;> by_cases e2 : (x : Int) ∈ sel <;> simp [e1, e2] at ih ⊢ <;> omega
    rw [List.length_cons]
    omega

end Go.Proofs.Ytfclkbppmkjkeaa

namespace Go.Proofs.Ytfclkbppmkjkeaa
open Go.RowKit
attribute [local go_sem ↓] Go.wp_at_zero Go.wp_at_succ

def LongsV (O : List (Nat × Nat)) : Prop := ∀ i, i < O.length → LongV (lineAt O i).1 (lineAt O i).2
theorem run_store_cz {P : Program} : ∀ (w : World) (a : Addr) (r i : Nat) (m : Mode), (store a (.complex .f32 r i) m).run P w = stored P w a (.complex .f32 r i) m := fun w a r i m => run_store P w a _ m rfl
theorem call_top1 (vs : Array Value) (w : World) : (callFunc 113 vs).run Try.prog w = .ok (.enter 113 vs) w := by kernel_rfl
theorem call_top2 (vs : Array Value) (w : World) : (callFunc 116 vs).run Try.prog w = .ok (.enter 116 vs) w := by kernel_rfl
theorem top1_any {z : Nat × Nat} {w : World} (L : LongV z.1 z.2) : Calls Try.prog 113 #[cplx z] w fun e w' => e = .returned (.bool false) ∧ Below w.heap.size w w' := by
  have HL := Lib.hid (fun w : World => implLong_any (w := w) L)
  have HF := Lib.hid (fun w : World => isFinite_any (x := longN z.1 z.2) (w := w))
  rw [cn_isN L.N, finIsN L.N] at HF
  clear L
  show Calls Try.prog _ #[.complex .f32 z.1 z.2] w _
  generalize longN z.1 z.2 = ln at *
  generalize z.1 = r at *
  generalize z.2 = i at *
  go_enter Try.func113, Try.ntmps113
  go_wp2_with fail
  refine (HL.out _).mono ?_
  rintro e w1 ⟨rfl, rfl⟩
  go_wp2_with fail
  refine (HF.out _).mono ?_
  rintro e w1 ⟨rfl, hb⟩
  go_wp2
  go_ret
  exact ⟨rfl, hb⟩
set_option maxHeartbeats 1000000 in
theorem top2_any {a : Option Addr} {c b n : Nat} {O : List (Nat × Nat)} {w : World} (hr : Rd cplx w a c O) (hs : w.cell? ⟨b, 0, none⟩ = some (.slice a n c)) (hl : O.length = n) (hL : LongsV O) {i j : Nat} (hi : i < n) (hj : j < n) :
    Calls Try.prog 116 #[.int .i64 (i : Int), .int .i64 (j : Int), .pointer (some ⟨b, 0, none⟩)] w fun e w' => e = .returned (.int .i64 (cmp3 (topK O i) (topK O j))) ∧ ∃ q, w' = w.drewN q := by
  have LI := hL i (by omega)
  have LJ := hL j (by omega)
  have hcmp : cmpF (longAt O j) (longAt O i) = cmp3 (topK O i) (topK O j) := by
    exact cmpF_key LJ.N LI.N
  rw [← hcmp]
  have HLI := Lib.hid LI
  have HLJ := Lib.hid LJ
  have ixi := fun w' : World => hr.idx und_cs siz_cs w' i (by omega)
  have ixj := fun w' : World => hr.idx und_cs siz_cs w' j (by omega)
  rw [hl] at ixi ixj
  have cli : w.cell? (elt a i) = some (.complex .f32 (lineAt O i).1 (lineAt O i).2) := hr.cell i (by omega)
  have clj : w.cell? (elt a j) = some (.complex .f32 (lineAt O j).1 (lineAt O j).2) := hr.cell j (by omega)
  have eL : ∀ k, longAt O k = longN (lineAt O k).1 (lineAt O k).2 := fun _ => rfl
  rw [eL, eL]
  have HC := Lib.hid (And.intro LJ.N LI.N)
  clear eL hcmp LI LJ hL hr
  generalize (lineAt O i).1 = r1 at *
  generalize (lineAt O i).2 = i1 at *
  generalize (lineAt O j).1 = r2 at *
  generalize (lineAt O j).2 = i2 at *
  obtain ⟨z, hz⟩ : ∃ z, cmpF (longN r2 i2) (longN r1 i1) = z := ⟨_, rfl⟩
  have HCF : Hid (∀ w : World, Calls Try.prog 117 #[.float .f32 (longN r2 i2), .float .f32 (longN r1 i1)] w fun e w' => e = .returned (.int .i64 z) ∧ w = w') := Lib.hid (fun w => by rw [← hz]; exact compareF_any HC.out.1 HC.out.2)
  rw [hz]
  have HL1 : Hid (∀ w : World, Calls Try.prog 114 #[.complex .f32 r1 i1] w fun e w' => e = .returned (.float .f32 (longN r1 i1)) ∧ w = w') := Lib.hid (fun w => implLong_any HLI.out)
  have HL2 : Hid (∀ w : World, Calls Try.prog 114 #[.complex .f32 r2 i2] w fun e w' => e = .returned (.float .f32 (longN r2 i2)) ∧ w = w') := Lib.hid (fun w => implLong_any HLJ.out)
  have hg1 : LongV r1 i1 := HLI.out
  have hg2 : LongV r2 i2 := HLJ.out
  clear hz HC HLI HLJ
  go_enter Try.func116, Try.ntmps116
  go_wp2_with fail
  go_quiet (first | (go_at_call 114; exact quietQ (implLong_any (by assumption))) | (go_at_call 117; exact quietQ (HCF.out _)))
  go_wp2
  go_ret
  exact ⟨rfl, nq, rfl⟩

set_option maxRecDepth 8000 in
set_option maxHeartbeats 4000000 in
theorem implTop_any {a : Option Addr} {c n : Nat} {keep : Nat} {O : List (Nat × Nat)} {w : World} (hr : Rd cplx w a c O) (hl : O.length = n) (hn1 : 1 ≤ n) (hn2 : n ≤ 12) (hk : keep ≤ n) (hL : LongsV O) :
    Calls Try.prog 52 #[.slice a n c, .int .i64 (keep : Int)] w fun e w' => ∃ a' c', e = .returned (.tuple #[.slice a' n c', .bool true]) ∧ Rd cplx w' a' c' (topL O (pickL (topK O) n (keep : Int))) ∧ Below w.heap.size w w' := by
  have hb0 : Below w.heap.size w (w.alloc (.cells #[.slice a n c] 68)) := (Below.refl _ _).alloc (Nat.le_refl _) _
  have hc0 : (w.alloc (.cells #[.slice a n c] 68)).cell? ⟨w.heap.size, 0, none⟩ = some (.slice a n c) := World.cell?_alloc_at _ _ _ _ rfl
  have hr0 := hr.below hb0 (Nat.le_refl _)
  have hall : (O.all fun z => cfin (cn2 z)) = true := by
    rw [List.all_eq_true]
    intro z hz
    obtain ⟨i, hi, rfl⟩ := List.getElem_of_mem hz
    have L := hL i hi
    have e : lineAt O i = O[i] := by unfold lineAt; rw [List.getElem?_eq_getElem hi]; rfl
    rw [e] at L
    unfold cfin cn2
    rw [cn_isN L.rN, cn_isN L.iN, finIsN L.rN, finIsN L.iN]
    rfl
  have hAL := areLines_any hr0 (by omega) (by omega)
  rw [hall, hl] at hAL
  have HAL := Lib.hid hAL
  have HR0 := Lib.hid hr0
  have HB0 := Lib.hid hb0
  have HLL := Lib.hid hL
  have HLE := Lib.hid hl
  have HC0 := Lib.hid hc0
  have hw : inR (keep : Int) 0 (n : Int) = true := (inR_eq _ _ _).2 ⟨by omega, by omega⟩
  have hc0 := HC0.out
  clear hr hb0 hr0 hall hAL hL hl
  go_enter Try.func52, Try.ntmps52
  go_wp2_with fail
  refine HAL.out.mono ?_
  rintro e w1 ⟨rfl, hb1⟩
  have HB1 := Lib.hid (HB0.out.trans (hb1.mono HB0.out.size))
  have HR1 := Lib.hid (HR0.out.below hb1 (Nat.le_refl _))
  have hc1 := k_below hb1 (Nat.le_refl _) hc0
  clear hc0 hb1 HAL HR0 HB0 HC0
  go_wp2_with fail
  refine (within_any _ _ _ _).mono ?_
  rintro e w2 ⟨rfl, rfl⟩
  rw [hw]
  have hCF := containsFuncc_any a c O w1 113 #[] (fun _ => false) call_top1 HR1.out (fun k hk wr hb => by
    have L := HLL.out k hk
    have e : lineAt O k = O[k] := by unfold lineAt; rw [List.getElem?_eq_getElem hk]; rfl
    rw [e] at L
    exact top1_any L)
  have hany : (O.any fun _ => false) = false := by simp
  rw [hany, HLE.out] at hCF
  have HCF := Lib.hid hCF
  clear hCF hany hw
  go_wp2_with fail
  refine HCF.out.mono ?_
  rintro e w2 ⟨rfl, hb2⟩
  have HB2 := Lib.hid (HB1.out.trans (hb2.mono HB1.out.size))
  have HR2 := Lib.hid (HR1.out.below hb2 (Nat.le_refl _))
  have hc2 := k_below hb2 (Nat.le_refl _) hc1
  have HC2 := Lib.hid hc2
  have hFO := firstOf0_any (n := n) (room := (keep : Int)) (F := 116) (caps := #[.pointer (some ⟨w.heap.size, 0, none⟩)]) (h := topK O) (w := w2) ⟨hn1, by omega⟩ ⟨by omega, by omega⟩ call_top2
    (fun w' hb i j hi hj => top2_any (HR2.out.below hb (Nat.le_refl _)) (k_below hb (Nat.le_refl _) HC2.out) HLE.out HLL.out hi hj)
  have HFO := Lib.hid hFO
  clear hFO hb2 hc1 HB1 HR1 HCF
  go_wp2_with fail
  refine HFO.out.mono ?_
  rintro e w3 ⟨ak, ck, bh, rfl, -, hok, hb3⟩
  have HP := Lib.hid (pick_ok (h := topK O) (n := n) (room := (keep : Int)) (by omega))
  obtain ⟨sel, hsel⟩ : ∃ sel, pickL (topK O) n (keep : Int) = sel := ⟨_, rfl⟩
  rw [hsel] at hok HP ⊢
  have HSEL := Lib.hid hsel
  have hs12 : sel.length ≤ 12 := by rw [HP.out.len]; omega
  have HK := Lib.hid hok.rd
  have HB3 := Lib.hid (HB2.out.trans (hb3.mono HB2.out.size))
  have HR3 := Lib.hid (HR2.out.below hb3 (Nat.le_refl _))
  have hc3 := k_below hb3 (Nat.le_refl _) hc2
  have HC3 := Lib.hid hc3
  clear hok hb3 hc2 HC2 HFO HB2 HR2 hsel
  go_wp2_with (at_make; refine wpl_make (f := cplx) (d := (0, 0)) und_cse info_c rfl n rfl _ _ rfl rfl rfl (by omega) (by omega) ?_; intro w4 ho0 hb0)
  have hbz := HB3.out.size
  have HO4 : Hid (Own cplx 72 w4 w3.heap.size (some ⟨w3.heap.size, 0, none⟩) n (topL O [])) := Lib.hid (by rw [topL_nil, HLE.out]; exact ho0)
  have HB4 := Lib.hid hb0
  generalize hsa : some ({ block := w3.heap.size, off := 0 } : Addr) = ao at *
  clear ho0 hc3 hsa
  go_loopw [10, 38] (fun _ iv wr => ∃ p : Nat, p ≤ sel.length ∧ iv = .int .i64 (p : Int) ∧ Hid (Own cplx 72 wr w3.heap.size ao n (topL O (sel.take p))) ∧ Hid (Below w3.heap.size w3 wr)) (fun _ iv _ => sel.length - (intOf iv).toNat)
  case atStart => exact ⟨0, Nat.zero_le _, rfl, HO4, HB4⟩
  case round =>
    clear HO4 HB4 hb0
    obtain ⟨p, hp, rfl, HO, HB⟩ := hrel
    obtain ⟨wi, rfl⟩ : ∃ z : World, z = wr := ⟨_, rfl⟩
    by_cases hlt : p < sel.length
    · have hlz : (p : Int) < (sel.length : Int) := by omega
      have rk := HK.out.below HB.out (Nat.le_refl _)
      have ixk := fun w' : World => rk.idx und_is siz_is w' p hlt
      obtain ⟨x, hx⟩ : ∃ x, at0 sel p = x := ⟨_, rfl⟩
      have clk := at0_cell rk hlt hx
      have hxm : x ∈ sel := by rw [← hx]; unfold at0; rw [List.getElem?_eq_getElem hlt]; exact List.getElem_mem hlt
      obtain ⟨x0, x1⟩ := HP.out.rng x hxm
      obtain ⟨q, rfl⟩ := Int.eq_ofNat_of_zero_le x0
      have hq : q < n := by omega
      have hst : sel.take (p + 1) = sel.take p ++ [(q : Int)] := by
        rw [List.take_add_one, List.getElem?_eq_getElem hlt]
        have : sel[p] = (q : Int) := by rw [← hx]; unfold at0; rw [List.getElem?_eq_getElem hlt]; rfl
        rw [this]; rfl
      have rO := HR3.out.below HB.out (Nat.le_refl _)
      have ixq := fun w' : World => rO.idx und_cs siz_cs w' q (by rw [HLE.out]; exact hq)
      rw [HLE.out] at ixq
      have clq : wi.cell? (elt a q) = some (.complex .f32 (lineAt O q).1 (lineAt O q).2) := rO.cell q (by rw [HLE.out]; exact hq)
      have hbx := k_below HB.out (Nat.le_refl _) HC3.out
      have hio := HO.out.idx und_cs siz_cs
      have htl : (topL O (sel.take p)).length = n := by rw [topL_len, HLE.out]
      obtain ⟨u0, hcs⟩ : ∃ u, wi.cell? (elt ao q) = some u := ⟨_, HO.out.cell q (by rw [htl]; exact hq)⟩
      have hfz := HO.out.free q (by rw [htl]; exact hq)
      rw [htl] at hio
      have hqz : (q : Int) < (n : Int) := by omega
      have hsf := @run_store_cz Try.prog
      have hse := HO.out.set q (by rw [htl]; exact hq) (lineAt O q)
      rw [topL_set (by rw [HLE.out]; exact hq), ← hst] at hse
      have hse1 : Own cplx 72 (wi.setCell (elt ao q) (.complex .f32 (lineAt O q).1 (lineAt O q).2)) w3.heap.size ao n (topL O (sel.take (p + 1))) := hse.1
      have hse2 : wi.grownBy (wi.setCell (elt ao q) (.complex .f32 (lineAt O q).1 (lineAt O q).2)) (ao.map (·.block)) := hse.2
      have HO2 := Lib.hid hse1
      have HB2 := Lib.hid (HB.out.trans (grown_belowOwn HO.out hse2 (Nat.le_refl _) HB.out.size))
      have ek : IntKind.i64.wrap ((p : Int) + 1) = (p : Int) + 1 := IntWalk.i64_in _ (by omega)
      clear rk rO hst hse hse1 hse2 hx hxm x0 htl HO HB
      generalize (lineAt O q).1 = zr at *
      generalize (lineAt O q).2 = zi at *
      go_wp2_with fail
      go_roundw
      case rel => exact ⟨p + 1, by omega, by go_num, HO2, HB2⟩
      case measure => simp [intOf]; omega
    · obtain rfl : p = sel.length := by omega
      have hlz : ¬ (sel.length : Int) < (sel.length : Int) := by omega
      have HO2 : Hid (Rd cplx wi ao n (topL O sel)) := Lib.hid (by have := HO.out.rd; rwa [List.take_length] at this)
      have HB2 := Lib.hid (HB3.out.trans (HB.out.mono HB3.out.size))
      clear HO HB
      go_wp2
      go_ret2
      exact ⟨ao, n, rfl, by rw [HSEL.out]; exact HO2.out, HB2.out⟩

end Go.Proofs.Ytfclkbppmkjkeaa

namespace Go.Proofs.Ytfclkbppmkjkeaa
open Go.RowKit
attribute [local go_sem ↓] Go.wp_at_zero Go.wp_at_succ

theorem backS_ok {xs : List Nat} {zs : List Int} {n j : Nat} (hb : ∀ i, (at0 zs i).natAbs ≤ 16) (L : LinesOk xs zs n) (hn1 : 1 ≤ n) (hn2 : n ≤ 12) (hP : PhT n) (hj : j < n) {k : Nat} (hk : k < n) :
    BpOk ((linsR xs)[k]?.getD default) (j * k) n ∧ isN .f32 (bpRe ((linsR xs)[k]?.getD default) (j * k) n) ∧ isN .f32 (bpIm ((linsR xs)[k]?.getD default) (j * k) n) := by
  obtain ⟨_, N⟩ := L.at' k hk
  obtain ⟨⟨b1, b2⟩, ⟨b3, b4⟩⟩ := line_bd (zs := zs) (n := n) (k := k) hb hn1 hn2 n
  obtain ⟨m0, m12⟩ := nat_le12 hn2
  have ht : j * k ≤ 32 * n := by have := Nat.mul_le_mul (show j ≤ 12 by omega) (show k ≤ n by omega); omega
  obtain ⟨B, pN, qN, _⟩ := bp_near (t := j * k) (n := n) N.rN N.iN (R := lineRe zs n k n) (I := lineIm zs n k n) (by grind) (by grind) (by grind) (by grind) (by have := N.r1; grind) (by have := N.r2; grind) (by have := N.i1; grind) (by have := N.i2; grind) (hP _ (prods_in hn2 hj hk)) hn1 hn2 ht
  exact ⟨B, pN, qN⟩
/-- A number that has led back. -/
def BackOk (zs : List Int) (j b : Nat) : Prop := isN .f32 b ∧ (at0 zs j : Rat) / 4 - 45 / 100000 ≤ val .f32 b ∧ val .f32 b ≤ (at0 zs j : Rat) / 4 + 45 / 100000

set_option maxRecDepth 20000 in
set_option maxHeartbeats 4000000 in
theorem implBack_any {a : Option Addr} {c n : Nat} {xs : List Nat} {zs : List Int} {w : World} (hr : Rd cplx w a c (linsR xs)) (L : LinesOk xs zs n) (hb : ∀ i, (at0 zs i).natAbs ≤ 16) (hn1 : 1 ≤ n) (hn2 : n ≤ 12) (hP : PhT n) :
    Calls Try.prog 47 #[.slice a n c] w fun e w' => ∃ a' c' bs, e = .returned (.tuple #[.slice a' n c', .bool true]) ∧ bs.length = n ∧ (∀ j, j < n → BackOk zs j (bs[j]?.getD default)) ∧ Rd (Value.float .f32) w' a' c' bs ∧ Below w.heap.size w w' := by
  have HLEN := Lib.hid L.len
  have HN : Hid (∀ k, k < n → isN .f32 ((linsR xs)[k]?.getD default).1 ∧ isN .f32 ((linsR xs)[k]?.getD default).2) := Lib.hid (fun k hk => ⟨(L.at' k hk).2.rN, (L.at' k hk).2.iN⟩)
  have HBP : Hid (∀ j k, j < n → k < n → BpOk ((linsR xs)[k]?.getD default) (j * k) n ∧ isN .f32 (bpRe ((linsR xs)[k]?.getD default) (j * k) n) ∧ isN .f32 (bpIm ((linsR xs)[k]?.getD default) (j * k) n)) := Lib.hid (fun j k hj hk => backS_ok hb L hn1 hn2 hP hj hk)
  have HBN : Hid (∀ j, j < n → ∃ r i, backS (linsR xs) j n n = (some r, some i) ∧ fbin .quo .f32 (some r) (some (floatOfInt .f32 (n : Int))) = some (fo3 .quo r (floatOfInt .f32 (n : Int))) ∧ BackOk zs j (fo3 .quo r (floatOfInt .f32 (n : Int)))) := Lib.hid (fun j hj => by
    obtain ⟨r, i, e, _, _, q, N, g1, g2⟩ := back_near hb L hn1 hn2 hP hj
    exact ⟨r, i, e, q, N, g1, g2⟩)
  have HBS : Hid (∀ j k, backS (linsR xs) j n (k + 1) = (fbin .add .f32 (backS (linsR xs) j n k).1 (some (bpRe ((linsR xs)[k]?.getD default) (j * k) n)), fbin .add .f32 (backS (linsR xs) j n k).2 (some (bpIm ((linsR xs)[k]?.getD default) (j * k) n)))) := Lib.hid (fun _ _ => rfl)
  have HB0 : Hid (∀ j, backS (linsR xs) j n 0 = (some 0, some 0)) := Lib.hid (fun _ => rfl)
  generalize hO : linsR xs = O at *
  have hall : (O.all fun z => cfin (cn2 z)) = true := by
    rw [List.all_eq_true]
    intro z hz
    obtain ⟨i, hi, rfl⟩ := List.getElem_of_mem hz
    obtain ⟨h1, h2⟩ := HN.out i (by rw [← HLEN.out]; exact hi)
    rw [List.getElem?_eq_getElem hi, Option.getD_some] at h1 h2
    unfold cfin cn2
    rw [cn_isN h1, cn_isN h2, finIsN h1, finIsN h2]
    rfl
  have hAL := areLines_any hr (by rw [HLEN.out]; omega) (by rw [HLEN.out]; omega)
  rw [hall, HLEN.out] at hAL
  have HAL := Lib.hid hAL
  have HR := Lib.hid hr
  generalize hbs : backS O = bS at *
  clear hr hall hAL L hb hP hO hbs
  go_enter Try.func47, Try.ntmps47
  go_wp2_with fail
  refine HAL.out.mono ?_
  rintro e w1 ⟨rfl, hb1⟩
  have HE := Lib.hid (own_empty (f := Value.float .f32) (e := 28) (α := Nat) w1 (by_ := 0) w.heap.size hb1.size rfl)
  have HB1 := Lib.hid (hb1.alloc hb1.size (.cells #[] 28))
  clear hb1 HAL
  go_wp2_with fail
  go_loopw [5, 18] (fun o jv wr => ∃ (j : Nat) (b : Option Addr) (cc : Nat) (bs : List Nat), j ≤ n ∧ jv = .int .i64 (j : Int) ∧ o = .slice b bs.length cc ∧ bs.length ≤ 12 ∧ Hid (bs.length = j) ∧ Hid (∀ i, i < j → BackOk zs i (bs[i]?.getD default)) ∧ Hid (Own (Value.float .f32) 28 wr w.heap.size b cc bs) ∧ Hid (Below w.heap.size w wr)) (fun _ jv _ => n - (intOf jv).toNat)
  case atStart => exact ⟨0, _, _, [], Nat.zero_le _, rfl, rfl, by simp, Lib.hid rfl, Lib.hid (fun i hi => absurd hi (Nat.not_lt_zero _)), HE, HB1⟩
  case round =>
    clear HE HB1
    obtain ⟨j, b, cc, bs, hj, rfl, rfl, hb12, HBL, HBO, HO, HB⟩ := hrel
    obtain ⟨wj, rfl⟩ : ∃ z : World, z = wr := ⟨_, rfl⟩
    by_cases hlt : j < n
    · have hlz : (j : Int) < (n : Int) := by omega
      go_wp2_with fail
      clear hlz
      go_loopw [7, 23] (fun si ki wr => ∃ k r i : Nat, k ≤ n ∧ si = .complex .f32 r i ∧ ki = .int .i64 (k : Int) ∧ Hid (cn .f32 r = (bS j n k).1) ∧ Hid (cn .f32 i = (bS j n k).2) ∧ Hid (Below wj.heap.size wj wr)) (fun _ ki _ => n - (intOf ki).toNat)
      case atStart => exact ⟨0, 0, 0, by omega, rfl, rfl, Lib.hid (by rw [HB0.out]; exact cn_zero), Lib.hid (by rw [HB0.out]; exact cn_zero), Lib.hid (Below.refl _ _)⟩
      case round =>
        obtain ⟨k, r, i, hk, rfl, rfl, H1, H2, HBK⟩ := hrel
        by_cases hlk : k < n
        · have hlz : (k : Int) < (n : Int) := by omega
          have ewk : IntKind.i64.wrap ((k : Int) + 1) = (k : Int) + 1 := IntWalk.i64_in _ (by omega)
          obtain ⟨wk, rfl⟩ : ∃ z : World, z = wr := ⟨_, rfl⟩
          have rk := HR.out.below (HB.out.trans (HBK.out.mono HB.out.size)) (Nat.le_refl _)
          have hix := fun w' : World => rk.idx und_cs siz_cs w' k (by rw [HLEN.out]; exact hlk)
          rw [HLEN.out] at hix
          have hcx : wk.cell? (elt a k) = some (.complex .f32 (O[k]?.getD default).1 (O[k]?.getD default).2) := rk.cell k (by rw [HLEN.out]; exact hlk)
          have HSS := Lib.hid (HBS.out j k)
          have HP2 := Lib.hid (HBP.out j k hlt hlk)
          have HNN := Lib.hid (HN.out k hlk)
          have HV : Hid (MulV (O[k]?.getD default).1 (O[k]?.getD default).2 (narP (phaRe (quoT (j * k) n))) (narP (phaIm (quoT (j * k) n)))) := Lib.hid HP2.out.1.V
          have eR : ∀ z : Nat × Nat, bpRe z (j * k) n = narP (mRe (wid z.1) (wid z.2) (wid (narP (phaRe (quoT (j * k) n)))) (wid (narP (phaIm (quoT (j * k) n))))) := fun _ => rfl
          have eI : ∀ z : Nat × Nat, bpIm z (j * k) n = narP (mIm (wid z.1) (wid z.2) (wid (narP (phaRe (quoT (j * k) n)))) (wid (narP (phaIm (quoT (j * k) n))))) := fun _ => rfl
          have HT := Lib.hid (And.intro HP2.out.1.T (And.intro HP2.out.1.c HP2.out.1.s))
          have HQ := Lib.hid (And.intro HP2.out.2.1 HP2.out.2.2)
          rw [eR, eI] at HSS HQ
          clear eR eI rk HP2
          generalize (O[k]?.getD default).1 = zr at *
          generalize (O[k]?.getD default).2 = zi at *
          go_wp2_with fail
          refine (turnsOf_any HT.out.1 (by omega) (by omega)).mono ?_
          rintro e w' ⟨rfl, rfl⟩
          go_wp2_with fail
          refine (implPhasor_any (x := quoT (j * k) n) HT.out.1.qN HT.out.1.qw (by have := HT.out.1.q0; grind) (by have := HT.out.1.q1; grind)).mono ?_
          rintro e w' ⟨rfl, rfl⟩
          go_wp2_with fail
          refine (implMul_any HNN.out.1 HNN.out.2 HT.out.2.1 HT.out.2.2 HV.out.M).mono ?_
          rintro e w' ⟨rfl, rfl⟩
          generalize narP (mRe (wid zr) (wid zi) (wid (narP (phaRe (quoT (j * k) n)))) (wid (narP (phaIm (quoT (j * k) n))))) = pr at *
          generalize narP (mIm (wid zr) (wid zi) (wid (narP (phaRe (quoT (j * k) n)))) (wid (narP (phaIm (quoT (j * k) n))))) = pi at *
          go_wp2_with fail
          refine cadd_any.mono ?_
          rintro e w1 ⟨r1, i1, rfl, h1, h2, b1⟩
          have H3 : Hid (cn .f32 r1 = (bS j n (k + 1)).1) := Lib.hid (by rw [HSS.out, h1]; show fbin .add .f32 (cn .f32 r) (cn .f32 pr) = _; rw [cn_isN HQ.out.1, H1.out])
          have H4 : Hid (cn .f32 i1 = (bS j n (k + 1)).2) := Lib.hid (by rw [HSS.out, h2]; show fbin .add .f32 (cn .f32 i) (cn .f32 pi) = _; rw [cn_isN HQ.out.2, H2.out])
          have HB1 := Lib.hid (HBK.out.trans (b1.mono HBK.out.size))
          clear h1 h2 b1 H1 H2 HSS hix hcx HV HT HNN HQ HBK
          go_wp2
          go_roundw
          case rel => exact ⟨k + 1, r1, i1, by omega, rfl, by go_num, H3, H4, HB1⟩
          case measure => simp [intOf]; omega
        · obtain rfl : k = n := by omega
          have hlz : ¬ (k : Int) < (k : Int) := by omega
          obtain ⟨wk, rfl⟩ : ∃ z : World, z = wr := ⟨_, rfl⟩
          obtain ⟨R, I, eS, eq', hBO⟩ := HBN.out j hlt
          have h1 := H1.out
          rw [eS] at h1
          obtain rfl := (cn_some h1).1
          have ha := ar3 eq' 28
          have HX := Lib.hid hBO
          have hcv : ∀ w' : World, (convert 3 28 (.int .i64 (k : Int))).run Try.prog w' = .ok (.float .f32 (floatOfInt .f32 (k : Int))) w' := fun w' => run_convert_int_float w' _ _ _ _ _ (by kernel_rfl) und_f32k
          generalize fo3 .quo r (floatOfInt .f32 (k : Int)) = y at ha HX
          generalize floatOfInt .f32 (k : Int) = fk at ha hcv
          have HO2 := Lib.hid (HO.out.below HBK.out (Nat.le_refl _))
          have HB2 := Lib.hid (HB.out.trans (HBK.out.mono HB.out.size))
          have hzk := HB2.out.size
          have ewj : IntKind.i64.wrap ((j : Int) + 1) = (j : Int) + 1 := IntWalk.i64_in _ (by omega)
          clear eS eq' hBO h1 H1 H2 HO HB HBK
          go_wp2_with (at_builtin; refine wpl_append1 (f := Value.float .f32) (d := 0) (base := w.heap.size) und_fse info_f (fun _ => rfl) y HO2.out rfl _ _ rfl rfl rfl (by omega) (by omega) hzk ?_; intro a4 c4 w4 ho4 hg4)
          go_roundw
          case rel => exact ⟨j + 1, a4, c4, bs ++ [y], by omega, by go_num, by simp, by have := HBL.out; simp; omega, Lib.hid (by simp [HBL.out]), Lib.hid (fun i hi => by
            have hbl := HBL.out
            rcases Nat.lt_or_ge i j with g | g
            · rw [List.getElem?_append_left (by omega)]; exact HBO.out i g
            · have e : i = bs.length := by omega
              subst e
              rw [List.getElem?_append_right (Nat.le_refl _), Nat.sub_self]
              rw [hbl]; exact HX.out), Lib.hid ho4, Lib.hid (HB2.out.trans (grown_belowOwn HO2.out hg4 (Nat.le_refl _) hzk))⟩
          case measure => simp [intOf]; omega
    · obtain rfl : j = n := by omega
      have hlz : ¬ (j : Int) < (j : Int) := by omega
      have hfin : fins bs = true := fins_of (fun x hx => by
        obtain ⟨i, hi, rfl⟩ := List.getElem_of_mem hx
        have := HBO.out i (by rw [← HBL.out]; exact hi)
        rw [List.getElem?_eq_getElem hi, Option.getD_some] at this
        exact this.1)
      have HF := Lib.hid (ifAllFinite_any HO.out.rd)
      rw [hfin, if_pos rfl] at HF
      clear hfin
      go_wp2_with fail
      refine HF.out.mono ?_
      rintro e w2 ⟨rfl, hb2⟩
      have HR2 := Lib.hid (HO.out.rd.below hb2 (Nat.le_refl _))
      have HB2 := Lib.hid (HB.out.trans (hb2.mono HB.out.size))
      clear hb2 HO HB HF
      go_wp2
      go_ret2
      exact ⟨b, cc, bs, by rw [HBL.out]; rfl, HBL.out, HBO.out, HR2.out, HB2.out⟩

set_option maxHeartbeats 2000000 in
theorem implSlide_any {z : Nat × Nat} {x0 y k n : Nat} {w : World} (S : SlideOk z x0 y k n) (h1 : isN .f32 z.1) (h2 : isN .f32 z.2) (hx : isN .f32 x0) (hy : isN .f32 y) (hk : k < n) (hn : n ≤ 12) :
    Calls Try.prog 49 #[.complex .f32 z.1 z.2, .int .i64 (k : Int), .int .i64 (n : Int), .float .f32 x0, .float .f32 y] w fun e w' => e = .returned (.tuple #[.complex .f32 (bpRe (fo3 .add (fo3 .sub z.1 x0) y, z.2) k n) (bpIm (fo3 .add (fo3 .sub z.1 x0) y, z.2) k n), .bool true]) ∧ Below w.heap.size w w' := by
  have HC := Lib.hid (fun w : World => isFinC_any (r := z.1) (i := z.2) (w := w))
  have HX := Lib.hid (fun w : World => isFinite_any (x := x0) (w := w))
  have HY := Lib.hid (fun w : World => isFinite_any (x := y) (w := w))
  have hc : cfin (cn .f32 z.1, cn .f32 z.2) = true := by unfold cfin; rw [cn_isN h1, cn_isN h2, finIsN h1, finIsN h2]; rfl
  rw [hc] at HC
  rw [cn_isN hx, finIsN hx] at HX
  rw [cn_isN hy, finIsN hy] at HY
  have hw1 : inR (n : Int) 1 32 = true := (inR_eq _ _ _).2 ⟨by omega, by omega⟩
  have hw2 : inR (k : Int) 0 ((n : Int) - 1) = true := (inR_eq _ _ _).2 ⟨by omega, by omega⟩
  have ewn : IntKind.i64.wrap ((n : Int) - 1) = (n : Int) - 1 := IntWalk.i64_in _ (by omega)
  have ad := ar3 S.d 28
  have aa := ar3 S.a 28
  have T1 : TurnsOk (1 * k) n := by rw [Nat.one_mul]; exact S.B.T
  have HT := Lib.hid (And.intro T1 (And.intro S.B.c (And.intro S.B.s (And.intro S.B.V.M (And.intro S.aN (And.intro S.rN S.iN))))))
  have eR : bpRe (fo3 .add (fo3 .sub z.1 x0) y, z.2) k n = narP (mRe (wid (fo3 .add (fo3 .sub z.1 x0) y)) (wid z.2) (wid (narP (phaRe (quoT k n)))) (wid (narP (phaIm (quoT k n))))) := rfl
  have eI : bpIm (fo3 .add (fo3 .sub z.1 x0) y, z.2) k n = narP (mIm (wid (fo3 .add (fo3 .sub z.1 x0) y)) (wid z.2) (wid (narP (phaRe (quoT k n)))) (wid (narP (phaIm (quoT k n))))) := rfl
  rw [eR, eI] at HT ⊢
  have HK := Lib.hid (And.intro hk hn)
  have HZ := Lib.hid h2
  simp only at HT
  generalize fo3 .add (fo3 .sub z.1 x0) y = m2 at *
  generalize fo3 .sub z.1 x0 = m1 at *
  generalize z.1 = zr at *
  generalize z.2 = zi at *
  clear S h1 h2 hx hy hc T1 eR eI
  obtain ⟨F1, hF1⟩ : ∃ f, narP (mRe (wid m2) (wid zi) (wid (narP (phaRe (quoT k n)))) (wid (narP (phaIm (quoT k n))))) = f := ⟨_, rfl⟩
  obtain ⟨F2, hF2⟩ : ∃ f, narP (mIm (wid m2) (wid zi) (wid (narP (phaRe (quoT k n)))) (wid (narP (phaIm (quoT k n))))) = f := ⟨_, rfl⟩
  have HM : Hid (∀ w : World, Calls Try.prog 105 #[.complex .f32 m2 zi, .complex .f32 (narP (phaRe (quoT k n))) (narP (phaIm (quoT k n)))] w fun e w' => e = .returned (.complex .f32 F1 F2) ∧ w = w') := Lib.hid (fun w => by
    have := implMul_any (w := w) HT.out.2.2.2.2.1 HZ.out HT.out.2.1 HT.out.2.2.1 HT.out.2.2.2.1
    rwa [hF1, hF2] at this)
  have HFN : Hid (isN .f32 F1 ∧ isN .f32 F2) := Lib.hid (by rw [← hF1, ← hF2]; exact HT.out.2.2.2.2.2)
  rw [hF1, hF2]
  have HPH : Hid (∀ w : World, Calls Try.prog 106 #[.float .f64 (quoT k n)] w fun e w' => e = .returned (.complex .f32 (narP (phaRe (quoT k n))) (narP (phaIm (quoT k n)))) ∧ w = w') := Lib.hid (fun w => by
    have T := HT.out.1
    rw [Nat.one_mul] at T
    exact implPhasor_any (x := quoT k n) T.qN T.qw (by have := T.q0; grind) (by have := T.q1; grind))
  have HTU : Hid (∀ w : World, Calls Try.prog 107 #[.int .i64 1, .int .i64 (k : Int), .int .i64 (n : Int)] w fun e w' => e = .returned (.float .f64 (quoT k n)) ∧ w = w') := Lib.hid (fun w => by
    have := turnsOf_any (w := w) HT.out.1 (by omega) (by omega)
    rwa [Nat.one_mul] at this)
  have HFC := Lib.hid (fun w : World => ifFinC_any (r := F1) (i := F2) (w := w))
  rw [cn_isN HFN.out.1, cn_isN HFN.out.2] at HFC
  have hcf : cfin (some F1, some F2) = true := by unfold cfin; rw [finIsN HFN.out.1, finIsN HFN.out.2]; rfl
  unfold cif at HFC
  rw [hcf, if_pos rfl] at HFC
  clear hF1 hF2 HT hcf HZ
  generalize narP (phaRe (quoT k n)) = pr at *
  generalize narP (phaIm (quoT k n)) = pi at *
  generalize quoT k n = qt at *
  go_enter Try.func49, Try.ntmps49
  go_wp2_with fail
  refine (HC.out _).mono ?_
  rintro e w1 ⟨rfl, hb1⟩
  go_wp2_with fail
  refine (within_any _ _ _ _).mono ?_
  rintro e w2 ⟨rfl, rfl⟩
  rw [hw1]
  go_wp2_with fail
  refine (within_any _ _ _ _).mono ?_
  rintro e w2 ⟨rfl, rfl⟩
  rw [hw2]
  go_wp2_with fail
  refine (HX.out _).mono ?_
  rintro e w2 ⟨rfl, hb2⟩
  have HB2 := Lib.hid (hb1.trans (hb2.mono hb1.size))
  clear hb1 hb2
  go_wp2_with fail
  refine (HY.out _).mono ?_
  rintro e w3 ⟨rfl, hb3⟩
  have HB3 := Lib.hid (HB2.out.trans (hb3.mono HB2.out.size))
  clear hb3 HB2 hw1 hw2 ewn
  go_wp2_with fail
  refine (HTU.out _).mono ?_
  rintro e w4 ⟨rfl, rfl⟩
  go_wp2_with fail
  refine (HPH.out _).mono ?_
  rintro e w4 ⟨rfl, rfl⟩
  go_wp2_with fail
  refine (HM.out _).mono ?_
  rintro e w4 ⟨rfl, rfl⟩
  go_wp2_with fail
  refine (HFC.out _).mono ?_
  rintro e w4 ⟨r, i, rfl, hr, hi, hb4⟩
  obtain rfl := (cn_some hr).1
  obtain rfl := (cn_some hi).1
  go_wp2
  go_ret2
  exact ⟨rfl, HB3.out.trans (hb4.mono HB3.out.size)⟩

end Go.Proofs.Ytfclkbppmkjkeaa

namespace Go.Proofs.Ytfclkbppmkjkeaa
open Go.RowKit

theorem phT_all {n : Nat} (h1 : 1 ≤ n) (h2 : n ≤ 12) : PhT n := by
  rcases (show n = 1 ∨ n = 2 ∨ n = 3 ∨ n = 4 ∨ n = 5 ∨ n = 6 ∨ n = 7 ∨ n = 8 ∨ n = 9 ∨ n = 10 ∨ n = 11 ∨ n = 12 by omega) with rfl | rfl | rfl | rfl | rfl | rfl | rfl | rfl | rfl | rfl | rfl | rfl
  · exact frq1
  · exact frq2
  · exact frq3
  · exact frq4
  · exact frq5
  · exact frq6
  · exact frq7
  · exact frq8
  · exact frq9
  · exact frq10
  · exact frq11
  · exact frq12
theorem lines_L {a : Option Addr} {c n : Nat} {xs : List Nat} {zs : List Int} {w : World} (hr : Rd (Value.float .f32) w a c xs) (hl : xs.length = n) (L : LinesOk xs zs n) :
    Calls Try.prog 46 #[.slice a n c] w fun e w' => ∃ a' c', e = .returned (.tuple #[.slice a' n c', .bool true]) ∧ Rd cplx w' a' c' (linsR xs) ∧ Below w.heap.size w w' := by
  subst hl
  refine (implLinesOf_any hr).mono ?_
  intro e w' h
  rw [L.B] at h
  obtain ⟨a', c', h1, h2, h3⟩ := h
  rw [L.len] at h1
  exact ⟨a', c', h1, h2.rd, h3⟩
theorem line_L {a : Option Addr} {c n k : Nat} {xs : List Nat} {zs : List Int} {w : World} (hr : Rd (Value.float .f32) w a c xs) (hl : xs.length = n) (hv : isVec xs = true) (L : LinesOk xs zs n) (hk : k < n) :
    Calls Try.prog 48 #[.slice a n c, .int .i64 (k : Int)] w fun e w' => e = .returned (.tuple #[.complex .f32 (lineAt (linsR xs) k).1 (lineAt (linsR xs) k).2, .bool true]) ∧ Below w.heap.size w w' := by
  obtain ⟨h, N⟩ := L.at' k hk
  have hok : lineOk xs (k : Int) = true := by
    unfold lineOk
    rw [hv, Bool.true_and]
    exact (inR_eq _ _ _).2 ⟨by omega, by omega⟩
  have hc : cfin (linS xs k n) = true := by
    rw [h]; unfold cfin; rw [finIsN N.rN, finIsN N.iN]; rfl
  have hB : lineB xs (k : Int) = true := by
    unfold lineB; rw [hok, Bool.true_and, Int.toNat_natCast, hl]; exact hc
  have hV : lineV xs (k : Int) = (some (lineAt (linsR xs) k).1, some (lineAt (linsR xs) k).2) := by
    unfold lineV; rw [if_pos hok, Int.toNat_natCast, hl]; unfold cif; rw [if_pos hc]; exact h
  have hc := implLineOf_any (k := (k : Int)) hr
  rw [hl, hB, hV] at hc
  refine hc.mono ?_
  rintro e w' ⟨r, i, rfl, h1, h2, h3⟩
  rw [(cn_some h1).1, (cn_some h2).1]
  exact ⟨rfl, h3⟩
theorem longs_ok {xs : List Nat} {zs : List Int} {n : Nat} (hb : ∀ i, (at0 zs i).natAbs ≤ 16) (hn1 : 1 ≤ n) (hn2 : n ≤ 12) (L : LinesOk xs zs n) : LongsV (linsR xs) := by
  intro i hi
  rw [L.len] at hi
  obtain ⟨_, N⟩ := L.at' i hi
  obtain ⟨⟨b1, b2⟩, ⟨b3, b4⟩⟩ := line_bd (zs := zs) (n := n) (k := i) hb hn1 hn2 n
  obtain ⟨m0, m12⟩ := nat_le12 hn2
  have := N.r1
  have := N.r2
  have := N.i1
  have := N.i2
  have L2 : LongV ((linsR xs)[i]?.getD default).1 ((linsR xs)[i]?.getD default).2 := longV_of N.rN N.iN (by grind) (by grind) (by grind) (by grind)
  exact L2

/-! ### Gaps -/
theorem dyQ {x : Nat} {z : Int} (h : Dy 2 x z) (hz : z.natAbs ≤ 16) : isN .f32 x ∧ val .f32 x = (z : Rat) / 4 := ⟨h.N, dy2_val h⟩
theorem back_gap {zs : List Int} {k b x : Nat} (hb : (at0 zs k).natAbs ≤ 16) (h : BackOk zs k b) (hx : Dy 2 x (at0 zs k)) : GapOk (wid b) (wid x) ∧ (FloatKind.f64.format.order (gapT (wid b) (wid x)) c001 == some .gt) = false := by
  obtain ⟨N, h1, h2⟩ := h
  obtain ⟨n1, v1⟩ := wid_ok N
  obtain ⟨n2, v2⟩ := wid_ok hx.N
  have hv := dy2_val hx
  obtain ⟨g, h, _⟩ := gapT_small n1 n2 (by rw [v1, v2, hv]; grind) (by rw [v1, v2, hv]; grind)
  exact ⟨g, h⟩
/-- The sum of the first ones. -/
def sumW (xs : List Nat) : Nat → Nat
  | 0 => 0
  | k + 1 => fo .add (sumW xs k) (wid (xs[k]?.getD default))
def sumQ (zs : List Int) : Nat → Int
  | 0 => 0
  | k + 1 => sumQ zs k + at0 zs k
theorem sumQ_bd {zs : List Int} (hb : ∀ i, (at0 zs i).natAbs ≤ 16) : ∀ k, (sumQ zs k).natAbs ≤ 16 * k
  | 0 => Nat.zero_le _
  | k + 1 => by
    have := sumQ_bd hb k
    have := hb k
    show (sumQ zs k + at0 zs k).natAbs ≤ _
    omega
theorem q4 (z : Int) : (z : Rat) / 4 = (z : Rat) * tp (-2) := by
  have : tp (-2) = 1 / 4 := by decide +kernel
  rw [this]; grind
theorem sum_ok {xs : List Nat} {zs : List Int} {n : Nat} (h : DyL 2 xs zs) (hb : ∀ i, (at0 zs i).natAbs ≤ 16) (hl : xs.length = n) (hn : n ≤ 12) : ∀ k, k ≤ n → isN .f64 (sumW xs k) ∧ val .f64 (sumW xs k) = (sumQ zs k : Rat) / 4 ∧ ∀ j, j < k → fbin .add .f64 (some (sumW xs j)) (some (wid (xs[j]?.getD default))) = some (sumW xs (j + 1))
  | 0, _ => ⟨n_0, by show val .f64 0 = ((0 : Int) : Rat) / 4; decide +kernel, fun j hj => absurd hj (Nat.not_lt_zero _)⟩
  | k + 1, hk => by
    obtain ⟨N, V, I⟩ := sum_ok h hb hl hn k (by omega)
    have hx := h.at' k (by omega)
    have d0 : xs[k]?.getD default = xs[k]?.getD 0 := rfl
    obtain ⟨n2, v2⟩ := wid_ok hx.N
    rw [← d0] at n2 v2
    have hv := dy2_val hx
    rw [← d0] at hv
    have b1 := sumQ_bd hb k
    have b2 := hb k
    have e1 : val .f64 (sumW xs k) + val .f64 (wid (xs[k]?.getD default)) = ((sumQ zs k + at0 zs k : Int) : Rat) / 4 := by
      rw [V, v2, hv, Rat.intCast_add]; grind
    have hB : (sumQ zs k + at0 zs k).natAbs ≤ 400 := by omega
    have c1 : ((sumQ zs k + at0 zs k : Int) : Rat) ≤ 400 := Rat.intCast_le_intCast (b := 400).2 (by omega)
    have c2 : (-400 : Rat) ≤ ((sumQ zs k + at0 zs k : Int) : Rat) := Rat.intCast_le_intCast (a := -400).2 (by omega)
    have ha := fo_add N n2 (by rw [e1]; grind) (by rw [e1]; grind)
    have hR : Rep .f64 (((sumQ zs k + at0 zs k : Int) : Rat) / 4) := by rw [q4]; exact rep64_of (by omega) (by decide)
    have u := ha.2.2.up _ hR (by rw [e1]; exact Rat.le_refl)
    have d := ha.2.2.dn _ hR (by rw [e1]; exact Rat.le_refl)
    refine ⟨ha.2.1, Rat.le_antisymm u d, fun j hj => ?_⟩
    rcases Nat.lt_or_ge j k with g | g
    · exact I j g
    · obtain rfl : j = k := by omega
      exact ha.1
theorem sum_line {zs : List Int} {n : Nat} (hn1 : 1 ≤ n) (hn : n ≤ 12) : ∀ k, lineRe zs n 0 k = (sumQ zs k : Rat) / 4
  | 0 => by show (0 : Rat) = ((0 : Int) : Rat) / 4; decide +kernel
  | k + 1 => by
    have e1 : lineRe zs n 0 (k + 1) = lineRe zs n 0 k + (at0 zs k : Rat) / 4 * cN n (k * 0) := rfl
    have z := (zero_turn hn1 hn 0).1
    rw [Nat.mul_zero] at z
    have e2 : sumQ zs (k + 1) = sumQ zs k + at0 zs k := rfl
    rw [e1, sum_line hn1 hn k, Nat.mul_zero, z, e2, Rat.intCast_add]; grind
theorem sum_gap {xs : List Nat} {zs : List Int} {n : Nat} (h : DyL 2 xs zs) (hb : ∀ i, (at0 zs i).natAbs ≤ 16) (hl : xs.length = n) (hn1 : 1 ≤ n) (hn : n ≤ 12) (L : LinesOk xs zs n) :
    GapOk (sumW xs n) (wid (lineAt (linsR xs) 0).1) ∧ (FloatKind.f64.format.order (gapT (sumW xs n) (wid (lineAt (linsR xs) 0).1)) c001 == some .gt) = false := by
  obtain ⟨N, V, _⟩ := sum_ok h hb hl hn n (Nat.le_refl _)
  obtain ⟨_, M⟩ := L.at' 0 (by omega)
  obtain ⟨n2, v2⟩ := wid_ok M.rN
  have r1 := M.r1
  have r2 := M.r2
  rw [sum_line hn1 hn] at r1 r2
  have n2' : isN .f64 (wid (lineAt (linsR xs) 0).1) := n2
  have v2' : val .f64 (wid (lineAt (linsR xs) 0).1) = val .f32 ((linsR xs)[0]?.getD default).1 := v2
  obtain ⟨g, h, _⟩ := gapT_small N n2' (by rw [V, v2']; grind) (by rw [V, v2']; grind)
  exact ⟨g, h⟩
/-- A moved line beside the other vector's line. -/
structure MovOk (r i u v : Nat) : Prop where
  s1 : fbin .sub .f32 (some r) (some u) = some (fo3 .sub r u)
  s2 : fbin .sub .f32 (some i) (some v) = some (fo3 .sub i v)
  L : LongV (fo3 .sub r u) (fo3 .sub i v)
  g : (FloatKind.f64.format.order (wid (longN (fo3 .sub r u) (fo3 .sub i v))) c001 == some .gt) = false
theorem mov_ok {r i u v : Nat} (hr : isN .f32 r) (hi : isN .f32 i) (hu : isN .f32 u) (hv : isN .f32 v) (r1 : -(45 / 100000) ≤ val .f32 r - val .f32 u) (r2 : val .f32 r - val .f32 u ≤ 45 / 100000) (i1 : -(45 / 100000) ≤ val .f32 i - val .f32 v) (i2 : val .f32 i - val .f32 v ≤ 45 / 100000) : MovOk r i u v := by
  have a := fo3_sub hr hu (by grind) (by grind)
  have b := fo3_sub hi hv (by grind) (by grind)
  have an := a.2.2.n64 (by grind) (by grind)
  have bn := b.2.2.n64 (by grind) (by grind)
  have L : LongV (fo3 .sub r u) (fo3 .sub i v) := longV_of a.2.1 b.2.1 (by grind) (by grind) (by grind) (by grind)
  have hs := L.small ⟨by grind, by grind⟩ ⟨by grind, by grind⟩
  obtain ⟨n1, v1⟩ := wid_ok L.N
  have hc := v_c001
  have ho := (ord_is n1 n_c001).1 (by rw [v1]; grind)
  exact ⟨a.1, b.1, L, by rw [ho]; rfl⟩
theorem sameB_self (a : Nat) : sameB a a = true := by unfold sameB; exact beq_self_eq_true _

end Go.Proofs.Ytfclkbppmkjkeaa

namespace Go.Proofs.Ytfclkbppmkjkeaa
open Go.RowKit

theorem fbin_small {o1 o2 : Option Nat} {r : Nat} (h : fbin .add .f32 o1 o2 = some r) : r < 4294967296 := by
  cases o1 with
  | none => cases h
  | some a =>
    cases o2 with
    | none => cases h
    | some b =>
      have h2 := floatBits_wf (show floatBits .add .f32 a b = some r from h)
      simpa [Lit.wf] using h2
theorem line_small {xs : List Nat} {zs : List Int} {n k : Nat} (L : LinesOk xs zs n) (hn : 1 ≤ n) (hk : k < n) : (lineAt (linsR xs) k).1 < 4294967296 ∧ (lineAt (linsR xs) k).2 < 4294967296 := by
  obtain ⟨m, rfl⟩ : ∃ m, n = m + 1 := ⟨n - 1, by omega⟩
  obtain ⟨h, _⟩ := L.at' k hk
  have h1 : fbin .add .f32 _ _ = some (lineAt (linsR xs) k).1 := congrArg Prod.fst h
  have h2 : fbin .add .f32 _ _ = some (lineAt (linsR xs) k).2 := congrArg Prod.snd h
  exact ⟨fbin_small h1, fbin_small h2⟩
theorem sameB_zero {r : Nat} (h : r < 4294967296) (e : sameB 0 r = true) : r = 0 := by
  unfold sameB wrap64 at e
  have := eq_of_beq e
  omega
/-- Is a number greater than 0. -/
def gtzB (x : Nat) : Bool := FloatKind.f32.format.order x 0 == some .gt
theorem gtzB_iff {x : Nat} (h : isN .f32 x) (h0 : 0 ≤ val .f32 x) : (gtzB x = true → 0 < val .f32 x) ∧ (gtzB x = false → val .f32 x = 0) := by
  have ho : FloatKind.f32.format.order x 0 = _ := order_val h v32_0.1
  unfold gtzB
  rw [ho, v32_0.2]
  by_cases h1 : val .f32 x < 0
  · grind
  · rw [if_neg h1]
    by_cases h2 : val .f32 x = 0
    · rw [if_pos h2]; exact ⟨fun e => (by cases e), fun _ => h2⟩
    · rw [if_neg h2]; exact ⟨fun _ => by grind, fun e => (by cases e)⟩
def topB (O : List (Nat × Nat)) (sel : List Int) (k : Nat) : Bool := decide ((k : Int) ∈ sel) && gtzB (longAt O k)
/-- One kept or dropped line. -/
structure TopAt (O : List (Nat × Nat)) (sel : List Int) (k : Nat) : Prop where
  tN : isN .f32 (lineAt (topL O sel) k).1 ∧ isN .f32 (lineAt (topL O sel) k).2
  cond : ((sameB (lineAt (topL O sel) k).1 (lineAt O k).1 && sameB (lineAt (topL O sel) k).2 (lineAt O k).2) && gtzB (longAt O k)) = topB O sel k
  zero : topB O sel k = false → val .f32 (lineAt (topL O sel) k).1 = 0 ∧ val .f32 (lineAt (topL O sel) k).2 = 0
theorem top_at {O : List (Nat × Nat)} {sel : List Int} {k : Nat} (hL : LongsV O) (hk : k < O.length) (hs : (lineAt O k).1 < 4294967296 ∧ (lineAt O k).2 < 4294967296) : TopAt O sel k := by
  have L := hL k hk
  have eN : longAt O k = longN (lineAt O k).1 (lineAt O k).2 := rfl
  obtain ⟨p1, p2⟩ := gtzB_iff L.N L.lo
  rw [← eN] at p1 p2
  have hz := L.zero
  have hp := L.pos
  rw [← eN] at hz hp
  by_cases hm : (k : Int) ∈ sel
  · have e : lineAt (topL O sel) k = lineAt O k := by
      have := topL_get (sel := sel) hk
      rw [if_pos hm] at this
      exact this
    have eB : topB O sel k = gtzB (longAt O k) := by unfold topB; rw [decide_eq_true hm, Bool.true_and]
    refine ⟨by rw [e]; exact ⟨L.rN, L.iN⟩, by rw [e, sameB_self, sameB_self, eB]; rfl, fun hB => ?_⟩
    rw [e]
    rw [eB] at hB
    have h0 := p2 hB
    constructor
    · exact Decidable.byContradiction fun h => by have := hp (.inl h); grind
    · exact Decidable.byContradiction fun h => by have := hp (.inr h); grind
  · have e : lineAt (topL O sel) k = (0, 0) := by
      have := topL_get (sel := sel) hk
      rw [if_neg hm] at this
      exact this
    have eB : topB O sel k = false := by unfold topB; rw [decide_eq_false hm, Bool.false_and]
    refine ⟨by rw [e]; exact ⟨v32_0.1, v32_0.1⟩, ?_, fun _ => by rw [e]; exact ⟨v32_0.2, v32_0.2⟩⟩
    rw [e, eB]
    cases h1 : sameB 0 (lineAt O k).1 with
    | false => rfl
    | true =>
      cases h2 : sameB 0 (lineAt O k).2 with
      | false => rfl
      | true =>
        have r0 := sameB_zero hs.1 h1
        have i0 := sameB_zero hs.2 h2
        have := hz (by rw [r0]; exact v32_0.2) (by rw [i0]; exact v32_0.2)
        cases h3 : gtzB (longAt O k) with
        | false => rfl
        | true => have := p1 h3; grind
theorem run_ceq0 {a b : Nat} (ha : isN .f32 a) (hb : isN .f32 b) (h1 : val .f32 a = 0) (h2 : val .f32 b = 0) (w : World) : (binOp .eql 72 (.complex .f32 a b) (.complex .f32 0 0)).run Try.prog w = .ok (.bool true) w := by
  have e1 : FloatKind.f32.format.order a 0 = some .eq := ord_same3 ha v32_0.1 (by rw [h1, v32_0.2])
  have e2 : FloatKind.f32.format.order b 0 = some .eq := ord_same3 hb v32_0.1 (by rw [h2, v32_0.2])
  simp [binOp, Op.complexOp, Op.Complex.cmp, Op.floatCmp, e1, e2, asBool]
theorem run_min_f {x y : Nat} (hx : isN .f32 x) (hy : isN .f32 y) : ∃ z, (z = x ∨ z = y) ∧ ∀ (ts : Array TypeId) (t : TypeId) (w : World), (Builtin.min_ ts t #[.float .f32 x, .float .f32 y]).run Try.prog w = .ok (.float .f32 z) w := by
  obtain ⟨o, ho⟩ : ∃ o, FloatKind.f32.format.order x y = some o := ⟨_, order_val hx hy⟩
  cases o with
  | lt => exact ⟨x, .inl rfl, fun ts t w => by simp [Builtin.min_, Builtin.min2, ho]⟩
  | gt => exact ⟨y, .inr rfl, fun ts t w => by simp [Builtin.min_, Builtin.min2, ho]⟩
  | eq =>
    cases hn : (FloatKind.f32.decode x).neg with
    | true => exact ⟨x, .inl rfl, fun ts t w => by simp [Builtin.min_, Builtin.min2, ho, hn]⟩
    | false => exact ⟨y, .inr rfl, fun ts t w => by simp [Builtin.min_, Builtin.min2, ho, hn]⟩
theorem run_max_f {x y : Nat} (hx : isN .f32 x) (hy : isN .f32 y) : ∃ z, (z = x ∨ z = y) ∧ ∀ (ts : Array TypeId) (t : TypeId) (w : World), (Builtin.max_ ts t #[.float .f32 x, .float .f32 y]).run Try.prog w = .ok (.float .f32 z) w := by
  obtain ⟨o, ho⟩ : ∃ o, FloatKind.f32.format.order x y = some o := ⟨_, order_val hx hy⟩
  cases o with
  | lt => exact ⟨y, .inr rfl, fun ts t w => by simp [Builtin.max_, Builtin.max2, ho]⟩
  | gt => exact ⟨x, .inl rfl, fun ts t w => by simp [Builtin.max_, Builtin.max2, ho]⟩
  | eq =>
    cases hn : (FloatKind.f32.decode x).neg with
    | true => exact ⟨y, .inr rfl, fun ts t w => by simp [Builtin.max_, Builtin.max2, ho, hn]⟩
    | false => exact ⟨x, .inl rfl, fun ts t w => by simp [Builtin.max_, Builtin.max2, ho, hn]⟩
theorem run_csub {a b c d : Nat} (M : MovOk a b c d) (w : World) (t : TypeId) : (binOp .sub t (.complex .f32 a b) (.complex .f32 c d)).run Try.prog w = .ok (.complex .f32 (fo3 .sub a c) (fo3 .sub b d)) w := by
  have h1 := ar3 M.s1 t (w := w)
  have h2 := ar3 M.s2 t (w := w)
  have h1' : (Op.floatArith .sub .f32 a c).run Try.prog w = .ok (.float .f32 (fo3 .sub a c)) w := h1
  have h2' : (Op.floatArith .sub .f32 b d).run Try.prog w = .ok (.float .f32 (fo3 .sub b d)) w := h2
  simp [binOp, Op.complexOp, Op.Complex.arith, h1', h2', Result.andThen]

/-! ### The least kept one, the longest dropped one -/
def leastV (O : List (Nat × Nat)) (sel : List Int) (k l : Nat) : Prop := isN .f32 l ∧ (val .f32 l = 1000000 ∨ ∃ i, i < k ∧ topB O sel i = true ∧ val .f32 l = val .f32 (longAt O i))
def mostV (O : List (Nat × Nat)) (sel : List Int) (k m : Nat) : Prop := isN .f32 m ∧ (val .f32 m = 0 ∨ ∃ i, i < k ∧ topB O sel i = false ∧ val .f32 m = val .f32 (longAt O i))
theorem leastV_0 (O : List (Nat × Nat)) (sel : List Int) : leastV O sel 0 1232348160 := ⟨isN_of (by decide +kernel), .inl (by decide +kernel)⟩
theorem mostV_0 (O : List (Nat × Nat)) (sel : List Int) : mostV O sel 0 0 := ⟨v32_0.1, .inl v32_0.2⟩
theorem leastV_up {O : List (Nat × Nat)} {sel : List Int} {k l : Nat} (h : leastV O sel k l) : leastV O sel (k + 1) l := ⟨h.1, h.2.imp id fun ⟨i, hi, a, b⟩ => ⟨i, by omega, a, b⟩⟩
theorem mostV_up {O : List (Nat × Nat)} {sel : List Int} {k l : Nat} (h : mostV O sel k l) : mostV O sel (k + 1) l := ⟨h.1, h.2.imp id fun ⟨i, hi, a, b⟩ => ⟨i, by omega, a, b⟩⟩
theorem leastV_to {O : List (Nat × Nat)} {sel : List Int} {k l z : Nat} (hN : isN .f32 (longAt O k)) (h : leastV O sel k l) (hB : topB O sel k = true) (hz : z = l ∨ z = longAt O k) : leastV O sel (k + 1) z := by
  rcases hz with rfl | rfl
  · exact leastV_up h
  · exact ⟨hN, .inr ⟨k, by omega, hB, rfl⟩⟩
theorem mostV_to {O : List (Nat × Nat)} {sel : List Int} {k l z : Nat} (hN : isN .f32 (longAt O k)) (h : mostV O sel k l) (hB : topB O sel k = false) (hz : z = l ∨ z = longAt O k) : mostV O sel (k + 1) z := by
  rcases hz with rfl | rfl
  · exact mostV_up h
  · exact ⟨hN, .inr ⟨k, by omega, hB, rfl⟩⟩
theorem most_le {O : List (Nat × Nat)} {n keep l m : Nat} (hl : O.length = n) (hn : n ≤ 12) (hL : LongsV O) (h1 : leastV O (pickL (topK O) n (keep : Int)) n l) (h2 : mostV O (pickL (topK O) n (keep : Int)) n m) : val .f32 m ≤ val .f32 l := by
  have P := pick_ok (h := topK O) (n := n) (room := (keep : Int)) (by omega)
  generalize pickL (topK O) n (keep : Int) = sel at *
  obtain ⟨lN, hlv⟩ := h1
  obtain ⟨mN, hmv⟩ := h2
  rcases hmv with hm | ⟨j, hj, bj, hm⟩
  · rcases hlv with hl' | ⟨i, hi, bi, hl'⟩
    · rw [hm, hl']; decide +kernel
    · rw [hm, hl']; exact (hL i (by omega)).lo
  · rw [hm]
    rcases hlv with hl' | ⟨i, hi, bi, hl'⟩
    · rw [hl']
      have h128 : val .f32 (longAt O j) ≤ 128 := (hL j (by omega)).hi
      have : (128 : Rat) ≤ 1000000 := by decide +kernel
      exact Rat.le_trans h128 this
    · rw [hl']
      have Li := hL i (by omega)
      have Lj := hL j (by omega)
      have hiS : (i : Int) ∈ sel := by
        unfold topB at bi
        rw [Bool.and_eq_true] at bi
        exact of_decide_eq_true bi.1
      by_cases hjS : (j : Int) ∈ sel
      · unfold topB at bj
        rw [decide_eq_true hjS, Bool.true_and] at bj
        have z : val .f32 (longAt O j) = 0 := (gtzB_iff Lj.N Lj.lo).2 bj
        rw [z]; exact Li.lo
      · have h := P.ord i j hi hj hiS hjS
        unfold topK at h
        rw [Int.toNat_natCast, Int.toNat_natCast] at h
        exact Decidable.byContradiction fun hn => by
          have hlt : val .f32 (longAt O i) < val .f32 (longAt O j) := Rat.not_le.1 hn
          have := (keyF_lt Li.N Lj.N).1 hlt
          have e1 : keyF (longAt O i) = keyF (longN (lineAt O i).1 (lineAt O i).2) := rfl
          have e2 : keyF (longAt O j) = keyF (longN (lineAt O j).1 (lineAt O j).2) := rfl
          omega
theorem kept_le {O : List (Nat × Nat)} {n keep : Nat} (hn : n ≤ 12) : (List.range n).countP (fun i => topB O (pickL (topK O) n (keep : Int)) i) ≤ keep := by
  have P := pick_ok (h := topK O) (n := n) (room := (keep : Int)) (by omega)
  have c := cnt_in n (pickL (topK O) n (keep : Int))
  have l := P.len
  have m : (List.range n).countP (fun i => topB O (pickL (topK O) n (keep : Int)) i) ≤ (List.range n).countP (fun i : Nat => decide ((i : Int) ∈ pickL (topK O) n (keep : Int))) := by
    refine List.countP_mono_left fun i _ h => ?_
    unfold topB at h
    rw [Bool.and_eq_true] at h
    exact h.1
  omega
theorem ordLe {m l : Nat} (hm : isN .f32 m) (hl : isN .f32 l) (h : val .f32 m ≤ val .f32 l) : ∃ o, FloatKind.f32.format.order m l = some o ∧ (o == .gt) = false := by
  have ho : FloatKind.f32.format.order m l = _ := order_val hm hl
  by_cases h1 : val .f32 m < val .f32 l
  · exact ⟨.lt, by rw [ho, if_pos h1], rfl⟩
  · exact ⟨.eq, by rw [ho, if_neg h1, if_pos (Rat.le_antisymm h (Rat.not_lt.1 h1))], rfl⟩

end Go.Proofs.Ytfclkbppmkjkeaa
