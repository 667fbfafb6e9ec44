/- The text of zeros, in both texts. -/
import Derived.Test.YtockifchghllhaaDoorTxtB
import Derived.Test.YtockifchghllhaaDoorValZ
import Derived.Test.YtockifchghllhaaDoorLib
import Derived.Test.YtockifchghllhaaDoorCalm
namespace Go.Proofs.YtockifchghllhaaDoor
open Go.RowKit

def zerV (Z : Int) (zs : List Int) : Bool := valsB zs && zerosB Z zs
def zerT (Z : Int) (zs : List Int) : ByteArray := if zerV Z zs then (decT Z ++ ⟨#[59]⟩) ++ lstT zs else ⟨#[]⟩
theorem zeros_in {Z : Int} {zs : List Int} (h : zerosB Z zs = true) : -9223372036854775808 ≤ Z ∧ Z ≤ 9223372036854775807 := by
  unfold zerosB at h
  simp only [Bool.and_eq_true] at h
  have := isKey_bd h.1.1
  omega
theorem lt_size {xs : List Int} (h : valsB xs = true) : (ltT xs).size ≤ 1400 := by
  rw [ltT_yes h]
  have h1 := valsB_in h
  have := lstT_size h1.1
  omega

set_option maxRecDepth 20000 in
set_option maxHeartbeats 2000000 in
theorem zerosText_any {a : Option Addr} {c : Nat} {zs : List Int} {Z : Int} {w : World} (hT : PTab w) (hr : Rd (Value.int .i64) w a c zs) :
    Calls Tryd.prog 27 #[.agg #[.int .i64 Z, .slice a zs.length c]] w fun e w' => e = .returned (.tuple #[.string (zerT Z zs), .bool (zerV Z zs)]) ∧ Below w.heap.size w w' := by
  have B0 : Below w.heap.size w (w.alloc (.cells #[.int .i64 Z, .slice a zs.length c] 46)) := (Below.refl _ _).alloc (Nat.le_refl _) _
  have I0 : Blk (w.alloc (.cells #[.int .i64 Z, .slice a zs.length c] 46)) w.heap.size #[.int .i64 Z, .slice a zs.length c] 46 := Blk.new _ _ _
  have H0 := Lib.hid (And.intro B0 I0)
  have HR := Lib.hid hr
  have HT := Lib.hid hT
  clear B0 I0 hr hT
  cases hv : valsB zs with
  | false =>
    have he : zerV Z zs = false := by unfold zerV; rw [hv]; rfl
    have he2 : zerT Z zs = ⟨#[]⟩ := by unfold zerT; rw [he]; rfl
    rw [he, he2]
    clear he he2
    go_enter Tryd.func27, Tryd.ntmps27
    go_wp2_with fail
    generalize (w.alloc (.cells #[.int .i64 Z, .slice a zs.length c] 46)) = w0 at H0 ⊢
    refine (implListText_any (HT.out.below H0.out.1 (Nat.le_refl _)) (HR.out.below H0.out.1 (Nat.le_refl _))).mono ?_
    rintro e w1 ⟨rfl, hb1⟩
    rw [hv]
    have HB1 := Lib.hid (H0.out.1.trans (hb1.mono H0.out.1.size))
    have HI1 := Lib.hid (H0.out.2.below hb1 (Nat.le_refl _))
    clear hb1 H0
    go_wp2
    go_ret2
    exact ⟨rfl, HB1.out⟩
  | true =>
  have hlz := lt_size hv
  cases hz : zerosB Z zs with
  | false =>
    have he : zerV Z zs = false := by unfold zerV; rw [hv, hz]; rfl
    have he2 : zerT Z zs = ⟨#[]⟩ := by unfold zerT; rw [he]; rfl
    rw [he, he2]
    clear he he2
    go_enter Tryd.func27, Tryd.ntmps27
    go_wp2_with fail
    generalize (w.alloc (.cells #[.int .i64 Z, .slice a zs.length c] 46)) = w0 at H0 ⊢
    refine (implListText_any (HT.out.below H0.out.1 (Nat.le_refl _)) (HR.out.below H0.out.1 (Nat.le_refl _))).mono ?_
    rintro e w1 ⟨rfl, hb1⟩
    rw [hv]
    have HB1 := Lib.hid (H0.out.1.trans (hb1.mono H0.out.1.size))
    have HI1 := Lib.hid (H0.out.2.below hb1 (Nat.le_refl _))
    clear hb1 H0
    have i0 := HI1.out.cell (i := 0) (v := .int .i64 Z) rfl
    have i1 := HI1.out.cell (i := 1) (v := .slice a zs.length c) rfl
    obtain ⟨lt, hlt⟩ : ∃ l, ltT zs = l := ⟨_, rfl⟩
    have HLT := Lib.hid hlt
    rw [hlt]
    clear hlt
    go_wp2_with fail
    refine (validZeros_any (HR.out.below HB1.out (Nat.le_refl _))).mono ?_
    rintro e w2 ⟨rfl, hb2⟩
    rw [hz]
    have HB2 := Lib.hid (HB1.out.trans (hb2.mono HB1.out.size))
    have HI2 := Lib.hid (HI1.out.below hb2 (Nat.le_refl _))
    clear hb2 i0 i1
    go_wp2
    go_ret2
    exact ⟨rfl, HB2.out⟩
  | true =>
  have hzb := zeros_in hz
  have hds := decT_size hzb.1 hzb.2
  have he : zerV Z zs = true := by unfold zerV; rw [hv, hz]; rfl
  rw [he]
  obtain ⟨res, hres⟩ : ∃ r, zerT Z zs = r := ⟨_, rfl⟩
  have HRES : Hid (res = (decT Z ++ ⟨#[59]⟩) ++ lstT zs) := Lib.hid (by rw [← hres]; unfold zerT; rw [he]; rfl)
  rw [hres]
  clear hres he
  go_enter Tryd.func27, Tryd.ntmps27
  go_wp2_with fail
  generalize (w.alloc (.cells #[.int .i64 Z, .slice a zs.length c] 46)) = w0 at H0 ⊢
  refine (implListText_any (HT.out.below H0.out.1 (Nat.le_refl _)) (HR.out.below H0.out.1 (Nat.le_refl _))).mono ?_
  rintro e w1 ⟨rfl, hb1⟩
  rw [hv]
  have HB1 := Lib.hid (H0.out.1.trans (hb1.mono H0.out.1.size))
  have HI1 := Lib.hid (H0.out.2.below hb1 (Nat.le_refl _))
  clear hb1 H0
  have i0 := HI1.out.cell (i := 0) (v := .int .i64 Z) rfl
  have i1 := HI1.out.cell (i := 1) (v := .slice a zs.length c) rfl
  obtain ⟨lt, hlt⟩ : ∃ l, ltT zs = l := ⟨_, rfl⟩
  have HLT := Lib.hid hlt
  rw [hlt]
  clear hlt
  go_wp2_with fail
  refine (validZeros_any (HR.out.below HB1.out (Nat.le_refl _))).mono ?_
  rintro e w2 ⟨rfl, hb2⟩
  rw [hz]
  have HB2 := Lib.hid (HB1.out.trans (hb2.mono HB1.out.size))
  have HI2 := Lib.hid (HI1.out.below hb2 (Nat.le_refl _))
  clear hb2 i0 i1
  have i0 := HI2.out.cell (i := 0) (v := .int .i64 Z) rfl
  go_wp2_with fail
  refine (decimal_any (HT.out.below HB2.out (Nat.le_refl _)) hzb.1 hzb.2).mono ?_
  rintro e w3 ⟨rfl, hb3⟩
  have HB3 := Lib.hid (HB2.out.trans (hb3.mono HB2.out.size))
  have hls : lt.size ≤ 1400 := by rw [← HLT.out]; exact hlz
  have HRE : Hid (res = (decT Z ++ ⟨#[59]⟩) ++ lt) := Lib.hid (by rw [HRES.out, ← HLT.out, ltT_yes hv])
  obtain ⟨d, hd⟩ : ∃ d, decT Z = d := ⟨_, rfl⟩
  rw [hd] at hds HRE ⊢
  have e59 : (⟨#[59]⟩ : ByteArray).size = 1 := rfl
  have hadd1 : ∀ w', (Op.stringOp .add d ⟨#[59]⟩).run Tryd.prog w' = .ok (.string (d ++ ⟨#[59]⟩)) w' := fun w' => run_string_add_sum _ _ _ (by omega)
  have hs2 : (d ++ (⟨#[59]⟩ : ByteArray)).size ≤ 21 := by rw [ByteArray.size_append]; omega
  obtain ⟨dc, hdc⟩ : ∃ dc, d ++ (⟨#[59]⟩ : ByteArray) = dc := ⟨_, rfl⟩
  rw [hdc] at hadd1 hs2 HRE
  have hadd2 : ∀ w', (Op.stringOp .add dc lt).run Tryd.prog w' = .ok (.string (dc ++ lt)) w' := fun w' => run_string_add_sum _ _ _ (by omega)
  clear hb3 hd hdc e59 hs2 hls hds hlz i0
  go_wp2
  go_ret2
  exact ⟨by rw [HRE.out]; rfl, HB3.out⟩

set_option maxRecDepth 20000 in
set_option maxHeartbeats 2000000 in
theorem l08Zeros_any {b o : Nat} {a : Option Addr} {c : Nat} {zs : List Int} {Z : Int} {w : World} (hr : Rd (Value.int .i64) w a c zs) (hv : valsB zs = true) (hz : zerosB Z zs = true)
    (c0 : w.cell? ⟨b, o, none⟩ = some (.int .i64 Z)) (c1 : w.cell? ⟨b, o + 1, none⟩ = some (.slice a zs.length c)) :
    Calls Tryd.prog 69 #[.pointer (some ⟨b, o, none⟩)] w fun e w' => e = .returned (.string (zerT Z zs)) ∧ Below w.heap.size w w' := by
  have hzb := zeros_in hz
  have hds := decT_size hzb.1 hzb.2
  have hlz := lt_size hv
  rw [ltT_yes hv] at hlz
  have hin := valsB_in hv
  have he : zerV Z zs = true := by unfold zerV; rw [hv, hz]; rfl
  have HRES : Hid (zerT Z zs = (decT Z ++ ⟨#[59]⟩) ++ lstT zs) := Lib.hid (by unfold zerT; rw [he]; rfl)
  obtain ⟨ι, hne, G, hG, hS⟩ := calm_family w
  have j0 := fun i => k_at (hG i) c0
  have j1 := fun i => k_at (hG i) c1
  have HC1 := Lib.hid (fun i => l01Dec_any (w := G i) hzb.1 hzb.2)
  have HC2 := Lib.hid (fun i => l01Text_any (w := G i) (hr.below (hG i) (Nat.le_refl _)) hin.1 (by omega))
  have HG := Lib.hid hG
  have HSU := Lib.hid hS
  obtain ⟨res, hres⟩ : ∃ r, zerT Z zs = r := ⟨_, rfl⟩
  rw [hres] at HRES ⊢
  obtain ⟨lt, hlt⟩ : ∃ l, lstT zs = l := ⟨_, rfl⟩
  rw [hlt] at HRES HC2 hlz
  obtain ⟨d, hd⟩ : ∃ d, decT Z = d := ⟨_, rfl⟩
  rw [hd] at hds HRES HC1
  have e59 : (⟨#[59]⟩ : ByteArray).size = 1 := rfl
  have hadd1 : ∀ w', (Op.stringOp .add d ⟨#[59]⟩).run Tryd.prog w' = .ok (.string (d ++ ⟨#[59]⟩)) w' := fun w' => run_string_add_sum _ _ _ (by omega)
  have hs2 : (d ++ (⟨#[59]⟩ : ByteArray)).size ≤ 21 := by rw [ByteArray.size_append]; omega
  obtain ⟨dc, hdc⟩ : ∃ dc, d ++ (⟨#[59]⟩ : ByteArray) = dc := ⟨_, rfl⟩
  rw [hdc] at hadd1 hs2 HRES
  have hadd2 : ∀ w', (Op.stringOp .add dc lt).run Tryd.prog w' = .ok (.string (dc ++ lt)) w' := fun w' => run_string_add_sum _ _ _ (by omega)
  clear hG hS c0 c1 hr hv hz hzb hin he hd hdc hlt hres e59 hs2 hds hlz
  go_enter Tryd.func69, Tryd.ntmps69
  go_wp2_with fail
  refine wp_region_calm (G := G) (by kernel_rfl) (by kernel_rfl) HSU.out ?_
  repeat (go_big_quiet_step ((first | (go_at_call 99; exact calm_call HG.out HSU.out (HC1.out _)) | (go_at_call 94; exact calm_call HG.out HSU.out (HC2.out _)))))
  refine wpQuiet_nil ?_
  intro _ hw'
  obtain ⟨i, hw''⟩ := hw'
  subst hw''
  have HB2 := Lib.hid (HG.out i)
  clear j0 j1 HC1 HC2 hadd1 hadd2
  generalize G i = w2 at HB2 ⊢
  go_wp2
  go_ret
  exact ⟨by rw [HRES.out]; rfl, HB2.out⟩

set_option maxRecDepth 20000 in
set_option maxHeartbeats 1000000 in
theorem specZerosText_any {a : Option Addr} {c : Nat} {zs : List Int} {Z : Int} {w : World} (hr : Rd (Value.int .i64) w a c zs) :
    Calls Tryd.prog 25 #[.agg #[.int .i64 Z, .slice a zs.length c]] w fun e w' => e = .returned (.tuple #[.string (zerT Z zs), .bool (zerV Z zs)]) ∧ Below w.heap.size w w' := by
  have B0 : Below w.heap.size w (w.alloc (.cells #[.int .i64 Z, .slice a zs.length c] 46)) := (Below.refl _ _).alloc (Nat.le_refl _) _
  have I0 : Blk (w.alloc (.cells #[.int .i64 Z, .slice a zs.length c] 46)) w.heap.size #[.int .i64 Z, .slice a zs.length c] 46 := Blk.new _ _ _
  have HC1 := Lib.hid (l04Zeros_any (b := w.heap.size) (o := 0) (hr.below B0 (Nat.le_refl _)) (I0.cell (i := 0) (v := .int .i64 Z) rfl) (I0.cell (i := 1) (v := .slice a zs.length c) rfl))
  have HC2 := Lib.hid (l01List_any (hr.below B0 (Nat.le_refl _)))
  have HC3 := Lib.hid (fun h1 h2 => l08Zeros_any (b := w.heap.size) (o := 0) (Z := Z) (hr.below B0 (Nat.le_refl _)) h1 h2 (I0.cell (i := 0) (v := .int .i64 Z) rfl) (I0.cell (i := 1) (v := .slice a zs.length c) rfl))
  have HB0 := Lib.hid B0
  have HI0 := Lib.hid I0
  clear B0 I0 hr
  cases hz : zerosB Z zs with
  | false =>
    have he : zerV Z zs = false := by unfold zerV; rw [hz]; simp
    have he2 : zerT Z zs = ⟨#[]⟩ := by unfold zerT; rw [he]; rfl
    rw [he, he2]
    rw [hz] at HC1
    clear he he2
    go_enter Tryd.func25, Tryd.ntmps25
    go_wp2_with fail
    generalize (w.alloc (.cells #[.int .i64 Z, .slice a zs.length c] 46)) = w0 at HB0 HC1 HC2 HC3 HI0 ⊢
    refine HC1.out.mono ?_
    rintro e w1 ⟨rfl, rfl⟩
    go_wp2
    go_ret2
    exact ⟨rfl, HB0.out⟩
  | true =>
  rw [hz] at HC1
  cases hv : valsB zs with
  | false =>
    have he : zerV Z zs = false := by unfold zerV; rw [hv]; rfl
    have he2 : zerT Z zs = ⟨#[]⟩ := by unfold zerT; rw [he]; rfl
    rw [he, he2]
    rw [hv] at HC2
    clear he he2
    go_enter Tryd.func25, Tryd.ntmps25
    go_wp2_with fail
    generalize (w.alloc (.cells #[.int .i64 Z, .slice a zs.length c] 46)) = w0 at HB0 HC1 HC2 HC3 HI0 ⊢
    refine HC1.out.mono ?_
    rintro e w1 ⟨rfl, rfl⟩
    have i1 := HI0.out.cell (i := 1) (v := .slice a zs.length c) rfl
    go_wp2_with fail
    refine HC2.out.mono ?_
    rintro e w1 ⟨rfl, rfl⟩
    go_wp2
    go_ret2
    exact ⟨rfl, HB0.out⟩
  | true =>
  rw [hv] at HC2
  have he : zerV Z zs = true := by unfold zerV; rw [hv, hz]; rfl
  rw [he]
  obtain ⟨res, hres⟩ : ∃ r, zerT Z zs = r := ⟨_, rfl⟩
  rw [hres]
  go_enter Tryd.func25, Tryd.ntmps25
  go_wp2_with fail
  generalize (w.alloc (.cells #[.int .i64 Z, .slice a zs.length c] 46)) = w0 at HB0 HC1 HC2 HC3 HI0 ⊢
  refine HC1.out.mono ?_
  rintro e w1 ⟨rfl, rfl⟩
  have i1 := HI0.out.cell (i := 1) (v := .slice a zs.length c) rfl
  go_wp2_with fail
  refine HC2.out.mono ?_
  rintro e w1 ⟨rfl, rfl⟩
  have HC4 := Lib.hid (HC3.out hv hz)
  rw [hres] at HC4
  go_wp2_with fail
  refine HC4.out.mono ?_
  rintro e w2 ⟨rfl, hb2⟩
  have HB2 := Lib.hid (HB0.out.trans (hb2.mono HB0.out.size))
  clear hb2
  go_wp2
  go_ret2
  exact ⟨rfl, HB2.out⟩

end Go.Proofs.YtockifchghllhaaDoor
