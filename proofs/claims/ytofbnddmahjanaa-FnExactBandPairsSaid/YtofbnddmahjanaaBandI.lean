/- Bands: the program's text at every input. -/
import Derived.Test.YtofbnddmahjanaaBand
namespace Go.Proofs.Ytofbnddmahjanaa
open Go.RowKit

/-- What is asked of the lists and the width. -/
def bandOk (xss : List (List Bool)) (W : Int) : Bool :=
  decide (1 ≤ xss.length) && decide (xss.length ≤ 32) && inR ((rowAt xss 0).length : Int) 1 32 && !(offs xss ((rowAt xss 0).length : Int)).any id && divB W ((rowAt xss 0).length : Int)
def bandR (xss : List (List Bool)) (W : Int) : List Int :=
  if bandOk xss W then pairsR (bandT xss W.toNat ((rowAt xss 0).length / W.toNat)) xss.length else []

theorem bandOk_good {xss : List (List Bool)} {W : Int} (h : bandOk xss W = true) :
    ∃ (V m n : Nat), W = (V : Int) ∧ 1 ≤ xss.length ∧ xss.length ≤ 32 ∧ 1 ≤ V ∧ 1 ≤ n ∧ n ≤ 32 ∧ V ≤ n ∧ n = m * V ∧ (∀ i (h : i < xss.length), xss[i].length = n) ∧ (rowAt xss 0).length = n ∧ bandR xss W = pairsR (bandT xss V m) xss.length := by
  have h' := h
  simp only [bandOk, divB, Bool.and_eq_true, decide_eq_true_eq, inR_eq, Bool.not_eq_true', List.any_eq_false] at h
  obtain ⟨⟨⟨⟨h1, h2⟩, h3⟩, h4⟩, h5, h6⟩ := h
  obtain ⟨V, rfl⟩ : ∃ V : Nat, W = (V : Int) := ⟨W.toNat, by omega⟩
  obtain ⟨n, hn⟩ : ∃ n, (rowAt xss 0).length = n := ⟨_, rfl⟩
  rw [hn] at h3 h4 h5 h6
  have hmod : n % V = 0 := by omega
  refine ⟨V, n / V, n, rfl, h1, h2, by omega, by omega, by omega, by omega, ?_, ?_, hn, ?_⟩
  · rw [Nat.div_mul_cancel (Nat.dvd_of_mod_eq_zero hmod)]
  · intro i hi
    have := h4 ((xss[i].length : Int) != (n : Int)) (by simp only [offs, List.mem_map]; exact ⟨xss[i], List.getElem_mem hi, rfl⟩)
    have e : (xss[i].length : Int) = (n : Int) := by simpa using this
    omega
  · unfold bandR
    rw [if_pos h', hn]; simp

theorem bad1 {xss : List (List Bool)} {W : Int} (h : ¬ (1 ≤ xss.length ∧ xss.length ≤ 32)) : bandOk xss W = false := by
  simp only [bandOk]
  by_cases h1 : 1 ≤ xss.length
  · rw [decide_eq_false (show ¬ xss.length ≤ 32 by omega)]; simp
  · rw [decide_eq_false h1]; simp

set_option maxHeartbeats 1000000 in
theorem implBand_no1 {a : Option Addr} {c : Nat} {xss : List (List Bool)} {W : Int} {w : World} (hl : xss.length ≤ 9223372036854775807) (h : ¬ (1 ≤ xss.length ∧ xss.length ≤ 32)) :
    Calls Try.prog 18 #[.slice a xss.length c, .int .i64 W] w (RetSB (Value.int .i64) 2 w [] false) := by
  by_cases h1 : xss.length < 1
  · go_enter Try.func18, Try.ntmps18
    go_wp2
    go_ret2
    exact retSB_no (Below.refl _ _)
  · have h2 : 32 < xss.length := by omega
    clear h
    go_enter Try.func18, Try.ntmps18
    go_wp2
    go_ret2
    exact retSB_no (Below.refl _ _)

set_option maxRecDepth 8000 in
set_option maxHeartbeats 2000000 in
theorem implBand_no2 {a : Option Addr} {c : Nat} {hs : List Hd} {xss : List (List Bool)} {n : Nat} {W : Int} {w : World} (hr : Rd2 Value.bool w a c hs xss) (hN1 : 1 ≤ xss.length) (hN2 : xss.length ≤ 32) (hn : (rowAt xss 0).length = n) (hnm : n ≤ 9223372036854775807)
    (h : (inR (n : Int) 1 32 && !(offs xss (n : Int)).any id && divB W (n : Int)) = false) :
    Calls Try.prog 18 #[.slice a xss.length c, .int .i64 W] w (RetSB (Value.int .i64) 2 w [] false) := by
  have hi0 := rd_idxAt hr.top und_bbs siz_bbs 0 (by rw [hr.len]; omega) 0 rfl
  rw [hr.len] at hi0
  obtain ⟨a0, c0, hc0, -⟩ := hr.at (show 0 < xss.length by omega)
  rw [← rowAt_get (by omega), hn] at hc0
  clear hn
  have hb0 : Below w.heap.size w (w.alloc (.cells #[.int .i64 (n : Int)] 3)) := (Below.refl _ _).alloc (Nat.le_refl _) _
  have X0 : Hid (Blk (w.alloc (.cells #[.int .i64 (n : Int)] 3)) w.heap.size #[.int .i64 (n : Int)] 3) := Lib.hid (Blk.new _ _ _)
  have R0 := Lib.hid (hr.below hb0 (Nat.le_refl _))
  have B0 := Lib.hid hb0
  have H := Lib.hid h
  clear hb0 h
  go_enter Try.func18, Try.ntmps18
  go_wp2_with fail
  generalize w.alloc (.cells #[.int .i64 (n : Int)] 3) = w0 at X0 R0 B0 ⊢
  refine areSaltBits_any.mono ?_
  rintro e w1 ⟨rfl, rfl⟩
  by_cases b1 : inR (n : Int) 1 32 = true
  · rw [b1]
    have hnb := (inR_eq _ _ _).1 b1
    have hnb2 := hnb.2
    have HB1 := Lib.hid b1
    clear b1 hnb
    go_wp2_with fail
    refine (bandLens_any R0.out (X0.out.cell (i := 0) (v := .int .i64 (n : Int)) rfl)).mono ?_
    rintro e w1 ⟨rfl, hb1⟩
    have x1 := (X0.out.below hb1 (Nat.le_refl _)).cell (i := 0) (v := .int .i64 (n : Int)) rfl
    have B1 := Lib.hid (B0.out.trans (hb1.mono B0.out.size))
    clear hb1 R0 X0 B0
    obtain ⟨q, hq⟩ : ∃ q, (offs xss (n : Int)).any id = q := ⟨_, rfl⟩
    rw [hq]
    have HQ := Lib.hid hq
    clear hq
    cases q with
    | true =>
      go_wp2
      go_ret2
      exact retSB_no B1.out
    | false =>
      go_wp2_with fail
      refine (divides_any (by omega) (by omega)).mono ?_
      rintro e w2 ⟨rfl, rfl⟩
      have b3 : divB W (n : Int) = false := by
        have := H.out
        rw [HB1.out, HQ.out] at this
        simpa using this
      rw [b3]
      clear b3
      go_wp2
      go_ret2
      exact retSB_no B1.out
  · have b1' : inR (n : Int) 1 32 = false := by simpa using b1
    rw [b1']
    clear b1 b1'
    go_wp2
    go_ret2
    exact retSB_no B0.out

theorem implBand_any {a : Option Addr} {c : Nat} {hs : List Hd} {xss : List (List Bool)} {W : Int} {w : World} (hr : Rd2 Value.bool w a c hs xss) :
    Calls Try.prog 18 #[.slice a xss.length c, .int .i64 W] w (RetSB (Value.int .i64) 2 w (bandR xss W) (bandOk xss W)) := by
  by_cases hok : bandOk xss W = true
  · obtain ⟨V, m, n, rfl, h1, h2, h3, h4, h5, h6, h7, h8, -, h9⟩ := bandOk_good hok
    rw [h9, hok]
    exact implBand_good hr h1 h2 h3 h4 h5 h6 (Lib.hid h7) (Lib.hid h8)
  · have hno : bandOk xss W = false := by simpa using hok
    have hR : bandR xss W = [] := by unfold bandR; rw [if_neg hok]
    rw [hR, hno]
    by_cases h1 : 1 ≤ xss.length ∧ xss.length ≤ 32
    · refine implBand_no2 hr h1.1 h1.2 rfl ?_ ?_
      · obtain ⟨_, _, _, hr0⟩ := hr.at (show 0 < xss.length by omega)
        rw [rowAt_get (by omega)]; exact hr0.len
      · simp only [bandOk] at hno
        rw [decide_eq_true h1.1, decide_eq_true h1.2] at hno
        simpa using hno
    · exact implBand_no1 hr.lens h1

end Go.Proofs.Ytofbnddmahjanaa
