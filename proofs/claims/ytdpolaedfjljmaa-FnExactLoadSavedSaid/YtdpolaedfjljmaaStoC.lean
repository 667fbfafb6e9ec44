/- StoreSaved, StoreAll in both texts. -/
import Derived.Test.YtdpolaedfjljmaaStoI
import Derived.Test.YtdpolaedfjljmaaStoS
import Derived.Test.YtdpolaedfjljmaaSvS
namespace Go.Proofs.Ytdpolaedfjljmaa
open Go.RowKit

def stoT (s : Sv) : ByteArray := if savedV s then storeT s else ⟨#[]⟩
theorem stoT_yes {s : Sv} (h : savedV s = true) : stoT s = storeT s := by unfold stoT; rw [h]; rfl
theorem stoT_no {s : Sv} (h : savedV s = false) : stoT s = ⟨#[]⟩ := by unfold stoT; rw [h]; rfl
theorem validSv_any {h : SvH} {s : Sv} {w : World} (g : SvRd w h s) (n : s.ks.length ≤ 1048576) :
    Calls Try.prog 27 #[.agg #[.string s.nm, .int .i64 s.W, .int .i64 s.D, .int .i64 s.S, .slice h.a0 s.cs.length h.c0, .int .i64 s.R, .slice h.a1 s.ks.length h.c1, .slice h.a2 s.ts.length h.c2, .slice h.a3 s.es.length h.c3]] w fun e w' => e = .returned (.bool (savedV s)) ∧ Below w.heap.size w w' := validSaved_any g.cs g.ks g.ts g.es g.nm n

set_option maxHeartbeats 1000000 in
theorem storeSaved_any {h : SvH} {s : Sv} {w : World} (g : SvRd w h s) (n : s.ks.length ≤ 1048576) :
    Calls Try.prog 21 #[.agg #[.string s.nm, .int .i64 s.W, .int .i64 s.D, .int .i64 s.S, .slice h.a0 s.cs.length h.c0, .int .i64 s.R, .slice h.a1 s.ks.length h.c1, .slice h.a2 s.ts.length h.c2, .slice h.a3 s.es.length h.c3]] w fun e w' => e = .returned (.tuple #[.string (stoT s), .bool (savedV s)]) ∧ Below w.heap.size w w' := by
  have B0 : Below w.heap.size w (w.alloc (.cells #[.string s.nm, .int .i64 s.W, .int .i64 s.D, .int .i64 s.S, .slice h.a0 s.cs.length h.c0, .int .i64 s.R, .slice h.a1 s.ks.length h.c1, .slice h.a2 s.ts.length h.c2, .slice h.a3 s.es.length h.c3] 28)) := (Below.refl _ _).alloc (Nat.le_refl _) _
  have I0 : Blk (w.alloc (.cells #[.string s.nm, .int .i64 s.W, .int .i64 s.D, .int .i64 s.S, .slice h.a0 s.cs.length h.c0, .int .i64 s.R, .slice h.a1 s.ks.length h.c1, .slice h.a2 s.ts.length h.c2, .slice h.a3 s.es.length h.c3] 28)) w.heap.size #[.string s.nm, .int .i64 s.W, .int .i64 s.D, .int .i64 s.S, .slice h.a0 s.cs.length h.c0, .int .i64 s.R, .slice h.a1 s.ks.length h.c1, .slice h.a2 s.ts.length h.c2, .slice h.a3 s.es.length h.c3] 28 := Blk.new _ _ _
  have H0 := Lib.hid (And.intro B0 I0)
  have HG := Lib.hid g
  clear B0 I0 g
  cases hv : savedV s with
  | false =>
    rw [stoT_no hv]
    go_enter Try.func21, Try.ntmps21
    go_wp2_with fail
    generalize (w.alloc (.cells #[.string s.nm, .int .i64 s.W, .int .i64 s.D, .int .i64 s.S, .slice h.a0 s.cs.length h.c0, .int .i64 s.R, .slice h.a1 s.ks.length h.c1, .slice h.a2 s.ts.length h.c2, .slice h.a3 s.es.length h.c3] 28)) = w0 at H0 ⊢
    refine (validSv_any (HG.out.below H0.out.1 (Nat.le_refl _)) n).mono ?_
    rintro e w1 ⟨rfl, hb1⟩
    rw [hv]
    have HB1 := Lib.hid (H0.out.1.trans (hb1.mono H0.out.1.size))
    clear hb1
    go_wp2
    go_ret2
    exact ⟨rfl, HB1.out⟩
  | true =>
  rw [stoT_yes hv]
  have HOK := Lib.hid (svOk_of hv)
  obtain ⟨tt, ht⟩ : ∃ t, storeT s = t := ⟨_, rfl⟩
  rw [ht]
  have HT := Lib.hid ht
  clear ht
  go_enter Try.func21, Try.ntmps21
  go_wp2_with fail
  generalize (w.alloc (.cells #[.string s.nm, .int .i64 s.W, .int .i64 s.D, .int .i64 s.S, .slice h.a0 s.cs.length h.c0, .int .i64 s.R, .slice h.a1 s.ks.length h.c1, .slice h.a2 s.ts.length h.c2, .slice h.a3 s.es.length h.c3] 28)) = w0 at H0 ⊢
  refine (validSv_any (HG.out.below H0.out.1 (Nat.le_refl _)) n).mono ?_
  rintro e w1 ⟨rfl, hb1⟩
  rw [hv]
  have HB1 := Lib.hid (H0.out.1.trans (hb1.mono H0.out.1.size))
  have I1 := H0.out.2.below hb1 (Nat.le_refl _)
  have i0 := I1.cell (i := 0) (v := .string s.nm) rfl
  have i1 := I1.cell (i := 1) (v := .int .i64 s.W) rfl
  have i2 := I1.cell (i := 2) (v := .int .i64 s.D) rfl
  have i3 := I1.cell (i := 3) (v := .int .i64 s.S) rfl
  have i4 := I1.cell (i := 4) (v := .slice h.a0 s.cs.length h.c0) rfl
  have i5 := I1.cell (i := 5) (v := .int .i64 s.R) rfl
  have i6 := I1.cell (i := 6) (v := .slice h.a1 s.ks.length h.c1) rfl
  have i7 := I1.cell (i := 7) (v := .slice h.a2 s.ts.length h.c2) rfl
  have i8 := I1.cell (i := 8) (v := .slice h.a3 s.es.length h.c3) rfl
  clear hb1 I1 H0
  go_wp2_with fail
  refine (store_any (HG.out.below HB1.out (Nat.le_refl _)) HOK.out).mono ?_
  rintro e w2 ⟨rfl, hb2⟩
  rw [HT.out]
  have HB2 := Lib.hid (HB1.out.trans (hb2.mono HB1.out.size))
  clear hb2 i0 i1 i2 i3 i4 i5 i6 i7 i8
  go_wp2
  go_ret2
  exact ⟨rfl, HB2.out⟩

theorem l07SavedS_any {b0 o : Nat} {h : SvH} {s : Sv} {w : World} (g : SvRd w h s) (d0 : w.cell? ⟨b0, o, none⟩ = some (.string s.nm)) (d1 : w.cell? ⟨b0, o + 1, none⟩ = some (.int .i64 s.W)) (d2 : w.cell? ⟨b0, o + 2, none⟩ = some (.int .i64 s.D)) (d3 : w.cell? ⟨b0, o + 3, none⟩ = some (.int .i64 s.S)) (d4 : w.cell? ⟨b0, o + 4, none⟩ = some (.slice h.a0 s.cs.length h.c0)) (d5 : w.cell? ⟨b0, o + 5, none⟩ = some (.int .i64 s.R)) (d6 : w.cell? ⟨b0, o + 6, none⟩ = some (.slice h.a1 s.ks.length h.c1)) (d7 : w.cell? ⟨b0, o + 7, none⟩ = some (.slice h.a2 s.ts.length h.c2)) (d8 : w.cell? ⟨b0, o + 8, none⟩ = some (.slice h.a3 s.es.length h.c3)) :
    Calls Try.prog 62 #[.pointer (some ⟨b0, o, none⟩)] w fun e w' => e = .returned (.bool (savedV s)) ∧ Below w.heap.size w w' := l07Saved_any g.cs g.ks g.ts g.es g.nm d0 d1 d2 d3 d4 d5 d6 d7 d8

set_option maxHeartbeats 1000000 in
theorem specStoreSaved_any {h : SvH} {s : Sv} {w : World} (g : SvRd w h s) :
    Calls Try.prog 22 #[.agg #[.string s.nm, .int .i64 s.W, .int .i64 s.D, .int .i64 s.S, .slice h.a0 s.cs.length h.c0, .int .i64 s.R, .slice h.a1 s.ks.length h.c1, .slice h.a2 s.ts.length h.c2, .slice h.a3 s.es.length h.c3]] w fun e w' => e = .returned (.tuple #[.string (stoT s), .bool (savedV s)]) ∧ Below w.heap.size w w' := by
  have B0 : Below w.heap.size w (w.alloc (.cells #[.string s.nm, .int .i64 s.W, .int .i64 s.D, .int .i64 s.S, .slice h.a0 s.cs.length h.c0, .int .i64 s.R, .slice h.a1 s.ks.length h.c1, .slice h.a2 s.ts.length h.c2, .slice h.a3 s.es.length h.c3] 28)) := (Below.refl _ _).alloc (Nat.le_refl _) _
  have I0 : Blk (w.alloc (.cells #[.string s.nm, .int .i64 s.W, .int .i64 s.D, .int .i64 s.S, .slice h.a0 s.cs.length h.c0, .int .i64 s.R, .slice h.a1 s.ks.length h.c1, .slice h.a2 s.ts.length h.c2, .slice h.a3 s.es.length h.c3] 28)) w.heap.size #[.string s.nm, .int .i64 s.W, .int .i64 s.D, .int .i64 s.S, .slice h.a0 s.cs.length h.c0, .int .i64 s.R, .slice h.a1 s.ks.length h.c1, .slice h.a2 s.ts.length h.c2, .slice h.a3 s.es.length h.c3] 28 := Blk.new _ _ _
  have HC : Hid (∀ w1, Below (w.heap.size + 1) (w.alloc (.cells #[.string s.nm, .int .i64 s.W, .int .i64 s.D, .int .i64 s.S, .slice h.a0 s.cs.length h.c0, .int .i64 s.R, .slice h.a1 s.ks.length h.c1, .slice h.a2 s.ts.length h.c2, .slice h.a3 s.es.length h.c3] 28)) w1 → SvRd w1 h s ∧ w1.cell? ⟨w.heap.size, 0, none⟩ = some (.string s.nm) ∧ w1.cell? ⟨w.heap.size, 0 + 1, none⟩ = some (.int .i64 s.W) ∧ w1.cell? ⟨w.heap.size, 0 + 2, none⟩ = some (.int .i64 s.D) ∧ w1.cell? ⟨w.heap.size, 0 + 3, none⟩ = some (.int .i64 s.S) ∧ w1.cell? ⟨w.heap.size, 0 + 4, none⟩ = some (.slice h.a0 s.cs.length h.c0) ∧ w1.cell? ⟨w.heap.size, 0 + 5, none⟩ = some (.int .i64 s.R) ∧ w1.cell? ⟨w.heap.size, 0 + 6, none⟩ = some (.slice h.a1 s.ks.length h.c1) ∧ w1.cell? ⟨w.heap.size, 0 + 7, none⟩ = some (.slice h.a2 s.ts.length h.c2) ∧ w1.cell? ⟨w.heap.size, 0 + 8, none⟩ = some (.slice h.a3 s.es.length h.c3)) := Lib.hid (fun w1 hb => by
    have I1 := I0.below hb (by simp)
    exact ⟨(g.below B0 (Nat.le_refl _)).below hb (by simp), I1.cell (i := 0) rfl, I1.cell (i := 1) rfl, I1.cell (i := 2) rfl, I1.cell (i := 3) rfl, I1.cell (i := 4) rfl, I1.cell (i := 5) rfl, I1.cell (i := 6) rfl, I1.cell (i := 7) rfl, I1.cell (i := 8) rfl⟩)
  have HS0 : Hid ((w.alloc (.cells #[.string s.nm, .int .i64 s.W, .int .i64 s.D, .int .i64 s.S, .slice h.a0 s.cs.length h.c0, .int .i64 s.R, .slice h.a1 s.ks.length h.c1, .slice h.a2 s.ts.length h.c2, .slice h.a3 s.es.length h.c3] 28)).heap.size = w.heap.size + 1) := Lib.hid (by simp)
  have HB0 := Lib.hid B0
  clear B0 I0 g
  have hsv : Hid (∀ w1, Below (w.heap.size + 1) (w.alloc (.cells #[.string s.nm, .int .i64 s.W, .int .i64 s.D, .int .i64 s.S, .slice h.a0 s.cs.length h.c0, .int .i64 s.R, .slice h.a1 s.ks.length h.c1, .slice h.a2 s.ts.length h.c2, .slice h.a3 s.es.length h.c3] 28)) w1 → Calls Try.prog 62 #[.pointer (some ⟨w.heap.size, 0, none⟩)] w1 fun e w' => e = .returned (.bool (savedV s)) ∧ Below w1.heap.size w1 w') := Lib.hid (fun w1 hb => by
    obtain ⟨g, d0, d1, d2, d3, d4, d5, d6, d7, d8⟩ := HC.out w1 hb
    exact l07SavedS_any g d0 d1 d2 d3 d4 d5 d6 d7 d8)
  have hst : Hid (SvOk s → ∀ w1, Below (w.heap.size + 1) (w.alloc (.cells #[.string s.nm, .int .i64 s.W, .int .i64 s.D, .int .i64 s.S, .slice h.a0 s.cs.length h.c0, .int .i64 s.R, .slice h.a1 s.ks.length h.c1, .slice h.a2 s.ts.length h.c2, .slice h.a3 s.es.length h.c3] 28)) w1 → Calls Try.prog 63 #[.pointer (some ⟨w.heap.size, 0, none⟩)] w1 fun e w' => e = .returned (.string (storeT s)) ∧ Below w1.heap.size w1 w') := Lib.hid (fun ok w1 hb => by
    obtain ⟨g, d0, d1, d2, d3, d4, d5, d6, d7, d8⟩ := HC.out w1 hb
    exact l07Store_any g ok d0 d1 d2 d3 d4 d5 d6 d7 d8)
  clear HC
  cases hv : savedV s with
  | false =>
    rw [stoT_no hv]
    rw [hv] at hsv
    go_enter Try.func22, Try.ntmps22
    go_wp2_with fail
    generalize (w.alloc (.cells #[.string s.nm, .int .i64 s.W, .int .i64 s.D, .int .i64 s.S, .slice h.a0 s.cs.length h.c0, .int .i64 s.R, .slice h.a1 s.ks.length h.c1, .slice h.a2 s.ts.length h.c2, .slice h.a3 s.es.length h.c3] 28)) = w0 at HB0 HS0 hsv hst ⊢
    refine (hsv.out w0 (Below.refl _ _)).mono ?_
    rintro e w1 ⟨rfl, hb1⟩
    have HB1 := Lib.hid (HB0.out.trans (hb1.mono HB0.out.size))
    clear hb1
    go_wp2
    go_ret2
    exact ⟨rfl, HB1.out⟩
  | true =>
  rw [stoT_yes hv]
  rw [hv] at hsv
  have HOK := Lib.hid (svOk_of hv)
  obtain ⟨tt, ht⟩ : ∃ t, storeT s = t := ⟨_, rfl⟩
  rw [ht] at hst ⊢
  clear ht
  go_enter Try.func22, Try.ntmps22
  go_wp2_with fail
  generalize (w.alloc (.cells #[.string s.nm, .int .i64 s.W, .int .i64 s.D, .int .i64 s.S, .slice h.a0 s.cs.length h.c0, .int .i64 s.R, .slice h.a1 s.ks.length h.c1, .slice h.a2 s.ts.length h.c2, .slice h.a3 s.es.length h.c3] 28)) = w0 at HB0 HS0 hsv hst ⊢
  refine (hsv.out w0 (Below.refl _ _)).mono ?_
  rintro e w1 ⟨rfl, hb1⟩
  have HB1 := Lib.hid (HB0.out.trans (hb1.mono HB0.out.size))
  have hc := hst.out HOK.out w1 (by rw [← HS0.out]; exact hb1)
  have HC2 := Lib.hid hc
  clear hb1 hc hsv hst HS0
  go_wp2_with fail
  refine HC2.out.mono ?_
  rintro e w2 ⟨rfl, hb2⟩
  have HB2 := Lib.hid (HB1.out.trans (hb2.mono HB1.out.size))
  clear hb2
  go_wp2
  go_ret2
  exact ⟨rfl, HB2.out⟩

/-- The bytes of all. -/
def catT (ss : List Sv) : Nat → ByteArray
  | 0 => ⟨#[]⟩
  | k + 1 => catT ss k ++ match ss[k]? with
    | some s => storeT s
    | none => ⟨#[]⟩
theorem catT_succ {ss : List Sv} {k : Nat} (h : k < ss.length) : catT ss (k + 1) = catT ss k ++ storeT ss[k] := by
  show catT ss k ++ _ = _
  rw [List.getElem?_eq_getElem h]
theorem storeT_le {s : Sv} (h : savedV s = true) : (storeT s).size ≤ 2000 := by
  have ok := svOk_of h
  rw [storeT_size]
  have := ok.nm; have := ok.csl; have := ok.ksl
  omega
theorem catT_size {ss : List Sv} (k : Nat) (hk : k ≤ ss.length) (h : ∀ j, j < k → ∀ (h : j < ss.length), savedV ss[j] = true) : (catT ss k).size ≤ 2000 * k := by
  induction k with
  | zero => exact Nat.le_refl _
  | succ k ih =>
    rw [catT_succ (by omega), ByteArray.size_append]
    have h1 := ih (by omega) (fun j hj hl => h j (by omega) hl)
    have h2 := storeT_le (h k (by omega) (by omega))
    omega
def allB (ss : List Sv) : Bool := decide (ss.length ≤ 8) && ss.all savedV
def allT (ss : List Sv) : ByteArray := if allB ss then catT ss ss.length else ⟨#[]⟩
theorem allB_no {ss : List Sv} {k : Nat} (h : k < ss.length) (hv : savedV ss[k] = false) : allB ss = false := by
  unfold allB
  rw [Bool.and_eq_false_iff]
  right
  rw [List.all_eq_false]
  exact ⟨ss[k], List.getElem_mem h, by rw [hv]; simp⟩
theorem allB_yes {ss : List Sv} (hl : ss.length ≤ 8) (h : ∀ k (hk : k < ss.length), savedV ss[k] = true) : allB ss = true := by
  unfold allB
  rw [decide_eq_true hl, Bool.true_and, List.all_eq_true]
  intro s hs
  obtain ⟨k, hk, rfl⟩ := List.getElem_of_mem hs
  exact h k hk

set_option maxRecDepth 4000 in
set_option maxHeartbeats 2000000 in
theorem storeAll_any {a : Option Addr} {c : Nat} {hs : List SvH} {ss : List Sv} {w : World} (hr : Rd9 w a c hs ss) (hn : svsSize ss ≤ 1048576) :
    Calls Try.prog 23 #[.slice a ss.length c] w fun e w' => e = .returned (.tuple #[.string (allT ss), .bool (allB ss)]) ∧ Below w.heap.size w w' := by
  have hln := hr.len
  by_cases hl : 8 < ss.length
  · have he : allB ss = false := by unfold allB; rw [decide_eq_false (by omega)]; rfl
    have het : allT ss = ⟨#[]⟩ := by unfold allT; rw [he]; rfl
    rw [he, het]
    have hd : decide ((8 : Int) < (ss.length : Int)) = true := decide_eq_true (by omega)
    go_enter Try.func23, Try.ntmps23
    go_wp2
    go_ret2
    exact ⟨rfl, Below.refl _ _⟩
  have hd : decide ((8 : Int) < (ss.length : Int)) = false := decide_eq_false (by omega)
  obtain ⟨rb, hrb⟩ : ∃ r, allB ss = r := ⟨_, rfl⟩
  obtain ⟨rt, hrt⟩ : ∃ r, allT ss = r := ⟨_, rfl⟩
  have HNO : Hid (∀ k (h : k < ss.length), savedV ss[k] = false → rb = false ∧ rt = ⟨#[]⟩) := Lib.hid (fun k h hv => by
    have h1 := allB_no h hv
    refine ⟨hrb.symm.trans h1, ?_⟩
    rw [← hrt]; unfold allT; rw [h1]; rfl)
  have HYES : Hid ((∀ k (h : k < ss.length), savedV ss[k] = true) → rb = true ∧ rt = catT ss ss.length) := Lib.hid (fun h => by
    have h1 := allB_yes (by omega) h
    refine ⟨hrb.symm.trans h1, ?_⟩
    rw [← hrt]; unfold allT; rw [h1]; rfl)
  have HSZ : Hid (∀ k (h : k < ss.length), ss[k].ks.length ≤ 1048576) := Lib.hid (fun k h => by have := svsSize_row h hn; unfold svSize at this; omega)
  have H0 : Hid (catT ss 0 = ⟨#[]⟩) := Lib.hid rfl
  have HCZ : Hid (∀ k, k ≤ ss.length → (∀ j, j < k → ∀ (h : j < ss.length), savedV ss[j] = true) → (catT ss k).size ≤ 2000 * k) := Lib.hid (fun k => catT_size k)
  have HCS : Hid (∀ k (h : k < ss.length), catT ss (k + 1) = catT ss k ++ storeT ss[k]) := Lib.hid (fun k h => catT_succ h)
  rw [hrb, hrt]
  generalize catT ss = C at HYES H0 HCS HCZ
  clear hrb hrt hn
  go_enter Try.func23, Try.ntmps23
  go_wp2
  clear hd
  go_loopw [4, 6, 7, 8, 14] (fun oi _ _ _ vi wr => ∃ k : Nat, k ≤ ss.length ∧ vi = .int .i64 k ∧ oi = .string (C k) ∧ Hid ((∀ j, j < k → ∀ (h : j < ss.length), savedV ss[j] = true) ∧ Below w.heap.size w wr)) (fun _ _ _ _ vi _ => ss.length - (intOf vi).toNat)
  case atStart => exact ⟨0, Nat.zero_le _, rfl, by rw [H0.out], Lib.hid ⟨fun j h => by omega, Below.refl _ _⟩⟩
  case round =>
    obtain ⟨k, hk, rfl, rfl, HI⟩ := hrel
    by_cases hlt : k < ss.length
    · have hltz : (k : Int) < (ss.length : Int) := by omega
      have ewk : IntKind.i64.wrap ((k : Int) + 1) = (k : Int) + 1 := IntWalk.i64_in _ (by omega)
      obtain ⟨b1, o1, rfl, hblt⟩ := hr.here (by omega)
      obtain ⟨d1, hrx, x0, x1, x2, x3, x4, x5, x6, x7, x8⟩ := (hr.below HI.out.2 (Nat.le_refl _)).at hlt
      have hix := idx9 (b := b1) (o := o1) (n := ss.length) (c := c) und_svi siz_svi
      have HS1 := Lib.hid (HCS.out k hlt)
      have HN1 := Lib.hid (HNO.out k hlt)
      have hkl := HSZ.out k hlt
      have hcz := HCZ.out k hk HI.out.1
      have HP1 : Hid (savedV ss[k] = true → ∀ j, j < k + 1 → ∀ (h : j < ss.length), savedV ss[j] = true) := Lib.hid (fun hv j hj h => by
        by_cases e : j = k
        · subst e; exact hv
        · exact HI.out.1 j (by omega) h)
      have HC := Lib.hid (fun ob => storeSaved_any (hrx.below ((Below.refl wr.heap.size wr).alloc (Nat.le_refl _) ob) (Nat.le_refl _)) hkl)
      have HBB := Lib.hid (fun ob w1 (h : Below (wr.alloc ob).heap.size (wr.alloc ob) w1) => HI.out.2.trans ((((Below.refl wr.heap.size wr).alloc (Nat.le_refl _) ob).trans (h.mono (by simp))).mono HI.out.2.size))
      generalize ss[k] = s at HC HS1 HN1 HP1 x0 x1 x2 x3 x4 x5 x6 x7 x8
      clear hrx hkl
      cases hv : savedV s with
      | false =>
        have HE := Lib.hid (HN1.out hv)
        rw [hv, stoT_no hv] at HC
        go_wp2_with fail
        refine (HC.out _).mono ?_
        rintro e w1 ⟨rfl, hb1⟩
        have HB1 := Lib.hid (HBB.out _ _ hb1)
        clear hb1
        go_wp2
        go_ret2
        exact ⟨by rw [HE.out.1, HE.out.2]; rfl, HB1.out⟩
      | true =>
      rw [hv, stoT_yes hv] at HC
      have htz := storeT_le hv
      obtain ⟨tt, ht⟩ : ∃ t, storeT s = t := ⟨_, rfl⟩
      rw [ht] at HC HS1 htz
      have hadd : ∀ w', (Op.stringOp .add (C k) tt).run Try.prog w' = .ok (.string (C k ++ tt)) w' := fun w' => run_string_add_sum _ _ _ (by omega)
      have HP2 := Lib.hid (HP1.out hv)
      clear ht
      go_wp2_with fail
      refine (HC.out _).mono ?_
      rintro e w1 ⟨rfl, hb1⟩
      have HB1 := Lib.hid (HBB.out _ _ hb1)
      clear hb1 x0 x1 x2 x3 x4 x5 x6 x7 x8
      go_wp2
      go_roundw
      case rel => exact ⟨k + 1, by omega, by go_num, by rw [HS1.out], Lib.hid ⟨HP2.out, HB1.out⟩⟩
      case measure => simp [intOf]; omega
    · obtain rfl : k = ss.length := by omega
      have hltz : ¬ (ss.length : Int) < (ss.length : Int) := by omega
      have HE := Lib.hid (HYES.out (fun j h => HI.out.1 j h h))
      go_wp2
      go_ret2
      exact ⟨by rw [HE.out.1, HE.out.2]; rfl, HI.out.2⟩

set_option maxRecDepth 4000 in
set_option maxHeartbeats 2000000 in
theorem specStoreAll_any {a : Option Addr} {c : Nat} {hs : List SvH} {ss : List Sv} {w : World} (hr : Rd9 w a c hs ss) (hn : svsSize ss ≤ 1048576) :
    Calls Try.prog 24 #[.slice a ss.length c] w fun e w' => e = .returned (.tuple #[.string (allT ss), .bool (allB ss)]) ∧ Below w.heap.size w w' := by
  have hln := hr.len
  by_cases hl : 8 < ss.length
  · have he : allB ss = false := by unfold allB; rw [decide_eq_false (by omega)]; rfl
    have het : allT ss = ⟨#[]⟩ := by unfold allT; rw [he]; rfl
    rw [he, het]
    have hd : decide ((8 : Int) < (ss.length : Int)) = true := decide_eq_true (by omega)
    go_enter Try.func24, Try.ntmps24
    go_wp2
    go_ret2
    exact ⟨rfl, Below.refl _ _⟩
  have hd : decide ((8 : Int) < (ss.length : Int)) = false := decide_eq_false (by omega)
  obtain ⟨rb, hrb⟩ : ∃ r, allB ss = r := ⟨_, rfl⟩
  obtain ⟨rt, hrt⟩ : ∃ r, allT ss = r := ⟨_, rfl⟩
  have HNO : Hid (∀ k (h : k < ss.length), savedV ss[k] = false → rb = false ∧ rt = ⟨#[]⟩) := Lib.hid (fun k h hv => by
    have h1 := allB_no h hv
    refine ⟨hrb.symm.trans h1, ?_⟩
    rw [← hrt]; unfold allT; rw [h1]; rfl)
  have HYES : Hid ((∀ k (h : k < ss.length), savedV ss[k] = true) → rb = true ∧ rt = catT ss ss.length) := Lib.hid (fun h => by
    have h1 := allB_yes (by omega) h
    refine ⟨hrb.symm.trans h1, ?_⟩
    rw [← hrt]; unfold allT; rw [h1]; rfl)
  have HSZ : Hid (∀ k (h : k < ss.length), ss[k].ks.length ≤ 1048576) := Lib.hid (fun k h => by have := svsSize_row h hn; unfold svSize at this; omega)
  have H0 : Hid (catT ss 0 = ⟨#[]⟩) := Lib.hid rfl
  have HCZ : Hid (∀ k, k ≤ ss.length → (∀ j, j < k → ∀ (h : j < ss.length), savedV ss[j] = true) → (catT ss k).size ≤ 2000 * k) := Lib.hid (fun k => catT_size k)
  have HCS : Hid (∀ k (h : k < ss.length), catT ss (k + 1) = catT ss k ++ storeT ss[k]) := Lib.hid (fun k h => catT_succ h)
  rw [hrb, hrt]
  generalize catT ss = C at HYES H0 HCS HCZ
  clear hrb hrt hn
  go_enter Try.func24, Try.ntmps24
  go_wp2
  clear hd
  go_loopw [4, 5, 11] (fun oi _ vi wr => ∃ k : Nat, k ≤ ss.length ∧ vi = .int .i64 k ∧ oi = .string (C k) ∧ Hid ((∀ j, j < k → ∀ (h : j < ss.length), savedV ss[j] = true) ∧ Below w.heap.size w wr)) (fun _ _ vi _ => ss.length - (intOf vi).toNat)
  case atStart => exact ⟨0, Nat.zero_le _, rfl, by rw [H0.out], Lib.hid ⟨fun j h => by omega, Below.refl _ _⟩⟩
  case round =>
    obtain ⟨k, hk, rfl, rfl, HI⟩ := hrel
    by_cases hlt : k < ss.length
    · have hltz : (k : Int) < (ss.length : Int) := by omega
      have ewk : IntKind.i64.wrap ((k : Int) + 1) = (k : Int) + 1 := IntWalk.i64_in _ (by omega)
      obtain ⟨b1, o1, rfl, hblt⟩ := hr.here (by omega)
      obtain ⟨d1, hrx, x0, x1, x2, x3, x4, x5, x6, x7, x8⟩ := (hr.below HI.out.2 (Nat.le_refl _)).at hlt
      have hix := idx9 (b := b1) (o := o1) (n := ss.length) (c := c) und_svi siz_svi
      have HS1 := Lib.hid (HCS.out k hlt)
      have HN1 := Lib.hid (HNO.out k hlt)
      have hkl := HSZ.out k hlt
      have hcz := HCZ.out k hk HI.out.1
      have HP1 : Hid (savedV ss[k] = true → ∀ j, j < k + 1 → ∀ (h : j < ss.length), savedV ss[j] = true) := Lib.hid (fun hv j hj h => by
        by_cases e : j = k
        · subst e; exact hv
        · exact HI.out.1 j (by omega) h)
      have HC := Lib.hid (l07SavedS_any hrx x0 x1 x2 x3 x4 x5 x6 x7 x8)
      have HD : Hid (SvOk ss[k] → ∀ w1, Below wr.heap.size wr w1 → Calls Try.prog 63 #[.pointer (some ⟨b1, o1 + k * 9, none⟩)] w1 fun e w' => e = .returned (.string (storeT ss[k])) ∧ Below w1.heap.size w1 w') := Lib.hid (fun ok w1 hb =>
        l07Store_any (hrx.below hb (Nat.le_refl _)) ok (k_below hb (Nat.le_refl _) x0) (k_below hb (Nat.le_refl _) x1) (k_below hb (Nat.le_refl _) x2) (k_below hb (Nat.le_refl _) x3) (k_below hb (Nat.le_refl _) x4) (k_below hb (Nat.le_refl _) x5) (k_below hb (Nat.le_refl _) x6) (k_below hb (Nat.le_refl _) x7) (k_below hb (Nat.le_refl _) x8))
      clear hrx hkl x0 x1 x2 x3 x4 x5 x6 x7 x8
      generalize ss[k] = s at HC HD HS1 HN1 HP1
      cases hv : savedV s with
      | false =>
        have HE := Lib.hid (HN1.out hv)
        rw [hv] at HC
        go_wp2_with fail
        refine HC.out.mono ?_
        rintro e w1 ⟨rfl, hb1⟩
        have HB1 := Lib.hid (HI.out.2.trans (hb1.mono HI.out.2.size))
        clear hb1
        go_wp2
        go_ret2
        exact ⟨by rw [HE.out.1, HE.out.2]; rfl, HB1.out⟩
      | true =>
      rw [hv] at HC
      have HP2 := Lib.hid (HP1.out hv)
      have hok := svOk_of hv
      have HDD := Lib.hid (HD.out hok)
      have htz := storeT_le hv
      obtain ⟨tt, ht⟩ : ∃ t, storeT s = t := ⟨_, rfl⟩
      rw [ht] at HDD HS1 htz
      have hadd : ∀ w', (Op.stringOp .add (C k) tt).run Try.prog w' = .ok (.string (C k ++ tt)) w' := fun w' => run_string_add_sum _ _ _ (by omega)
      clear ht hok HD
      go_wp2_with fail
      refine HC.out.mono ?_
      rintro e w1 ⟨rfl, hb1⟩
      have HB1 := Lib.hid (HI.out.2.trans (hb1.mono HI.out.2.size))
      have HC2 := Lib.hid (HDD.out w1 hb1)
      clear hb1
      go_wp2_with fail
      refine HC2.out.mono ?_
      rintro e w2 ⟨rfl, hb2⟩
      have HB2 := Lib.hid (HB1.out.trans (hb2.mono HB1.out.size))
      clear hb2
      go_wp2
      go_roundw
      case rel => exact ⟨k + 1, by omega, by go_num, by rw [HS1.out], Lib.hid ⟨HP2.out, HB2.out⟩⟩
      case measure => simp [intOf]; omega
    · obtain rfl : k = ss.length := by omega
      have hltz : ¬ (ss.length : Int) < (ss.length : Int) := by omega
      have HE := Lib.hid (HYES.out (fun j h => HI.out.1 j h h))
      go_wp2
      go_ret2
      exact ⟨by rw [HE.out.1, HE.out.2]; rfl, HI.out.2⟩

end Go.Proofs.Ytdpolaedfjljmaa
