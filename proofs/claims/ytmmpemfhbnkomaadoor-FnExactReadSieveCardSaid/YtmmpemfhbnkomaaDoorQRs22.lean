/- ReadSieve: plain, and in the program's text. ReadSieve in the reference's text. The walk of the law FnExactReadSieve. -/
import Derived.Test.YtmmpemfhbnkomaaDoorQRs21
import Derived.Test.YtmmpemfhbnkomaaDoorQRs17
import Derived.Deep.Cut
import Derived.Deep.DrawnRows
import Derived.Test.YtmmpemfhbnkomaaDoorQRs2
set_option linter.unusedVariables false
set_option linter.unusedSimpArgs false
namespace Go.Proofs.YtmmpemfhbnkomaaDoor
open Go.RowKit
attribute [local go_sem ↓] Go.wp_at_zero Go.wp_at_succ

/-- The bits of letters. -/
def bitsK (T : ByteArray) (k : Nat) : List Bool := (List.range k).map fun j => ((byt T j : Int) == 49)
def bitsOf (T : ByteArray) : List Bool := bitsK T T.size
theorem bitsK_len (T : ByteArray) (k : Nat) : (bitsK T k).length = k := by simp [bitsK]
theorem bitsK_succ (T : ByteArray) (k : Nat) : bitsK T (k + 1) = bitsK T k ++ [((byt T k : Int) == 49)] := by simp [bitsK, List.range_succ]
def is01 (T : ByteArray) : Bool := (List.range T.size).all fun j => decide (byt T j = 48 ∨ byt T j = 49)
def rsOk (t : ByteArray) : Bool := ctB 59 t && numsB (ctH 59 t) && decide ((numsL (ctH 59 t)).length = 2) && is01 (ctT 59 t) && sieveB (at0 (numsL (ctH 59 t)) 0) (at0 (numsL (ctH 59 t)) 1) (ctT 59 t).size
def rsB (t : ByteArray) : Bool := rsOk t
def rsR (t : ByteArray) : Int := if rsB t then at0 (numsL (ctH 59 t)) 0 else 0
def rsS (t : ByteArray) : Int := if rsB t then at0 (numsL (ctH 59 t)) 1 else 0
def rsL (t : ByteArray) : List Bool := if rsB t then bitsOf (ctT 59 t) else []
theorem rs_no {t : ByteArray} (h : rsB t = false) : rsR t = 0 ∧ rsS t = 0 ∧ rsL t = [] := by unfold rsR rsS rsL; rw [h]; exact ⟨rfl, rfl, rfl⟩
theorem rs_yes {t : ByteArray} (h : rsB t = true) : rsR t = at0 (numsL (ctH 59 t)) 0 ∧ rsS t = at0 (numsL (ctH 59 t)) 1 ∧ rsL t = bitsOf (ctT 59 t) := by unfold rsR rsS rsL; rw [h]; exact ⟨rfl, rfl, rfl⟩
theorem sieve_size {R S : Int} {n : Nat} (h : sieveB R S n = true) : 1 ≤ n ∧ n ≤ 512 := by
  unfold sieveB at h
  simp only [Bool.and_eq_true] at h
  have h1 := of_decide_eq_true h.1.2
  have h2 := of_decide_eq_true h.2
  omega
theorem toL_bitT (R S : Int) (bs : List Bool) (k : Nat) (hk : k ≤ bs.length) : toL (bitT R S bs k) = (toL (lstT [R, S]) ++ [59]) ++ (bs.take k).map fun b => if b then 49 else 48 := by
  induction k with
  | zero =>
    have e : bitT R S bs 0 = lstT [R, S] ++ ⟨#[59]⟩ := rfl
    rw [e, toL_append]
    have e2 : toL ⟨#[59]⟩ = [59] := rfl
    rw [e2]; simp
  | succ k ih =>
    have hlt : k < bs.length := by omega
    rw [bitT, toL_append, ih (by omega), List.take_add_one, List.getElem?_eq_getElem hlt, List.map_append, List.append_assoc, List.append_assoc, List.append_assoc]
    congr 3
    simp only [Option.getD_some, Option.toList_some, List.map_cons, List.map_nil]
    cases bs[k] <;> rfl
theorem two_of {xs : List Int} (h : xs.length = 2) : xs = [at0 xs 0, at0 xs 1] := by
  match xs, h with
  | [x, y], _ => rfl
theorem map_bits (T : ByteArray) : ((bitsOf T).map fun b => if b then (49 : UInt8) else 48) = toL T ↔ is01 T = true := by
  have hlen : (bitsOf T).length = T.size := bitsK_len T T.size
  have hel : ∀ j (h : j < T.size), (bitsOf T)[j]'(by rw [hlen]; exact h) = ((byt T j : Int) == 49) := fun j h => by unfold bitsOf bitsK; simp
  constructor
  · intro h
    unfold is01
    rw [List.all_eq_true]
    intro j hj
    rw [List.mem_range] at hj
    have h1 : j < (toL T).length := by rw [toL_len]; exact hj
    have h2 : ((bitsOf T).map fun b => if b then (49 : UInt8) else 48)[j]? = (toL T)[j]? := by rw [h]
    rw [List.getElem?_map, List.getElem?_eq_getElem (by rw [hlen]; exact hj), List.getElem?_eq_getElem h1, hel j hj] at h2
    simp only [Option.map_some, Option.some.injEq] at h2
    have h3 := byt_toL h1
    rw [← h2] at h3
    rw [decide_eq_true_eq]
    split at h3
    · exact .inr h3
    · exact .inl h3
  · intro h
    unfold is01 at h
    rw [List.all_eq_true] at h
    refine List.ext_getElem (by rw [List.length_map, hlen, toL_len]) fun j h1 h2 => ?_
    have hj : j < T.size := by rw [toL_len] at h2; exact h2
    rw [List.getElem_map, hel j hj]
    have h3 := h j (List.mem_range.2 hj)
    rw [decide_eq_true_eq, byt_toL h2] at h3
    rw [byt_toL h2]
    generalize (toL T)[j]'h2 = u at h3 ⊢
    apply UInt8.toNat_inj.1
    rcases h3 with h3 | h3
    · have : ((u.toNat : Int) == 49) = false := by rw [h3]; rfl
      rw [this, h3]; rfl
    · have : ((u.toNat : Int) == 49) = true := by rw [h3]; rfl
      rw [this, h3]; rfl
/-- Behind good numbers and a good sieve: the text is told again just where all letters are digits of bits. -/
theorem rs_text {t : ByteArray} (h1 : numsB (ctH 59 t) = true) (h2 : (numsL (ctH 59 t)).length = 2) (h3 : sieveB (at0 (numsL (ctH 59 t)) 0) (at0 (numsL (ctH 59 t)) 1) (ctT 59 t).size = true) :
    ctB 59 t = true ∧ (sieveT (at0 (numsL (ctH 59 t)) 0) (at0 (numsL (ctH 59 t)) 1) (bitsOf (ctT 59 t)) = t ↔ is01 (ctT 59 t) = true) := by
  have hb : ctB 59 t = true := by
    cases hb : ctB 59 t with
    | true => rfl
    | false =>
      rw [ctT_none hb] at h3
      have := (sieve_size h3).1
      exact absurd this (by show ¬ 1 ≤ 0; omega)
  refine ⟨hb, ?_⟩
  have hlen : (bitsOf (ctT 59 t)).length = (ctT 59 t).size := bitsK_len _ _
  have e : sieveT (at0 (numsL (ctH 59 t)) 0) (at0 (numsL (ctH 59 t)) 1) (bitsOf (ctT 59 t)) = bitT (at0 (numsL (ctH 59 t)) 0) (at0 (numsL (ctH 59 t)) 1) (bitsOf (ctT 59 t)) (bitsOf (ctT 59 t)).length := by
    unfold sieveT; rw [hlen, h3]; rfl
  have hx : toL (sieveT (at0 (numsL (ctH 59 t)) 0) (at0 (numsL (ctH 59 t)) 1) (bitsOf (ctT 59 t))) = (toL (ctH 59 t) ++ [59]) ++ (bitsOf (ctT 59 t)).map fun b => if b then 49 else 48 := by
    rw [e, toL_bitT _ _ _ _ (Nat.le_refl _), List.take_length, ← two_of h2, nums_round h1]
  rw [← map_bits]
  constructor
  · intro h
    rw [h, ct_app hb] at hx
    have hx2 : toL (ctH 59 t) ++ 59 :: toL (ctT 59 t) = toL (ctH 59 t) ++ 59 :: ((bitsOf (ctT 59 t)).map fun b => if b then 49 else 48) := by simpa using hx
    have := List.append_cancel_left hx2
    simp only [List.cons.injEq, true_and] at this
    exact this.symm
  · intro h
    apply toL_inj
    rw [hx, h, ct_app hb]; simp
theorem readSieve_len (s : ByteArray) : (rsL s).length ≤ 1048576 := by
  unfold rsL
  split
  · rename_i h
    unfold rsB rsOk at h
    simp only [Bool.and_eq_true] at h
    have := (sieve_size h.2).2
    unfold bitsOf
    rw [bitsK_len]; omega
  · simp

def RetSie (w : World) (R S : Int) (bs : List Bool) (b : Bool) (en : Ending) (w' : World) : Prop :=
  ∃ a c, en = .returned (.tuple #[.agg #[.int .i64 R, .int .i64 S, .slice a bs.length c], .bool b]) ∧ Own Value.bool 4 w' w.heap.size a c bs ∧ Below w.heap.size w w'
theorem retSie_no {w w' : World} (hb : Below w.heap.size w w') : RetSie w 0 0 [] false (.returned (.tuple #[.agg #[.int .i64 0, .int .i64 0, .slice none 0 0], .bool false])) w' :=
  ⟨none, 0, rfl, own_nil _ _ _ _, hb⟩

/-- A sieve that is made: in its box g, the bits in rows behind it. -/
structure SieBox (w0 : World) (g : Nat) (R S : Int) (w : World) (a : Option Addr) (c : Nat) (bs : List Bool) : Prop where
  blk : Blk w g #[.int .i64 R, .int .i64 S, .slice a bs.length c] 30
  own : Own Value.bool 4 w (g + 1) a c bs
  bel : Below w0.heap.size w0 w
  lo : w0.heap.size < g
  res : Blk w w0.heap.size #[.int .i64 0, .int .i64 0, .slice none 0 0] 30
theorem SieBox.push {w0 w w2 : World} {g : Nat} {R S : Int} {a a3 : Option Addr} {c c3 : Nat} {bs : List Bool} {x : Bool} (h : SieBox w0 g R S w a c bs) (hb : Below w.heap.size w w2) {w3 : World}
    (ho : Own Value.bool 4 w3 (g + 1) a3 c3 (bs ++ [x])) (hg : w2.grownBy w3 (a.map (·.block))) :
    w3.cell? ⟨g, 2, none⟩ = some (.slice a bs.length c) ∧ w3.frozen? ⟨g, 2, none⟩ = false ∧ SieBox w0 g R S (w3.setCell ⟨g, 2, none⟩ (.slice a3 (bs.length + 1) c3)) a3 c3 (bs ++ [x]) := by
  have hlt := h.blk.lt
  have hk1 : Blk w2 g _ _ := h.blk.below hb (Nat.le_refl _)
  have hne : some g ≠ a.map (·.block) := by
    cases ha : a with
    | none => simp
    | some p => have := h.own.blk p ha; simp; omega
  have hk2 : Blk w3 g _ _ := hk1.grown hg hne
  refine ⟨hk2.cell (i := 2) rfl, hk2.free 2, ?_, ?_, ?_, h.lo, ?_⟩
  · have := hk2.set 2 (.slice a3 (bs.length + 1) c3)
    have e : (bs ++ [x]).length = bs.length + 1 := by simp
    rw [e]
    exact this
  · exact ho.setFar _ _ (by show g < g + 1; omega)
  · have h1 : Below w0.heap.size w0 w2 := h.bel.trans (hb.mono h.bel.size)
    have hgb : Below w0.heap.size w2 w3 := (Below.refl w0.heap.size w2).grown hg h1.size (fun k hk => by
      cases ha : a with
      | none => rw [ha] at hk; simp at hk
      | some p => have := h.own.blk p ha; rw [ha] at hk; simp at hk; have := h.lo; omega)
    exact (h1.trans hgb).setCell (p := ⟨g, 2, none⟩) (by have := h.lo; show w0.heap.size ≤ g; omega) _
  · have hr1 : Blk w2 w0.heap.size _ _ := h.res.below hb (Nat.le_refl _)
    have hne2 : some w0.heap.size ≠ a.map (·.block) := by
      cases ha : a with
      | none => simp
      | some p => have := h.own.blk p ha; have := h.lo; simp; omega
    exact (hr1.grown hg hne2).far (p := ⟨g, 2, none⟩) (by have := h.lo; show g ≠ w0.heap.size; omega) _
theorem SieBox.below {w0 w w2 : World} {g : Nat} {R S : Int} {a : Option Addr} {c : Nat} {bs : List Bool} (h : SieBox w0 g R S w a c bs) (hb : Below w.heap.size w w2) : SieBox w0 g R S w2 a c bs :=
  ⟨h.blk.below hb (Nat.le_refl _), h.own.below hb (Nat.le_refl _), h.bel.trans (hb.mono h.bel.size), h.lo, h.res.below hb (Nat.le_refl _)⟩

set_option maxRecDepth 20000 in
set_option maxHeartbeats 8000000 in
theorem implReadSieve_any {t : ByteArray} {w : World} (hT : PTab w) (hE : ETab w) (hM : MLen w) (hs : t.size ≤ 1048576) :
    Calls Tryd.prog 13 #[.string t] w (RetSie w (rsR t) (rsS t) (rsL t) (rsB t)) := by
  have HB0 := Lib.hid ((Below.refl w.heap.size w).alloc (Nat.le_refl _) (.cells #[.int .i64 0, .int .i64 0, .slice none 0 0] 30))
  have HI0 : Hid (Blk (w.alloc (.cells #[.int .i64 0, .int .i64 0, .slice none 0 0] 30)) w.heap.size #[.int .i64 0, .int .i64 0, .slice none 0 0] 30) := Lib.hid (Blk.new _ _ _)
  have HT := Lib.hid hT
  have HE := Lib.hid hE
  have HM := Lib.hid hM
  have HSH : Hid ((ctH 59 t).size ≤ 1048576) := Lib.hid (Nat.le_trans (ctH_size 59 t) hs)
  have hst : (ctT 59 t).size ≤ 1048576 := Nat.le_trans (ctT_size 59 t) hs
  obtain ⟨rb, hrb⟩ : ∃ b, rsB t = b := ⟨_, rfl⟩
  obtain ⟨rr, hrr⟩ : ∃ v, rsR t = v := ⟨_, rfl⟩
  obtain ⟨rs, hrs⟩ : ∃ v, rsS t = v := ⟨_, rfl⟩
  obtain ⟨rl, hrl⟩ : ∃ v, rsL t = v := ⟨_, rfl⟩
  have HNO : Hid (rsB t = false → rb = false ∧ rr = 0 ∧ rs = 0 ∧ rl = []) := Lib.hid (fun h => ⟨hrb ▸ h, hrr ▸ (rs_no h).1, hrs ▸ (rs_no h).2.1, hrl ▸ (rs_no h).2.2⟩)
  have HYES : Hid (rsB t = true → rb = true ∧ rr = at0 (numsL (ctH 59 t)) 0 ∧ rs = at0 (numsL (ctH 59 t)) 1 ∧ rl = bitsOf (ctT 59 t)) := Lib.hid (fun h => ⟨hrb ▸ h, hrr ▸ (rs_yes h).1, hrs ▸ (rs_yes h).2.1, hrl ▸ (rs_yes h).2.2⟩)
  have HDEF : Hid (rsB t = (ctB 59 t && numsB (ctH 59 t) && decide ((numsL (ctH 59 t)).length = 2) && is01 (ctT 59 t) && sieveB (at0 (numsL (ctH 59 t)) 0) (at0 (numsL (ctH 59 t)) 1) (ctT 59 t).size)) := Lib.hid rfl
  have HTX := Lib.hid (fun h1 h2 h3 => rs_text (t := t) h1 h2 h3)
  have HCU := Lib.hid (cutS_any (s := t) 59 (HM.out.below HB0.out (Nat.le_refl _)) hs)
  have HNR : Hid (numsB (ctH 59 t) = true → numsR (ctH 59 t) = numsL (ctH 59 t)) := Lib.hid (fun h => by unfold numsR; rw [h]; rfl)
  have HRL := Lib.hid (fun (w' : World) h1 h2 h3 => implReadList_any (s := ctH 59 t) (w := w') h1 h2 h3 HSH.out)
  rw [hrb, hrr, hrs, hrl]
  clear hrb hrr hrs hrl hT hE hM HSH
  generalize numsR (ctH 59 t) = xr at HNR HRL
  generalize numsL (ctH 59 t) = xs at HNR HYES HDEF HTX
  generalize numsB (ctH 59 t) = nb at HNR HRL HDEF HTX
  generalize ctH 59 t = H at HCU HRL
  generalize ctT 59 t = T at hst HYES HDEF HTX HCU
  generalize ctB 59 t = F at HDEF HTX HCU
  generalize rsB t = ok at HNO HYES HDEF
  go_enter Tryd.func13, Tryd.ntmps13
  go_wp2_with fail
  refine HCU.out.mono ?_
  rintro e w1 ⟨rfl, hb1⟩
  have HB1 := Lib.hid (HB0.out.trans (hb1.mono HB0.out.size))
  have HI1 := Lib.hid (HI0.out.below hb1 (Nat.le_refl _))
  clear hb1 HCU HB0 HI0
  go_wp2_with fail
  refine (HRL.out _ (HT.out.below HB1.out (Nat.le_refl _)) (HE.out.below HB1.out (Nat.le_refl _)) (HM.out.below HB1.out (Nat.le_refl _))).mono ?_
  rintro e w2 ⟨a, c, rfl, ho, hb2⟩
  have HB2 := Lib.hid (HB1.out.trans (hb2.mono HB1.out.size))
  have HI2 := Lib.hid (HI1.out.below hb2 (Nat.le_refl _))
  have HO2 := Lib.hid ho
  clear hb2 HB1 HI1 ho HRL
  by_cases hgood : nb = true ∧ xs.length = 2 ∧ T.size ≤ 512
  · obtain ⟨rfl, hl2, hl5⟩ := hgood
    obtain rfl := HNR.out rfl
    have h2 := two_of hl2
    obtain ⟨R, hR⟩ : ∃ R, at0 xr 0 = R := ⟨_, rfl⟩
    obtain ⟨S, hS⟩ : ∃ S, at0 xr 1 = S := ⟨_, rfl⟩
    have HTX2 := Lib.hid (fun h3 => HTX.out rfl hl2 h3)
    have HDEF2 : Hid (ok = (F && is01 T && sieveB R S T.size)) := Lib.hid (by rw [HDEF.out, decide_eq_true hl2, hR, hS]; simp)
    have HYES2 : Hid (ok = true → rb = true ∧ rr = R ∧ rs = S ∧ rl = bitsOf T) := Lib.hid (by rw [← hR, ← hS]; exact HYES.out)
    rw [hR, hS] at h2 HTX2
    subst h2
    have hcap := HO2.out.rd
    have hix := hcap.idx und_is siz_is
    have hc0 := hcap.cell 0 (by simp)
    have hc1 := hcap.cell 1 (by simp)
    simp only [List.getElem?_cons_zero, List.getElem?_cons_succ, Option.getD_some] at hc0 hc1
    simp only [List.length_cons, List.length_nil, Nat.zero_add, Nat.reduceAdd] at hix ⊢
    have hi0 : ∀ w' : World, (Instr.indexAt 35 (.slice a 2 c) (.int .i64 0)).run Tryd.prog w' = .ok (.pointer (some (elt a 0))) w' := fun w' => hix w' 0 (by omega)
    have hi1 : ∀ w' : World, (Instr.indexAt 35 (.slice a 2 c) (.int .i64 1)).run Tryd.prog w' = .ok (.pointer (some (elt a 1))) w' := fun w' => hix w' 1 (by omega)
    have hd5 : decide ((512 : Int) < (T.size : Int)) = false := decide_eq_false (by omega)
    have hz2 := HB2.out.size
    have hbx : SieBox w w2.heap.size R S (w2.alloc (.cells #[.int .i64 R, .int .i64 S, .slice none 0 0] 30)) none 0 (bitsK T 0) :=
      ⟨Blk.new w2 _ _, own_nil _ _ _ _, HB2.out.alloc HB2.out.size _, HI2.out.lt, HI2.out.alloc _⟩
    have HBX := Lib.hid hbx
    clear hcap hix hl2 HTX HDEF HYES HNR hR hS hbx HI2 HB2 HO2
    go_wp2_with fail
    go_region_held3 (fun w' => w'.cell? (elt a 0) = some (.int .i64 R) ∧ w'.cell? (elt a 1) = some (.int .i64 S)) ((refine ⟨?_, ?_⟩ <;> (repeat (first | assumption | refine k_drew ?_ | refine k_alloc ?_ | refine k_set (by simp; omega) ?_)))) (fail)
    replace HBX := Lib.hid (HBX.out.below (below_of_drewN (w2.alloc (.cells #[.int .i64 R, .int .i64 S, .slice none 0 0] 30)) 1 _))
    obtain ⟨w3, hw3⟩ : ∃ w3, w3 = (w2.alloc (.cells #[.int .i64 R, .int .i64 S, .slice none 0 0] 30)).drew := ⟨_, rfl⟩
    have HBX : Hid (SieBox w w2.heap.size R S w3 none 0 (bitsK T 0)) := Lib.hid (by rw [hw3]; exact HBX.out)
    go_wp2_with fail
    rw [← hw3]
    clear hw3
    obtain ⟨B, hB⟩ : ∃ B, w2.heap.size = B := ⟨_, rfl⟩
    rw [hB] at HBX ⊢
    clear hB hi0 hi1 hc0 hc1 hz2
    go_loopw [10, 46] (fun _ vi wr => ∃ (k : Nat) (a : Option Addr) (c : Nat), vi = .int .i64 k ∧ k ≤ T.size ∧ Hid (SieBox w B R S wr a c (bitsK T k))) (fun _ vi _ => T.size - (intOf vi).toNat)
    case atStart => exact ⟨0, _, _, rfl, Nat.zero_le _, HBX⟩
    case round =>
      clear HBX
      obtain ⟨k, a, c, rfl, hk, HBX⟩ := hrel
      have hbl : (bitsK T k).length ≤ 1048576 := by rw [bitsK_len]; omega
      by_cases hlt : k < T.size
      · have hltz : (k : Int) < (T.size : Int) := by omega
        have hbe := byt_eq hlt
        have ewk : IntKind.i64.wrap ((k : Int) + 1) = (k : Int) + 1 := IntWalk.i64_in _ (by omega)
        have HS1 := Lib.hid (bitsK_succ T k)
        obtain ⟨y, hy⟩ : ∃ y, byt T k = y := ⟨_, rfl⟩
        rw [hy] at hbe HS1
        obtain ⟨x, hx⟩ : ∃ x, ((y : Int) == 49) = x := ⟨_, rfl⟩
        rw [hx] at HS1
        generalize bitsK T k = bs at hbl HBX HS1
        have o2 := HBX.out.blk.cell (i := 2) (v := .slice a bs.length c) rfl
        have of2 := HBX.out.blk.free 2
        have hg1 := HBX.out.blk.lt
        have hg0 := HBX.out.lo
        have n1 : wr.heap.size ≠ B := by omega
        clear hy
        go_wp2_with fail
        go_region_law (first | (refine step_append1w (f := Value.bool) (d := false) (base := B + 1) und_bse info_b (fun _ => rfl) x ((HBX.out.own.alloc _).drew) rfl _ _ rfl wr.heap.size rfl rfl (heap_alloc_new wr _) (by omega) (by omega) (by simp; omega) ?_; intro a3 c3 w3 ho3 hg3 hl3; have O3 := HBX.out.push (((Below.refl _ _).alloc (Nat.le_refl _) _).trans (below_of_drewN _ 1 _)) ho3 hg3; have o3c := O3.1; have o3f := O3.2.1; have HO3 := Lib.hid O3.2.2; clear O3 ho3 hg3 hl3))
        all_goals
          go_wp2
          go_roundw
          case rel => exact ⟨k + 1, a3, c3, by go_num, by omega, by rw [HS1.out]; exact HO3⟩
          case measure => simp [intOf]; omega
      · obtain rfl : k = T.size := by omega
        have hltz : ¬ (T.size : Int) < (T.size : Int) := by omega
        have hbo : bitsK T T.size = bitsOf T := rfl
        rw [hbo] at hbl HBX
        have hsl : (bitsOf T).length = T.size := bitsK_len _ _
        have c0 := HBX.out.blk.cell (i := 0) (v := .int .i64 R) rfl
        have c1 := HBX.out.blk.cell (i := 1) (v := .int .i64 S) rfl
        have c2 := HBX.out.blk.cell (i := 2) (v := .slice a (bitsOf T).length c) rfl
        have HST := Lib.hid (sieveText_any (R := R) (S := S) (HT.out.below HBX.out.bel (Nat.le_refl _)) HBX.out.own.rd)
        rw [hsl] at HST c2
        clear hbl hbo hsl
        go_wp2_with fail
        refine HST.out.mono ?_
        rintro e w5 ⟨rfl, hb5⟩
        have HB5 := Lib.hid (HBX.out.below hb5)
        clear hb5 HBX HST c0 c1 c2
        have r0 := HB5.out.res.cell (i := 0) (v := .int .i64 0) rfl
        have r1 := HB5.out.res.cell (i := 1) (v := .int .i64 0) rfl
        have r2 := HB5.out.res.cell (i := 2) (v := .slice none 0 0) rfl
        have q0 := HB5.out.res.free 0
        have q1 := HB5.out.res.free 1
        have q2 := HB5.out.res.free 2
        have c0 := HB5.out.blk.cell (i := 0) (v := .int .i64 R) rfl
        have c1 := HB5.out.blk.cell (i := 1) (v := .int .i64 S) rfl
        have c2 := HB5.out.blk.cell (i := 2) (v := .slice a (bitsOf T).length c) rfl
        have hsl : (bitsOf T).length = T.size := bitsK_len _ _
        rw [hsl] at c2
        cases h3 : sieveB R S T.size with
        | false =>
          obtain ⟨rfl, rfl, rfl, rfl⟩ := HNO.out (by rw [HDEF2.out, h3]; simp)
          generalize sieveT R S (bitsOf T) = tx
          go_wp2
          refine bodyPost_ret (v := .tuple #[.agg #[.int .i64 0, .int .i64 0, .slice none 0 0], .bool false]) (by simp [results, Tryd.results13, go_sem, r0, r1, r2]) rfl (retSie_no (((HB5.out.bel.setCell (by simp) _).setCell (by simp) _).setCell (by simp) _))
        | true =>
          obtain ⟨hF, hiff⟩ := HTX2.out h3
          have hbq := tl_beq (sieveT R S (bitsOf T)) t
          by_cases hte : sieveT R S (bitsOf T) = t
          · have h01 := hiff.1 hte
            obtain ⟨rfl, h4, h5, h6⟩ := HYES2.out (by rw [HDEF2.out, hF, h01, h3]; rfl)
            rw [decide_eq_true hte] at hbq
            have hbq3 : ((sieveT R S (bitsOf T)).toList != t.toList) = false := by show (!((sieveT R S (bitsOf T)).toList == t.toList)) = false; rw [hbq]; rfl
            have HL : Hid (rl.length = T.size) := Lib.hid (by rw [h6]; exact hsl)
            have HO := Lib.hid HB5.out.own
            rw [← h6] at HO
            subst h4; subst h5
            generalize sieveT rr rs (bitsOf T) = tx at hbq hbq3 ⊢
            clear hte h01 hiff h6 hsl HTX2 HDEF2 HYES2 HNO h3
            go_wp2
            refine bodyPost_ret (v := .tuple #[.agg #[.int .i64 rr, .int .i64 rs, .slice a T.size c], .bool true]) (by simp [results, Tryd.results13, go_sem, r0, r1, r2]) rfl ⟨a, c, by rw [HL.out], ?_, ((HB5.out.bel.setCell (by simp) _).setCell (by simp) _).setCell (by simp) _⟩
            have hlo := HB5.out.lo
            refine Own.mono (base := B + 1) ?_ (by omega)
            refine Own.setFar (Own.setFar (Own.setFar HO.out _ _ ?_) _ _ ?_) _ _ ?_
            all_goals (show w.heap.size < B + 1; omega)
          · have h01 : is01 T = false := by
              cases h : is01 T with
              | false => rfl
              | true => exact absurd (hiff.2 h) hte
            obtain ⟨rfl, rfl, rfl, rfl⟩ := HNO.out (by rw [HDEF2.out, h01]; simp)
            rw [decide_eq_false hte] at hbq
            have hbq3 : ((sieveT R S (bitsOf T)).toList != t.toList) = true := by show (!((sieveT R S (bitsOf T)).toList == t.toList)) = true; rw [hbq]; rfl
            generalize sieveT R S (bitsOf T) = tx at hbq hbq3 ⊢
            clear hte hiff
            go_wp2
            refine bodyPost_ret (v := .tuple #[.agg #[.int .i64 0, .int .i64 0, .slice none 0 0], .bool false]) (by simp [results, Tryd.results13, go_sem, r0, r1, r2]) rfl (retSie_no (((HB5.out.bel.setCell (by simp) _).setCell (by simp) _).setCell (by simp) _))
  · have hok : ok = false := by
      rw [HDEF.out]
      cases hnb : nb with
      | false => simp
      | true =>
        by_cases hl : xs.length = 2
        · have h5 : ¬ T.size ≤ 512 := fun h => hgood ⟨hnb, hl, h⟩
          cases h3 : sieveB (at0 xs 0) (at0 xs 1) T.size with
          | false => simp
          | true => exact absurd (sieve_size h3).2 h5
        · rw [decide_eq_false hl]; simp
    obtain ⟨rfl, rfl, rfl, rfl⟩ := HNO.out hok
    have r0 := HI2.out.cell (i := 0) (v := .int .i64 0) rfl
    have r1 := HI2.out.cell (i := 1) (v := .int .i64 0) rfl
    have r2 := HI2.out.cell (i := 2) (v := .slice none 0 0) rfl
    have q0 := HI2.out.free 0
    have q1 := HI2.out.free 1
    have q2 := HI2.out.free 2
    cases hnb : nb with
    | false =>
      clear hgood hok HTX HDEF HYES HNR
      go_wp2
      refine bodyPost_ret (v := .tuple #[.agg #[.int .i64 0, .int .i64 0, .slice none 0 0], .bool false]) (by simp [results, Tryd.results13, go_sem, r0, r1, r2]) rfl (retSie_no (((HB2.out.setCell (by simp) _).setCell (by simp) _).setCell (by simp) _))
    | true =>
    rw [hnb] at HNR
    obtain rfl := HNR.out rfl
    by_cases hl : xr.length = 2
    · have h5 : ¬ T.size ≤ 512 := fun h => hgood ⟨hnb, hl, h⟩
      have hd5 : decide ((512 : Int) < (T.size : Int)) = true := decide_eq_true (by omega)
      have hln : ((xr.length : Int) == 2) = true := by rw [hl]; rfl
      have hln2 : ((xr.length : Int) != 2) = false := by rw [hl]; rfl
      clear hgood hok HTX HDEF HYES HNR hl
      go_wp2
      refine bodyPost_ret (v := .tuple #[.agg #[.int .i64 0, .int .i64 0, .slice none 0 0], .bool false]) (by simp [results, Tryd.results13, go_sem, r0, r1, r2]) rfl (retSie_no (((HB2.out.setCell (by simp) _).setCell (by simp) _).setCell (by simp) _))
    · have hln : ((xr.length : Int) == 2) = false := beq_eq_false_iff_ne.2 (by omega)
      have hln2 : ((xr.length : Int) != 2) = true := by show (!((xr.length : Int) == 2)) = true; rw [hln]; rfl
      clear hgood hok HTX HDEF HYES HNR
      go_wp2
      refine bodyPost_ret (v := .tuple #[.agg #[.int .i64 0, .int .i64 0, .slice none 0 0], .bool false]) (by simp [results, Tryd.results13, go_sem, r0, r1, r2]) rfl (retSie_no (((HB2.out.setCell (by simp) _).setCell (by simp) _).setCell (by simp) _))

end Go.Proofs.YtmmpemfhbnkomaaDoor

namespace Go.Proofs.YtmmpemfhbnkomaaDoor
open Go.RowKit
attribute [local go_sem ↓] Go.wp_at_zero Go.wp_at_succ

theorem is01_semi {T : ByteArray} (h : is01 T = true) : ∀ b ∈ toL T, b ≠ 59 := by
  intro b hb e
  subst e
  obtain ⟨j, hj, e⟩ := List.mem_iff_getElem.1 hb
  unfold is01 at h
  rw [List.all_eq_true] at h
  have h2 := h j (List.mem_range.2 (by rw [toL_len] at hj; exact hj))
  rw [decide_eq_true_eq, byt_toL hj, e] at h2
  exact absurd h2 (by decide)
theorem is01_no {T : ByteArray} {k : Nat} (hk : k < T.size) (h0 : byt T k ≠ 48) (h1 : byt T k ≠ 49) : is01 T = false := by
  unfold is01
  rw [List.all_eq_false]
  exact ⟨k, List.mem_range.2 hk, by simp [h0, h1]⟩
theorem is01_yes {T : ByteArray} (h : ∀ j, j < T.size → byt T j = 48 ∨ byt T j = 49) : is01 T = true := by
  unfold is01
  rw [List.all_eq_true]
  intro j hj
  exact decide_eq_true (h j (List.mem_range.1 hj))
theorem SieBox.other {w0 w w2 w3 : World} {g : Nat} {R S : Int} {a : Option Addr} {c : Nat} {bs : List Bool} (h : SieBox w0 g R S w a c bs) (hb : Below w.heap.size w w2) (hg : w2.grownBy w3 (a.map (·.block))) (v : Value)
    {pb : Nat} {pa : Option Addr} {pc : Nat} {P : List ByteArray} (hP : Own Value.string 9 w pb pa pc P) (hk : ∀ p, pa = some p → p.block < g) : Own Value.string 9 (w3.setCell ⟨g, 2, none⟩ v) pb pa pc P := by
  have h1 := hP.below hb (Nat.le_refl _)
  have h2 := h1.keptS hg (sep_of_type h1 (h.own.below hb (Nat.le_refl _)) (by decide))
  exact h2.kept (grown_setCell w3 ⟨g, 2, none⟩ v) (by
    intro q hq p hp
    have := hk p hp
    simp at hq
    omega)

set_option maxRecDepth 20000 in
set_option maxHeartbeats 8000000 in
theorem specReadSieve_any {t : ByteArray} {w : World} (hs : t.size ≤ 1048576) :
    Calls Tryd.prog 30 #[.string t] w (RetSie w (rsR t) (rsS t) (rsL t) (rsB t)) := by
  have HB0 := Lib.hid ((Below.refl w.heap.size w).alloc (Nat.le_refl _) (.cells #[.int .i64 0, .int .i64 0, .slice none 0 0] 30))
  have HI0 : Hid (Blk (w.alloc (.cells #[.int .i64 0, .int .i64 0, .slice none 0 0] 30)) w.heap.size #[.int .i64 0, .int .i64 0, .slice none 0 0] 30) := Lib.hid (Blk.new _ _ _)
  have HSH : Hid ((ctH 59 t).size ≤ 1048576) := Lib.hid (Nat.le_trans (ctH_size 59 t) hs)
  have hst : (ctT 59 t).size ≤ 1048576 := Nat.le_trans (ctT_size 59 t) hs
  obtain ⟨rb, hrb⟩ : ∃ b, rsB t = b := ⟨_, rfl⟩
  obtain ⟨rr, hrr⟩ : ∃ v, rsR t = v := ⟨_, rfl⟩
  obtain ⟨rs, hrs⟩ : ∃ v, rsS t = v := ⟨_, rfl⟩
  obtain ⟨rl, hrl⟩ : ∃ v, rsL t = v := ⟨_, rfl⟩
  have HNO : Hid (rsB t = false → rb = false ∧ rr = 0 ∧ rs = 0 ∧ rl = []) := Lib.hid (fun h => ⟨hrb ▸ h, hrr ▸ (rs_no h).1, hrs ▸ (rs_no h).2.1, hrl ▸ (rs_no h).2.2⟩)
  have HYES : Hid (rsB t = true → rb = true ∧ rr = at0 (numsL (ctH 59 t)) 0 ∧ rs = at0 (numsL (ctH 59 t)) 1 ∧ rl = bitsOf (ctT 59 t)) := Lib.hid (fun h => ⟨hrb ▸ h, hrr ▸ (rs_yes h).1, hrs ▸ (rs_yes h).2.1, hrl ▸ (rs_yes h).2.2⟩)
  have HDEF : Hid (rsB t = (ctB 59 t && numsB (ctH 59 t) && decide ((numsL (ctH 59 t)).length = 2) && is01 (ctT 59 t) && sieveB (at0 (numsL (ctH 59 t)) 0) (at0 (numsL (ctH 59 t)) 1) (ctT 59 t).size)) := Lib.hid rfl
  have HP2 := Lib.hid (parts_two (t := t) (m := 59))
  have hpl := parts_len t 59
  have HCU := Lib.hid (l01Cut_any (s := t) (m := 59) (mi := 59) (w := w.alloc (.cells #[.int .i64 0, .int .i64 0, .slice none 0 0] 30)) hs rfl)
  have HNR : Hid (numsB (ctH 59 t) = true → numsR (ctH 59 t) = numsL (ctH 59 t)) := Lib.hid (fun h => by unfold numsR; rw [h]; rfl)
  have HRL := Lib.hid (fun (w' : World) => l01Numbers_any (s := ctH 59 t) (w := w') HSH.out)
  rw [hrb, hrr, hrs, hrl]
  clear hrb hrr hrs hrl HSH
  generalize numsR (ctH 59 t) = xr at HNR HRL
  generalize numsL (ctH 59 t) = xs at HNR HYES HDEF
  generalize numsB (ctH 59 t) = nb at HNR HRL HDEF
  generalize ctH 59 t = H at HP2 HRL
  generalize ctT 59 t = T at hst HYES HDEF HP2
  generalize ctB 59 t = F at HDEF HP2
  generalize rsB t = ok at HNO HYES HDEF
  generalize parts t 59 = P at HP2 hpl HCU
  go_enter Tryd.func30, Tryd.ntmps30
  go_wp2_with fail
  refine HCU.out.mono ?_
  rintro e w1 ⟨pa, pc, rfl, hpo, hb1⟩
  have HB1 := Lib.hid (HB0.out.trans (hb1.mono HB0.out.size))
  have HI1 := Lib.hid (HI0.out.below hb1 (Nat.le_refl _))
  have HPO := Lib.hid hpo
  have hix := hpo.rd.idx und_ss siz_ss
  clear hb1 HCU HB0 HI0 hpo
  by_cases hl : P.length = 2
  · obtain ⟨hF, hP⟩ := HP2.out.1 hl
    subst hP
    have hc0 := HPO.out.rd.cell 0 (by simp)
    simp only [List.getElem?_cons_zero, List.getElem?_cons_succ, Option.getD_some] at hc0
    simp only [List.length_cons, List.length_nil, Nat.zero_add, Nat.reduceAdd] at hix ⊢
    have hi0 : ∀ w' : World, (Instr.indexAt 22 (.slice pa 2 pc) (.int .i64 0)).run Tryd.prog w' = .ok (.pointer (some (elt pa 0))) w' := fun w' => hix w' 0 (by omega)
    have HI1' : Hid (∀ w' : World, (Instr.indexAt 22 (.slice pa 2 pc) (.int .i64 1)).run Tryd.prog w' = .ok (.pointer (some (elt pa 1))) w') := Lib.hid (fun w' => hix w' 1 (by omega))
    have HPB := Lib.hid (fun p hp => (HPO.out.blk p hp).2)
    clear hl hpl hix
    go_wp2_with fail
    refine (HRL.out _).mono ?_
    rintro e w2 ⟨a, c, rfl, ho, hb2⟩
    have hz12 := hb2.size
    have HB2 := Lib.hid (HB1.out.trans (hb2.mono HB1.out.size))
    have HI2 := Lib.hid (HI1.out.below hb2 (Nat.le_refl _))
    have HO2 := Lib.hid ho
    have HPO2 := Lib.hid (HPO.out.below hb2 (Nat.le_refl _))
    clear hb2 HB1 HI1 ho HRL HPO hc0
    by_cases hgood : nb = true ∧ xs.length = 2
    · obtain ⟨rfl, hl2⟩ := hgood
      obtain rfl := HNR.out rfl
      have h2 := two_of hl2
      obtain ⟨R, hR⟩ : ∃ R, at0 xr 0 = R := ⟨_, rfl⟩
      obtain ⟨S, hS⟩ : ∃ S, at0 xr 1 = S := ⟨_, rfl⟩
      have HDEF2 : Hid (ok = (is01 T && sieveB R S T.size)) := Lib.hid (by rw [HDEF.out, decide_eq_true hl2, hR, hS, hF]; simp)
      have HYES2 : Hid (ok = true → rb = true ∧ rr = R ∧ rs = S ∧ rl = bitsOf T) := Lib.hid (by rw [← hR, ← hS]; exact HYES.out)
      rw [hR, hS] at h2
      subst h2
      have hcap := HO2.out.rd
      have hix := hcap.idx und_is siz_is
      have hc0 := hcap.cell 0 (by simp)
      have hc1 := hcap.cell 1 (by simp)
      simp only [List.getElem?_cons_zero, List.getElem?_cons_succ, Option.getD_some] at hc0 hc1
      simp only [List.length_cons, List.length_nil, Nat.zero_add, Nat.reduceAdd] at hix ⊢
      have hj0 : ∀ w' : World, (Instr.indexAt 35 (.slice a 2 c) (.int .i64 0)).run Tryd.prog w' = .ok (.pointer (some (elt a 0))) w' := fun w' => hix w' 0 (by omega)
      have hj1 : ∀ w' : World, (Instr.indexAt 35 (.slice a 2 c) (.int .i64 1)).run Tryd.prog w' = .ok (.pointer (some (elt a 1))) w' := fun w' => hix w' 1 (by omega)
      have hz2 := HB2.out.size
      have hbx : SieBox w w2.heap.size R S (w2.alloc (.cells #[.int .i64 R, .int .i64 S, .slice none 0 0] 30)) none 0 (bitsK T 0) :=
        ⟨Blk.new w2 _ _, own_nil _ _ _ _, HB2.out.alloc HB2.out.size _, HI2.out.lt, HI2.out.alloc _⟩
      have HBX := Lib.hid hbx
      have HPO3 := Lib.hid (HPO2.out.alloc (.cells #[.int .i64 R, .int .i64 S, .slice none 0 0] 30))
      have HPB2 : Hid (∀ p, pa = some p → p.block < w2.heap.size) := Lib.hid (fun p hp => Nat.lt_of_lt_of_le (HPB.out p hp) hz12)
      clear hcap hix hl2 HDEF HYES HNR hR hS hbx HI2 HB2 HO2 HPO2 HPB hi0
      go_wp2_with fail
      go_region_held3 (fun w' => w'.cell? (elt a 0) = some (.int .i64 R) ∧ w'.cell? (elt a 1) = some (.int .i64 S)) ((refine ⟨?_, ?_⟩ <;> (repeat (first | assumption | refine k_drew ?_ | refine k_alloc ?_ | refine k_set (by simp; omega) ?_)))) (fail)
      obtain ⟨w3, hw3⟩ : ∃ w3, w3 = (w2.alloc (.cells #[.int .i64 R, .int .i64 S, .slice none 0 0] 30)).drew := ⟨_, rfl⟩
      have HBX : Hid (SieBox w w2.heap.size R S w3 none 0 (bitsK T 0)) := Lib.hid (by rw [hw3]; exact HBX.out.below (below_of_drewN _ 1 _))
      have HPO3 : Hid (Own Value.string 9 w3 (w.alloc (.cells #[.int .i64 0, .int .i64 0, .slice none 0 0] 30)).heap.size pa pc [H, T]) := Lib.hid (by rw [hw3]; exact HPO3.out)
      go_wp2_with fail
      rw [← hw3]
      clear hw3
      obtain ⟨B, hB⟩ : ∃ B, w2.heap.size = B := ⟨_, rfl⟩
      rw [hB] at HBX HPB2 ⊢
      clear hB hj0 hj1 hc0 hc1 hz2 hz12
      go_loopw [8, 9] (fun vi _ wr => ∃ (k : Nat) (a : Option Addr) (c : Nat), vi = .int .i64 k ∧ k ≤ T.size ∧ Hid (SieBox w B R S wr a c (bitsK T k)) ∧ Hid (Own Value.string 9 wr (w.alloc (.cells #[.int .i64 0, .int .i64 0, .slice none 0 0] 30)).heap.size pa pc [H, T]) ∧ Hid (∀ j, j < k → byt T j = 48 ∨ byt T j = 49)) (fun vi _ _ => T.size - (intOf vi).toNat)
      case atStart => exact ⟨0, _, _, rfl, Nat.zero_le _, HBX, HPO3, Lib.hid (fun j hj => absurd hj (Nat.not_lt_zero _))⟩
      case round =>
        clear HBX HPO3
        obtain ⟨k, a, c, rfl, hk, HBX, HPO, HAL⟩ := hrel
        have hbl : (bitsK T k).length ≤ 1048576 := by rw [bitsK_len]; omega
        have hi1 := HI1'.out
        have hp1 := HPO.out.rd.cell 1 (by simp)
        simp only [List.getElem?_cons_zero, List.getElem?_cons_succ, Option.getD_some] at hp1
        by_cases hlt : k < T.size
        · have hltz : (k : Int) < (T.size : Int) := by omega
          have hbe := byt_eq hlt
          have hbt := byt_lt T k
          have ewk : IntKind.i64.wrap ((k : Int) + 1) = (k : Int) + 1 := IntWalk.i64_in _ (by omega)
          have HS1 := Lib.hid (bitsK_succ T k)
          have HNO1 := Lib.hid (fun h0 h1 => is01_no (T := T) (k := k) hlt h0 h1)
          have HAL1 : Hid ((byt T k = 48 ∨ byt T k = 49) → ∀ j, j < k + 1 → byt T j = 48 ∨ byt T j = 49) := Lib.hid (fun h j hj => by
            rcases Nat.lt_or_ge j k with h2 | h2
            · exact HAL.out j h2
            · rw [show j = k by omega]; exact h)
          obtain ⟨y, hy⟩ : ∃ y, byt T k = y := ⟨_, rfl⟩
          rw [hy] at hbe HS1 HNO1 HAL1 hbt
          obtain ⟨x, hx⟩ : ∃ x, ((y : Int) == 49) = x := ⟨_, rfl⟩
          rw [hx] at HS1
          generalize bitsK T k = bs at hbl HBX HS1
          have o2 := HBX.out.blk.cell (i := 2) (v := .slice a bs.length c) rfl
          have of2 := HBX.out.blk.free 2
          have hg1 := HBX.out.blk.lt
          have hg0 := HBX.out.lo
          have n1 : wr.heap.size ≠ B := by omega
          clear hy
          by_cases hbit : y = 48 ∨ y = 49
          · have HAL2 := Lib.hid (HAL1.out hbit)
            have key : ∀ h48 : Bool, ((y : Int) == 48) = h48 → ((y : Int) != 48) = !h48 := by intro h48 h; show (!((y : Int) == 48)) = !h48; rw [h]
            rcases hbit with h48 | h49
            · have e48 : ((y : Int) != 48) = false := by rw [h48]; rfl
              have e48b : ((y : Int) == 48) = true := by rw [h48]; rfl
              clear key h48
              go_wp2_with (at_builtin; refine wpl_append1 (f := Value.bool) (d := false) (base := B + 1) und_bse info_b (fun _ => rfl) x HBX.out.own rfl _ _ rfl rfl rfl (by omega) (by omega) (by omega) ?_; intro a3 c3 w3 ho3 hg3; have O3 := HBX.out.push (Below.refl _ _) ho3 hg3; have o3c := O3.1; have o3f := O3.2.1; have HO3 := Lib.hid O3.2.2; have HP3 := Lib.hid (HBX.out.other (Below.refl _ _) hg3 (.slice a3 (bs.length + 1) c3) HPO.out HPB2.out); clear O3 ho3 hg3)
              go_roundw
              case rel => exact ⟨k + 1, a3, c3, by go_num, by omega, by rw [HS1.out]; exact HO3, HP3, HAL2⟩
              case measure => simp [intOf]; omega
            · have e48 : ((y : Int) != 48) = true := by rw [h49]; rfl
              have e48b : ((y : Int) == 48) = false := by rw [h49]; rfl
              have e49 : ((y : Int) != 49) = false := by rw [h49]; rfl
              have e49b : ((y : Int) == 49) = true := by rw [h49]; rfl
              have hxt : x = true := by rw [← hx, h49]; rfl
              subst hxt
              clear key h49 hx
              go_wp2_with (at_builtin; refine wpl_append1 (f := Value.bool) (d := false) (base := B + 1) und_bse info_b (fun _ => rfl) true HBX.out.own rfl _ _ rfl rfl rfl (by omega) (by omega) (by omega) ?_; intro a3 c3 w3 ho3 hg3; have O3 := HBX.out.push (Below.refl _ _) ho3 hg3; have o3c := O3.1; have o3f := O3.2.1; have HO3 := Lib.hid O3.2.2; have HP3 := Lib.hid (HBX.out.other (Below.refl _ _) hg3 (.slice a3 (bs.length + 1) c3) HPO.out HPB2.out); clear O3 ho3 hg3)
              go_roundw
              case rel => exact ⟨k + 1, a3, c3, by go_num, by omega, by rw [HS1.out]; exact HO3, HP3, HAL2⟩
              case measure => simp [intOf]; omega
          · have h48 : y ≠ 48 := fun h => hbit (.inl h)
            have h49 : y ≠ 49 := fun h => hbit (.inr h)
            obtain ⟨rfl, rfl, rfl, rfl⟩ := HNO.out (by rw [HDEF2.out, HNO1.out h48 h49]; rfl)
            have e48b : ((y : Int) == 48) = false := beq_eq_false_iff_ne.2 (by omega)
            have e49b : ((y : Int) == 49) = false := beq_eq_false_iff_ne.2 (by omega)
            have e48 : ((y : Int) != 48) = true := by show (!((y : Int) == 48)) = true; rw [e48b]; rfl
            have e49 : ((y : Int) != 49) = true := by show (!((y : Int) == 49)) = true; rw [e49b]; rfl
            have r0 := HBX.out.res.cell (i := 0) (v := .int .i64 0) rfl
            have r1 := HBX.out.res.cell (i := 1) (v := .int .i64 0) rfl
            have r2 := HBX.out.res.cell (i := 2) (v := .slice none 0 0) rfl
            have q0 := HBX.out.res.free 0
            have q1 := HBX.out.res.free 1
            have q2 := HBX.out.res.free 2
            clear hbit h48 h49 hx
            go_wp2
            refine bodyPost_ret (v := .tuple #[.agg #[.int .i64 0, .int .i64 0, .slice none 0 0], .bool false]) (by simp [results, Tryd.results30, go_sem, r0, r1, r2]) rfl (retSie_no (((HBX.out.bel.setCell (by simp) _).setCell (by simp) _).setCell (by simp) _))
        · obtain rfl : k = T.size := by omega
          have hltz : ¬ (T.size : Int) < (T.size : Int) := by omega
          have hbo : bitsK T T.size = bitsOf T := rfl
          rw [hbo] at hbl HBX
          have hsl : (bitsOf T).length = T.size := bitsK_len _ _
          have h01 := is01_yes HAL.out
          have c0 := HBX.out.blk.cell (i := 0) (v := .int .i64 R) rfl
          have c1 := HBX.out.blk.cell (i := 1) (v := .int .i64 S) rfl
          have c2 := HBX.out.blk.cell (i := 2) (v := .slice a (bitsOf T).length c) rfl
          have HST := Lib.hid (l04Is_any HBX.out.own.rd (b := B) (o := 0) (R := R) (S := S) c0 c1 c2)
          rw [hsl] at HST c2
          have r0 := HBX.out.res.cell (i := 0) (v := .int .i64 0) rfl
          have r1 := HBX.out.res.cell (i := 1) (v := .int .i64 0) rfl
          have r2 := HBX.out.res.cell (i := 2) (v := .slice none 0 0) rfl
          have q0 := HBX.out.res.free 0
          have q1 := HBX.out.res.free 1
          have q2 := HBX.out.res.free 2
          clear hbl hbo
          cases h3 : sieveB R S T.size with
          | false =>
            rw [h3] at HST
            obtain ⟨rfl, rfl, rfl, rfl⟩ := HNO.out (by rw [HDEF2.out, h3]; simp)
            go_wp2_with fail
            refine HST.out.mono ?_
            rintro e w5 ⟨rfl, rfl⟩
            clear hsl
            go_wp2
            refine bodyPost_ret (v := .tuple #[.agg #[.int .i64 0, .int .i64 0, .slice none 0 0], .bool false]) (by simp [results, Tryd.results30, go_sem, r0, r1, r2]) rfl (retSie_no (((HBX.out.bel.setCell (by simp) _).setCell (by simp) _).setCell (by simp) _))
          | true =>
            rw [h3] at HST
            obtain ⟨rfl, h4, h5, h6⟩ := HYES2.out (by rw [HDEF2.out, h01, h3]; rfl)
            have HL : Hid (rl.length = T.size) := Lib.hid (by rw [h6]; exact hsl)
            have HO := Lib.hid HBX.out.own
            rw [← h6] at HO
            subst h4; subst h5
            go_wp2_with fail
            refine HST.out.mono ?_
            rintro e w5 ⟨rfl, rfl⟩
            clear h01 h6 hsl HDEF2 HYES2 HNO h3
            go_wp2
            refine bodyPost_ret (v := .tuple #[.agg #[.int .i64 rr, .int .i64 rs, .slice a T.size c], .bool true]) (by simp [results, Tryd.results30, go_sem, r0, r1, r2]) rfl ⟨a, c, by rw [HL.out], ?_, ((HBX.out.bel.setCell (by simp) _).setCell (by simp) _).setCell (by simp) _⟩
            have hlo := HBX.out.lo
            refine Own.mono (base := B + 1) ?_ (by omega)
            refine Own.setFar (Own.setFar (Own.setFar HO.out _ _ ?_) _ _ ?_) _ _ ?_
            all_goals (show w.heap.size < B + 1; omega)
    · have hok : ok = false := by
        rw [HDEF.out]
        cases hnb : nb with
        | false => simp
        | true =>
          have hl : ¬ xs.length = 2 := fun h => hgood ⟨hnb, h⟩
          rw [decide_eq_false hl]; simp
      obtain ⟨rfl, rfl, rfl, rfl⟩ := HNO.out hok
      have r0 := HI2.out.cell (i := 0) (v := .int .i64 0) rfl
      have r1 := HI2.out.cell (i := 1) (v := .int .i64 0) rfl
      have r2 := HI2.out.cell (i := 2) (v := .slice none 0 0) rfl
      have q0 := HI2.out.free 0
      have q1 := HI2.out.free 1
      have q2 := HI2.out.free 2
      cases hnb : nb with
      | false =>
        clear hgood hok HDEF HYES HNR
        go_wp2
        refine bodyPost_ret (v := .tuple #[.agg #[.int .i64 0, .int .i64 0, .slice none 0 0], .bool false]) (by simp [results, Tryd.results30, go_sem, r0, r1, r2]) rfl (retSie_no (((HB2.out.setCell (by simp) _).setCell (by simp) _).setCell (by simp) _))
      | true =>
      rw [hnb] at HNR
      obtain rfl := HNR.out rfl
      have hl : ¬ xr.length = 2 := fun h => hgood ⟨hnb, h⟩
      have hln : ((xr.length : Int) == 2) = false := beq_eq_false_iff_ne.2 (by omega)
      have hln2 : ((xr.length : Int) != 2) = true := by show (!((xr.length : Int) == 2)) = true; rw [hln]; rfl
      clear hgood hok HDEF HYES HNR
      go_wp2
      refine bodyPost_ret (v := .tuple #[.agg #[.int .i64 0, .int .i64 0, .slice none 0 0], .bool false]) (by simp [results, Tryd.results30, go_sem, r0, r1, r2]) rfl (retSie_no (((HB2.out.setCell (by simp) _).setCell (by simp) _).setCell (by simp) _))
  · have hok : ok = false := by
      rw [HDEF.out]
      cases hF : F with
      | false => simp
      | true =>
        cases h01 : is01 T with
        | false => simp
        | true => exact absurd (HP2.out.2 hF (is01_semi h01)) hl
    obtain ⟨rfl, rfl, rfl, rfl⟩ := HNO.out hok
    have r0 := HI1.out.cell (i := 0) (v := .int .i64 0) rfl
    have r1 := HI1.out.cell (i := 1) (v := .int .i64 0) rfl
    have r2 := HI1.out.cell (i := 2) (v := .slice none 0 0) rfl
    have q0 := HI1.out.free 0
    have q1 := HI1.out.free 1
    have q2 := HI1.out.free 2
    have hln : ((P.length : Int) == 2) = false := beq_eq_false_iff_ne.2 (by omega)
    have hln2 : ((P.length : Int) != 2) = true := by show (!((P.length : Int) == 2)) = true; rw [hln]; rfl
    clear hix
    go_wp2
    refine bodyPost_ret (v := .tuple #[.agg #[.int .i64 0, .int .i64 0, .slice none 0 0], .bool false]) (by simp [results, Tryd.results30, go_sem, r0, r1, r2]) rfl (retSie_no (((HB1.out.setCell (by simp) _).setCell (by simp) _).setCell (by simp) _))

set_option maxHeartbeats 1000000 in
theorem specRs_any {t : ByteArray} {w : World} (hs : t.size ≤ 1048576) :
    Calls Tryd.prog 12 #[.string t] w (RetSie w (rsR t) (rsS t) (rsL t) (rsB t)) := by
  have HB0 := Lib.hid ((Below.refl w.heap.size w).alloc (Nat.le_refl _) (.cells #[.int .i64 0, .int .i64 0, .slice none 0 0] 30))
  have HI0 : Hid (Blk (w.alloc (.cells #[.int .i64 0, .int .i64 0, .slice none 0 0] 30)) w.heap.size #[.int .i64 0, .int .i64 0, .slice none 0 0] 30) := Lib.hid (Blk.new _ _ _)
  have HC := Lib.hid (specReadSieve_any (t := t) (w := w.alloc (.cells #[.int .i64 0, .int .i64 0, .slice none 0 0] 30)) hs)
  generalize rsR t = R at HC ⊢
  generalize rsS t = S at HC ⊢
  generalize rsL t = bs at HC ⊢
  generalize rsB t = b at HC ⊢
  go_enter Tryd.func12, Tryd.ntmps12
  go_wp2_with fail
  refine HC.out.mono ?_
  rintro e w1 ⟨a, c, rfl, ho, hb1⟩
  have HB1 := Lib.hid (HB0.out.trans (hb1.mono HB0.out.size))
  have HI1 := HI0.out.below hb1 (Nat.le_refl _)
  have HO1 : Hid (Own Value.bool 4 w1 (w.heap.size + 1) a c bs) := Lib.hid (ho.mono (by simp))
  have r0 := HI1.cell (i := 0) (v := .int .i64 0) rfl
  have r1 := HI1.cell (i := 1) (v := .int .i64 0) rfl
  have r2 := HI1.cell (i := 2) (v := .slice none 0 0) rfl
  have q0 := HI1.free 0
  have q1 := HI1.free 1
  have q2 := HI1.free 2
  clear hb1 HB0 HI0 HI1 ho HC
  go_wp2
  refine bodyPost_ret (v := .tuple #[.agg #[.int .i64 R, .int .i64 S, .slice a bs.length c], .bool b]) (by simp [results, Tryd.results12, go_sem, r0, r1, r2]) rfl ⟨a, c, rfl, ?_, ((HB1.out.setCell (by simp) _).setCell (by simp) _).setCell (by simp) _⟩
  refine Own.mono (base := w.heap.size + 1) ?_ (by omega)
  refine Own.setFar (Own.setFar (Own.setFar HO1.out _ _ ?_) _ _ ?_) _ _ ?_
  all_goals simp

end Go.Proofs.YtmmpemfhbnkomaaDoor

namespace Go.Proofs.YtmmpemfhbnkomaaDoor
open Go.RowKit

/-- What the walk asks of the program's own variables. -/
def VarsR (w : World) : Prop := PTab w ∧ ETab w ∧ MLen w
theorem VarsR.below {w w' : World} (h : VarsR w) {B : Nat} (hb : Below B w w') (hB : w.heap.size ≤ B) : VarsR w' := ⟨h.1.below hb hB, h.2.1.below hb hB, h.2.2.below hb hB⟩

set_option maxRecDepth 100000 in
set_option maxHeartbeats 8000000 in
theorem lawReadSieve_walk {s : ByteArray} {w : World} (hV : VarsR w) :
    Calls Tryd.prog 4 #[.string s] w fun e w' => e = .returned (.bool true) ∧ Below w.heap.size w w' := by
  by_cases hs : s.size ≤ 1048576
  · have hd : decide ((1048576 : Int) < (s.size : Int)) = false := decide_eq_false (by omega)
    have hlen := readSieve_len s
    obtain ⟨R, hR⟩ : ∃ z, rsR s = z := ⟨_, rfl⟩
    obtain ⟨S, hS⟩ : ∃ z, rsS s = z := ⟨_, rfl⟩
    obtain ⟨Q0, hQ0⟩ : ∃ z, rsL s = z := ⟨_, rfl⟩
    obtain ⟨bb, hbb⟩ : ∃ z, rsB s = z := ⟨_, rfl⟩
    rw [hQ0] at hlen
    have HSP : Hid (∀ w : World, Calls Tryd.prog 12 #[.string s] w (RetSie w R S Q0 bb)) := by
      show ∀ w : World, _
      intro w
      have := specRs_any (t := s) (w := w) hs
      rwa [hR, hS, hQ0, hbb] at this
    have HIM : Hid (∀ w : World, VarsR w → Calls Tryd.prog 13 #[.string s] w (RetSie w R S Q0 bb)) := by
      show ∀ w : World, _
      intro w h
      have := implReadSieve_any (t := s) (w := w) h.1 h.2.1 h.2.2 hs
      rwa [hR, hS, hQ0, hbb] at this
    have HV : Hid (∀ w', Below w.heap.size w w' → VarsR w') := Lib.hid (fun w' hb => hV.below hb (Nat.le_refl _))
    clear hV hR hS hQ0 hbb
    have hnb : (bb ^^ bb) = false := by simp
    have hnb2 : (bb != bb) = false := by simp
    have b64 : Q0.length ≤ 1048576 := hlen
    clear hlen
    go_enter Tryd.func4, Tryd.ntmps4
    go_wp2_with fail
    refine (HSP.out _).mono ?_
    rintro e w1 ⟨aw0, cw0, rfl, o0, hb⟩
    have B := Lib.hid hb
    have z1 := hb.size
    clear hb
    have LW0 := Lib.hid o0.blk
    have W0 := Lib.hid o0
    clear o0
    replace B := Lib.hid (B.out.alloc B.out.size (.cells #[.int .i64 R, .int .i64 S, .slice aw0 Q0.length cw0] 30))
    replace W0 := Lib.hid (W0.out.alloc (.cells #[.int .i64 R, .int .i64 S, .slice aw0 Q0.length cw0] 30))
    have X := Lib.hid (Blk.new w1 #[.int .i64 R, .int .i64 S, .slice aw0 Q0.length cw0] 30)
    have z1' : w1.heap.size < (w1.alloc (.cells #[.int .i64 R, .int .i64 S, .slice aw0 Q0.length cw0] 30)).heap.size := by simp
    go_upto_region 4 with (fail)
    generalize w1.alloc (.cells #[.int .i64 R, .int .i64 S, .slice aw0 Q0.length cw0] 30) = w2 at X z1' B W0 ⊢
    go_wp2_with fail
    refine (HIM.out _ (HV.out _ B.out)).mono ?_
    rintro e w3 ⟨ag0, cg0, rfl, o0, hb⟩
    have z3 := hb.size
    replace B := Lib.hid (B.out.trans (hb.mono B.out.size))
    replace W0 := Lib.hid (W0.out.below hb (Nat.le_refl _))
    replace X := Lib.hid (X.out.below hb (Nat.le_refl _))
    clear hb
    have LG0 := Lib.hid o0.blk
    have G0 := Lib.hid o0
    clear o0
    replace B := Lib.hid (B.out.alloc B.out.size (.cells #[.int .i64 R, .int .i64 S, .slice ag0 Q0.length cg0] 30))
    replace W0 := Lib.hid (W0.out.alloc (.cells #[.int .i64 R, .int .i64 S, .slice ag0 Q0.length cg0] 30))
    replace X := Lib.hid (X.out.alloc (.cells #[.int .i64 R, .int .i64 S, .slice ag0 Q0.length cg0] 30))
    replace G0 := Lib.hid (G0.out.alloc (.cells #[.int .i64 R, .int .i64 S, .slice ag0 Q0.length cg0] 30))
    have Y := Lib.hid (Blk.new w3 #[.int .i64 R, .int .i64 S, .slice ag0 Q0.length cg0] 30)
    have z3' : w3.heap.size < (w3.alloc (.cells #[.int .i64 R, .int .i64 S, .slice ag0 Q0.length cg0] 30)).heap.size := by simp
    go_upto_region 5 with (fail)
    generalize w3.alloc (.cells #[.int .i64 R, .int .i64 S, .slice ag0 Q0.length cg0] 30) = w4 at Y z3' B W0 X G0 ⊢
    have y0 := Y.out.cell (i := 0) (v := .int .i64 R) rfl
    have y1 := Y.out.cell (i := 1) (v := .int .i64 S) rfl
    have y2 := Y.out.cell (i := 2) (v := .slice ag0 Q0.length cg0) rfl
    have x0 := X.out.cell (i := 0) (v := .int .i64 R) rfl
    have x1 := X.out.cell (i := 1) (v := .int .i64 S) rfl
    have x2 := X.out.cell (i := 2) (v := .slice aw0 Q0.length cw0) rfl
    go_wp2_with fail
    refine (eqSieve_same G0.out.rd W0.out.rd).mono ?_
    rintro e w5 ⟨rfl, hb⟩
    have z5 := hb.size
    clear y0 y1 y2
    clear x0 x1 x2
    replace B := Lib.hid (B.out.trans (hb.mono B.out.size))
    replace W0 := Lib.hid (W0.out.below hb (Nat.le_refl _))
    replace X := Lib.hid (X.out.below hb (Nat.le_refl _))
    replace G0 := Lib.hid (G0.out.below hb (Nat.le_refl _))
    replace Y := Lib.hid (Y.out.below hb (Nat.le_refl _))
    clear hb
    have y0 := Y.out.cell (i := 0) (v := .int .i64 R) rfl
    have y1 := Y.out.cell (i := 1) (v := .int .i64 S) rfl
    have y2 := Y.out.cell (i := 2) (v := .slice ag0 Q0.length cg0) rfl
    go_wp2_with fail
    refine (markSieve_any (k0 := 1) G0.out (by omega)).mono ?_
    rintro e w6 ⟨rfl, m0, hg⟩
    have ht : TurnB w2.heap.size w3.heap.size w5 w6 := TurnB.of_grown hg (fun p hp => LG0.out p hp)
    clear hg
    have z6 := ht.size
    clear y0 y1 y2
    replace B := Lib.hid (B.out.trans (ht.below (by have := B.out.size; omega) B.out.size))
    replace W0 := Lib.hid (W0.out.turned ht (fun p hp => .inl (by have := (LW0.out p hp).2; omega)))
    replace X := Lib.hid (X.out.turned ht (.inl (by omega)))
    clear G0
    replace Y := Lib.hid (Y.out.turned ht (.inr (Nat.le_refl _)))
    have M0 := Lib.hid m0.rd
    clear ht m0
    have y0 := Y.out.cell (i := 0) (v := .int .i64 R) rfl
    have y1 := Y.out.cell (i := 1) (v := .int .i64 S) rfl
    have y2 := Y.out.cell (i := 2) (v := .slice ag0 Q0.length cg0) rfl
    go_wp2_with fail
    refine (heldSieve_any (k0 := 1) M0.out (by omega)).mono ?_
    rintro e w7 ⟨rfl, hb⟩
    have z7 := hb.size
    clear y0 y1 y2
    replace B := Lib.hid (B.out.trans (hb.mono B.out.size))
    replace W0 := Lib.hid (W0.out.below hb (Nat.le_refl _))
    replace X := Lib.hid (X.out.below hb (Nat.le_refl _))
    replace Y := Lib.hid (Y.out.below hb (Nat.le_refl _))
    replace M0 := Lib.hid (M0.out.below hb (Nat.le_refl _))
    clear hb
    go_wp2_with fail
    refine (HIM.out _ (HV.out _ B.out)).mono ?_
    rintro e w8 ⟨ah0, ch0, rfl, o0, hb⟩
    have z8 := hb.size
    replace B := Lib.hid (B.out.trans (hb.mono B.out.size))
    replace W0 := Lib.hid (W0.out.below hb (Nat.le_refl _))
    replace X := Lib.hid (X.out.below hb (Nat.le_refl _))
    replace Y := Lib.hid (Y.out.below hb (Nat.le_refl _))
    replace M0 := Lib.hid (M0.out.below hb (Nat.le_refl _))
    clear hb
    have LH0 := Lib.hid o0.blk
    have H0 := Lib.hid o0.rd
    clear o0
    have hba : Below w8.heap.size w8 (w8.alloc (.cells #[.int .i64 R, .int .i64 S, .slice ah0 Q0.length ch0] 30)) := (Below.refl _ _).alloc (Nat.le_refl _) _
    replace B := Lib.hid (B.out.trans (hba.mono B.out.size))
    replace W0 := Lib.hid (W0.out.below hba (Nat.le_refl _))
    replace X := Lib.hid (X.out.below hba (Nat.le_refl _))
    replace Y := Lib.hid (Y.out.below hba (Nat.le_refl _))
    replace M0 := Lib.hid (M0.out.below hba (Nat.le_refl _))
    replace H0 := Lib.hid (H0.out.below hba (Nat.le_refl _))
    clear hba
    have Z' := Lib.hid (Blk.new w8 #[.int .i64 R, .int .i64 S, .slice ah0 Q0.length ch0] 30)
    go_upto_region 16 with (fail)
    generalize w8.alloc (.cells #[.int .i64 R, .int .i64 S, .slice ah0 Q0.length ch0] 30) = w9 at Z' B W0 X Y M0 H0 ⊢
    have h0 := Z'.out.cell (i := 0) (v := .int .i64 R) rfl
    have h1 := Z'.out.cell (i := 1) (v := .int .i64 S) rfl
    have h2 := Z'.out.cell (i := 2) (v := .slice ah0 Q0.length ch0) rfl
    have x0 := X.out.cell (i := 0) (v := .int .i64 R) rfl
    have x1 := X.out.cell (i := 1) (v := .int .i64 S) rfl
    have x2 := X.out.cell (i := 2) (v := .slice aw0 Q0.length cw0) rfl
    go_wp2_with fail
    refine (eqSieve_same H0.out W0.out.rd).mono ?_
    rintro e w10 ⟨rfl, hb⟩
    clear h0 h1 h2
    clear x0 x1 x2
    replace B := Lib.hid (B.out.trans (hb.mono B.out.size))
    clear W0
    clear X
    replace Y := Lib.hid (Y.out.below hb (Nat.le_refl _))
    replace M0 := Lib.hid (M0.out.below hb (Nat.le_refl _))
    clear H0
    clear Z'
    clear hb
    have y0 := Y.out.cell (i := 0) (v := .int .i64 R) rfl
    have y1 := Y.out.cell (i := 1) (v := .int .i64 S) rfl
    have y2 := Y.out.cell (i := 2) (v := .slice ag0 Q0.length cg0) rfl
    go_wp2_with fail
    refine (heldSieve_any (k0 := 1) M0.out (by omega)).mono ?_
    rintro e w11 ⟨rfl, hb⟩
    have BB := Lib.hid (B.out.trans (hb.mono B.out.size))
    clear hb
    clear y0 y1 y2
    go_wp2
    go_ret
    exact ⟨rfl, BB.out⟩
  · have hd : decide ((1048576 : Int) < (s.size : Int)) = true := decide_eq_true (by omega)
    clear hV
    go_enter Tryd.func4, Tryd.ntmps4
    go_wp2
    go_ret
    exact ⟨rfl, Below.refl _ _⟩

end Go.Proofs.YtmmpemfhbnkomaaDoor
