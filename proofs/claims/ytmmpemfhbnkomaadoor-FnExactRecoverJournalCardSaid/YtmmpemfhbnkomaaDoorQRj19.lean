/- Reading numbers and lists of numbers from texts: plain. The laws' helpers on lists of texts. -/
import Derived.Test.YtmmpemfhbnkomaaDoorQRj17
import Derived.Lib.ParseIntBCases
import Derived.Laws.Strings
import Derived.Test.YtmmpemfhbnkomaaDoorQRj9
import Derived.Test.YtmmpemfhbnkomaaDoorRows
set_option linter.unusedVariables false
set_option linter.unusedSimpArgs false
namespace Go.Proofs.YtmmpemfhbnkomaaDoor
open Go.RowKit

theorem tl_eq (s : ByteArray) : s.toList = toL s := ByteArray.toList_eq s
theorem tl_beq (s t : ByteArray) : (s.toList == t.toList) = decide (s = t) := by
  rw [tl_eq, tl_eq]
  by_cases h : s = t
  · subst h; simp
  · have : toL s ≠ toL t := fun e => h (toL_inj e)
    rw [decide_eq_false h]; simpa using this

/-- One more byte of a number. -/
def digF (a : Int) (b : Nat) : Int := if 48 ≤ b ∧ b ≤ 57 then 10 * a + ((b : Int) - 48) else a
def fdL (l : List UInt8) (a : Int) : Int := l.foldl (fun a b => digF a b.toNat) a
theorem fdL_append (l r : List UInt8) (a : Int) : fdL (l ++ r) a = fdL r (fdL l a) := by unfold fdL; rw [List.foldl_append]
theorem dig_nat {x : Nat} (h : x < 10) : (UInt8.ofNat (48 + x)).toNat = 48 + x := UInt8.toNat_ofNat_of_lt' (by show 48 + x < 256; omega)
theorem decDigits_dig : ∀ (u : Nat) (b : UInt8), b ∈ Lib.decDigits u → 48 ≤ b.toNat ∧ b.toNat ≤ 57 := by
  intro u
  induction u using Nat.strongRecOn with
  | _ u ih =>
    intro b hb
    rw [Lib.decDigits] at hb
    split at hb
    · rename_i h
      rw [List.mem_singleton] at hb
      subst hb
      rw [dig_nat h]; omega
    · rename_i h
      rw [List.mem_append, List.mem_singleton] at hb
      rcases hb with hb | hb
      · exact ih (u / 10) (by omega) b hb
      · subst hb
        rw [dig_nat (by omega)]; omega
theorem decDigits_ne (u : Nat) : Lib.decDigits u ≠ [] := by
  intro h
  have := Lib.decDigits_length u
  rw [h] at this
  have := Lib.nDigits_pos u
  simp at *
  omega
theorem fdL_dec : ∀ u : Nat, fdL (Lib.decDigits u) 0 = u := by
  intro u
  induction u using Nat.strongRecOn with
  | _ u ih =>
    rw [Lib.decDigits]
    split
    · rename_i h
      unfold fdL
      simp only [List.foldl_cons, List.foldl_nil, dig_nat h]
      unfold digF
      rw [if_pos (by omega)]; omega
    · rename_i h
      rw [fdL_append, ih (u / 10) (by omega)]
      unfold fdL
      simp only [List.foldl_cons, List.foldl_nil, dig_nat (x := u % 10) (by omega)]
      unfold digF
      rw [if_pos (by omega)]; omega
/-- The number that the first k bytes tell. -/
def fdN (s : ByteArray) : Nat → Int
  | 0 => 0
  | k + 1 => digF (fdN s k) (byt s k)
theorem fdN_list (s : ByteArray) (k : Nat) (hk : k ≤ s.size) : fdN s k = fdL ((toL s).take k) 0 := by
  induction k with
  | zero => rfl
  | succ k ih =>
    have hlt : k < (toL s).length := by rw [toL_len]; omega
    rw [fdN, ih (by omega), List.take_add_one, List.getElem?_eq_getElem hlt, fdL_append, byt_toL hlt]
    rfl
theorem fdN_bd (s : ByteArray) (k : Nat) : 0 ≤ fdN s k ∧ fdN s k < 10 ^ k := by
  induction k with
  | zero => exact ⟨Int.le_refl _, by show (0 : Int) < 1; decide⟩
  | succ k ih =>
    rw [fdN, Int.pow_succ]
    unfold digF
    generalize (10 : Int) ^ k = p at ih ⊢
    split <;> omega
/-- The number of a text, if it has one. -/
def rdN (s : ByteArray) : Int := if byt s 0 = 45 then -(fdN s s.size) else fdN s s.size
def rdB (s : ByteArray) : Bool := valR (rdN s) && decide (decT (rdN s) = s)
def rdV (s : ByteArray) : Int := if rdB s then rdN s else 0
theorem rdV_yes {s : ByteArray} (h : rdB s = true) : rdV s = rdN s := by unfold rdV; rw [h]; rfl
theorem rdV_no {s : ByteArray} (h : rdB s = false) : rdV s = 0 := by unfold rdV; rw [h]; rfl
theorem toL_decT (n : Int) : toL (decT n) = Lib.itoa n := by unfold toL decT; simp
theorem size_decT (n : Int) : (decT n).size = (Lib.itoa n).length := by rw [← toL_len, toL_decT]
theorem itoa_neg' {n : Int} (h : n < 0) : Lib.itoa n = 45 :: Lib.decDigits n.natAbs := by unfold Lib.itoa; rw [if_pos h]
theorem itoa_pos' {n : Int} (h : ¬ n < 0) : Lib.itoa n = Lib.decDigits n.natAbs := by unfold Lib.itoa; rw [if_neg h, show n.toNat = n.natAbs by omega]
theorem rdN_decT (n : Int) : rdN (decT n) = n := by
  have hl := toL_decT n
  have hf : fdN (decT n) (decT n).size = fdL (Lib.itoa n) 0 := by
    rw [fdN_list _ _ (Nat.le_refl _), hl, List.take_of_length_le (by rw [size_decT]; exact Nat.le_refl _)]
  have h0 : 0 < (toL (decT n)).length := by rw [hl]; exact itoa_len n
  have hb := byt_toL h0
  by_cases hn : n < 0
  · have e : (toL (decT n))[0] = 45 := by simp [hl, itoa_neg' hn]
    unfold rdN
    rw [hb, e, if_pos (by rfl), hf, itoa_neg' hn]
    have : fdL (45 :: Lib.decDigits n.natAbs) 0 = fdL (Lib.decDigits n.natAbs) 0 := rfl
    rw [this, fdL_dec]; omega
  · have hm : (toL (decT n))[0] ∈ Lib.decDigits n.natAbs := by
      have h2 : ∀ x, x ∈ toL (decT n) → x ∈ Lib.decDigits n.natAbs := by
        intro x hx
        rw [hl, itoa_pos' hn] at hx
        exact hx
      exact h2 _ (List.getElem_mem h0)
    have hd := decDigits_dig _ _ hm
    unfold rdN
    rw [hb, if_neg (by omega), hf, itoa_pos' hn, fdL_dec]; omega
theorem rdB_decT {n : Int} (h : valR n = true) : rdB (decT n) = true := by unfold rdB; rw [rdN_decT, h]; simp
theorem rdB_eq {s : ByteArray} (h : rdB s = true) : valR (rdN s) = true ∧ decT (rdN s) = s := by
  unfold rdB at h
  rw [Bool.and_eq_true, decide_eq_true_eq] at h
  exact h
theorem valR_iff {n : Int} : valR n = true ↔ -1000000000000000 ≤ n ∧ n ≤ 1000000000000000 := by unfold valR; rw [inR_eq]
theorem decT_17 {n : Int} (h : valR n = true) : 1 ≤ (decT n).size ∧ (decT n).size ≤ 17 := by
  rw [valR_iff] at h
  rw [size_decT]
  refine ⟨itoa_len n, ?_⟩
  have hp : (10 : Nat) ^ (15 + 1) = 10000000000000000 := by decide
  by_cases hn : n < 0
  · rw [itoa_neg' hn, List.length_cons, Lib.decDigits_length]
    have := nDigits_le (u := n.natAbs) (k := 15) (by omega)
    omega
  · rw [itoa_pos' hn, Lib.decDigits_length]
    have := nDigits_le (u := n.natAbs) (k := 15) (by omega)
    omega
theorem rdB_17 {s : ByteArray} (h : rdB s = true) : 1 ≤ s.size ∧ s.size ≤ 17 := by
  have h2 := rdB_eq h
  have := decT_17 h2.1
  rw [h2.2] at this
  exact this

/-- As the library reads it. -/
def fdU (l : List UInt8) (a : Nat) : Nat := l.foldl (fun a b => a * 10 + (b.toNat - 48)) a
theorem fdU_ge (l : List UInt8) : ∀ a, a ≤ fdU l a := by
  induction l with
  | nil => intro a; exact Nat.le_refl _
  | cons b l ih => intro a; exact Nat.le_trans (by omega) (ih (a * 10 + (b.toNat - 48)))
theorem fdU_dec : ∀ u : Nat, fdU (Lib.decDigits u) 0 = u := by
  intro u
  induction u using Nat.strongRecOn with
  | _ u ih =>
    rw [Lib.decDigits]
    split
    · rename_i h
      unfold fdU
      simp only [List.foldl_cons, List.foldl_nil, dig_nat h]
      omega
    · rename_i h
      have hi := ih (u / 10) (by omega)
      unfold fdU at hi ⊢
      rw [List.foldl_append, hi]
      simp only [List.foldl_cons, List.foldl_nil, dig_nat (x := u % 10) (by omega)]
      omega
theorem parseM_dig {M : Nat} (hM : M ≤ 18446744073709551615) : ∀ (l : List UInt8) (a : Nat), (∀ b ∈ l, 48 ≤ b.toNat ∧ b.toNat ≤ 57) → fdU l a ≤ M → Lib.parseUintM M a l = .ok (fdU l a) := by
  intro l
  induction l with
  | nil => intro a _ _; rfl
  | cons b l ih =>
    intro a hd hf
    have hb := hd b (List.mem_cons_self ..)
    have e : fdU (b :: l) a = fdU l (a * 10 + (b.toNat - 48)) := rfl
    rw [e] at hf ⊢
    have hg := fdU_ge l (a * 10 + (b.toNat - 48))
    unfold Lib.parseUintM
    rw [if_pos hb, if_neg (by omega), if_neg (by omega)]
    exact ih _ (fun c hc => hd c (List.mem_cons_of_mem _ hc)) hf
theorem parseU_dec {u : Nat} (h : u ≤ 1000000000000000) : Lib.parseUintB 64 (Lib.decDigits u) = .ok u := by
  unfold Lib.parseUintB
  rw [if_neg (decDigits_ne u)]
  have := parseM_dig (M := 2 ^ 64 - 1) (by decide) (Lib.decDigits u) 0 (decDigits_dig u) (by rw [fdU_dec]; omega)
  rw [this, fdU_dec]
theorem parse_itoa {n : Int} (h : valR n = true) : Lib.parseIntB 64 (Lib.itoa n) = .ok n := by
  rw [valR_iff] at h
  by_cases hn : n < 0
  · rw [itoa_neg' hn]
    have hu := parseU_dec (u := n.natAbs) (by omega)
    simp only [Lib.parseIntB]
    have e : (45 : UInt8).toNat = 45 := rfl
    simp only [e, or_true, if_true, hu]
    rw [if_neg (by simp), if_neg (by omega)]
    simp only [Lib.NumEnd.ok.injEq]
    omega
  · rw [itoa_pos' hn]
    have hu := parseU_dec (u := n.natAbs) (by omega)
    have hd := decDigits_dig n.natAbs
    cases hl : Lib.decDigits n.natAbs with
    | nil => exact absurd hl (decDigits_ne _)
    | cons c r =>
      rw [hl] at hd hu
      have hc := hd c (List.mem_cons_self ..)
      simp only [Lib.parseIntB]
      rw [if_neg (by omega), hu]
      simp only
      rw [if_neg (by omega), if_neg (by omega), if_neg (by omega)]
      simp only [Lib.NumEnd.ok.injEq]
      omega
/-- What is read, from how the library's reading ends. -/
theorem rd_of_parse {s : ByteArray} {v : Int} (h : Lib.parseIntB 64 s.data.toList = .ok v) : rdB s = (valR v && decide (decT v = s)) ∧ (rdB s = true → rdN s = v) := by
  have key : rdB s = true → rdN s = v := by
    intro hb
    have h2 := rdB_eq hb
    have h3 := parse_itoa h2.1
    rw [← toL_decT, h2.2] at h3
    have h4 : Lib.NumEnd.ok (rdN s) = Lib.NumEnd.ok v := h3.symm.trans h
    simpa using h4
  refine ⟨?_, key⟩
  cases hb : rdB s with
  | true => rw [← key hb]; unfold rdB at hb; exact hb.symm
  | false =>
    cases hv : valR v with
    | false => rfl
    | true =>
      by_cases hd : decT v = s
      · rw [← hd, rdB_decT hv] at hb; simp at hb
      · simp [hd]
theorem rd_of_fail {s : ByteArray} (h : ∀ v, Lib.parseIntB 64 s.data.toList ≠ .ok v) : rdB s = false := by
  cases hb : rdB s with
  | false => rfl
  | true =>
    have h2 := rdB_eq hb
    have h3 := parse_itoa h2.1
    rw [← toL_decT, h2.2] at h3
    exact absurd h3 (h _)

/-- Pieces and their text. -/
theorem join_consH (m b : UInt8) (l : List UInt8) : Lib.join (consH b (sp m l)) [m] = b :: Lib.join (sp m l) [m] := by
  obtain ⟨p, ps, h⟩ := sp_ne m l
  rw [h]
  simp only [consH]
  rw [Lib.join_cons, Lib.join_cons]; rfl
theorem join_sp (m : UInt8) (l : List UInt8) : Lib.join (sp m l) [m] = l := by
  induction l with
  | nil => rfl
  | cons b l ih =>
    unfold sp
    by_cases hb : b = m
    · rw [if_pos hb]
      obtain ⟨p, ps, h⟩ := sp_ne m l
      rw [h] at ih ⊢
      rw [Lib.join_cons, List.nil_append]
      rw [Lib.join_cons] at ih
      have : Lib.joinTail [m] (p :: ps) = m :: (p ++ Lib.joinTail [m] ps) := by simp [Lib.joinTail]
      rw [this, ih, hb]
    · rw [if_neg hb, join_consH, ih]
theorem sp_clean (m : UInt8) (l : List UInt8) : ∀ p ∈ sp m l, ∀ b ∈ p, b ≠ m := by
  induction l with
  | nil => intro p hp b hb; simp [sp] at hp; subst hp; simp at hb
  | cons c l ih =>
    intro p hp b hb
    unfold sp at hp
    by_cases hc : c = m
    · rw [if_pos hc, List.mem_cons] at hp
      rcases hp with rfl | hp
      · simp at hb
      · exact ih p hp b hb
    · rw [if_neg hc] at hp
      obtain ⟨q, qs, h⟩ := sp_ne m l
      rw [h] at hp ih
      simp only [consH, List.mem_cons] at hp
      rcases hp with rfl | hp
      · rw [List.mem_cons] at hb
        rcases hb with rfl | hb
        · exact hc
        · exact ih q (List.mem_cons_self ..) b hb
      · exact ih p (List.mem_cons_of_mem _ hp) b hb
theorem sp_all {m : UInt8} {l : List UInt8} (h : ∀ b ∈ l, b ≠ m) : sp m l = [l] := by
  induction l with
  | nil => rfl
  | cons b l ih =>
    unfold sp
    rw [if_neg (h b (List.mem_cons_self ..)), ih (fun c hc => h c (List.mem_cons_of_mem _ hc))]; rfl
theorem sp_app {m : UInt8} {p : List UInt8} (r : List UInt8) (h : ∀ b ∈ p, b ≠ m) : sp m (p ++ m :: r) = p :: sp m r := by
  induction p with
  | nil => rw [List.nil_append]; unfold sp; rw [if_pos rfl]; cases r <;> simp [sp]
  | cons b p ih =>
    rw [List.cons_append]
    conv => lhs; rw [sp, if_neg (h b (List.mem_cons_self ..))]
    rw [ih (fun c hc => h c (List.mem_cons_of_mem _ hc))]; rfl
theorem mem_sp {m : UInt8} {l : List UInt8} {b : UInt8} (h : b ∈ l) : b = m ∨ ∃ p ∈ sp m l, b ∈ p := by
  induction l with
  | nil => simp at h
  | cons c l ih =>
    rw [List.mem_cons] at h
    unfold sp
    by_cases hc : c = m
    · rw [if_pos hc]
      rcases h with rfl | h
      · exact .inl hc
      · rcases ih h with e | ⟨p, hp, hb⟩
        · exact .inl e
        · exact .inr ⟨p, List.mem_cons_of_mem _ hp, hb⟩
    · rw [if_neg hc]
      obtain ⟨q, qs, hq⟩ := sp_ne m l
      rw [hq] at ih ⊢
      simp only [consH]
      rcases h with rfl | h
      · exact .inr ⟨_, List.mem_cons_self .., List.mem_cons_self ..⟩
      · rcases ih h with e | ⟨p, hp, hb⟩
        · exact .inl e
        · rw [List.mem_cons] at hp
          rcases hp with rfl | hp
          · exact .inr ⟨_, List.mem_cons_self .., List.mem_cons_of_mem _ hb⟩
          · exact .inr ⟨p, List.mem_cons_of_mem _ hp, hb⟩

/-- The pieces of a list's text. -/
def noneT : ByteArray := ⟨#[110, 111, 110, 101]⟩
def pcs (s : ByteArray) : List ByteArray := if s = noneT then [] else parts s 44
def numsL (s : ByteArray) : List Int := (pcs s).map rdN
def numsB (s : ByteArray) : Bool := (pcs s).all rdB && decide ((pcs s).length ≤ 64)
def numsR (s : ByteArray) : List Int := if numsB s then numsL s else []
theorem numsL_len (s : ByteArray) : (numsL s).length = (pcs s).length := by unfold numsL; rw [List.length_map]
theorem numsB_all {s : ByteArray} (h : numsB s = true) : (∀ p ∈ pcs s, rdB p = true) ∧ (pcs s).length ≤ 64 := by
  unfold numsB at h
  rw [Bool.and_eq_true, List.all_eq_true, decide_eq_true_eq] at h
  exact h
theorem numsB_vals {s : ByteArray} (h : numsB s = true) : valsB (numsL s) = true := by
  have h2 := numsB_all h
  unfold valsB
  rw [Bool.and_eq_true, List.all_eq_true, decide_eq_true_eq]
  refine ⟨fun x hx => ?_, by rw [numsL_len]; exact h2.2⟩
  unfold numsL at hx
  obtain ⟨p, hp, rfl⟩ := List.mem_map.1 hx
  exact (rdB_eq (h2.1 p hp)).1
theorem nums_round {s : ByteArray} (h : numsB s = true) : lstT (numsL s) = s := by
  have h2 := numsB_all h
  by_cases hs : s = noneT
  · have : numsL s = [] := by unfold numsL pcs; rw [if_pos hs]; rfl
    rw [this, hs]; rfl
  · have hp : pcs s = parts s 44 := by unfold pcs; rw [if_neg hs]
    have hne : (numsL s).length ≠ 0 := by
      rw [numsL_len, hp]
      have := (parts_len s 44).1
      omega
    rw [← join_lst hne]
    have e : (numsL s).map decT = parts s 44 := by
      unfold numsL
      rw [List.map_map, ← hp]
      conv => rhs; rw [← List.map_id (pcs s)]
      refine List.map_congr_left fun p hpm => ?_
      exact (rdB_eq (h2.1 p hpm)).2
    rw [e]
    apply toL_inj
    have e2 : (parts s 44).map (fun b => b.data.toList) = sp 44 (toL s) := parts_toL' s 44
    rw [e2, join_sp]
    unfold toL; simp
theorem rdB_bytes {s : ByteArray} (h : rdB s = true) : ∀ b ∈ toL s, (48 ≤ b.toNat ∧ b.toNat ≤ 57) ∨ b = 45 := by
  intro b hb
  rw [← (rdB_eq h).2, toL_decT] at hb
  by_cases hn : rdN s < 0
  · rw [itoa_neg' hn, List.mem_cons] at hb
    rcases hb with hb | hb
    · exact .inr hb
    · exact .inl (decDigits_dig _ _ hb)
  · rw [itoa_pos' hn] at hb
    exact .inl (decDigits_dig _ _ hb)
theorem rdB_semi {s : ByteArray} (h : rdB s = true) : ∀ b ∈ toL s, b ≠ 59 := by
  intro b hb e
  rcases rdB_bytes h b hb with h2 | h2
  · subst e; exact absurd h2 (by decide)
  · subst e; exact absurd h2 (by decide)
theorem numsB_semi {s : ByteArray} (h : numsB s = true) : ∀ b ∈ toL s, b ≠ 59 := by
  have h2 := numsB_all h
  by_cases hs : s = noneT
  · subst hs
    intro b hb
    have : b = 110 ∨ b = 111 ∨ b = 101 := by
      have e : toL noneT = [110, 111, 110, 101] := rfl
      rw [e] at hb
      simp at hb
      rcases hb with h | h | h | h <;> simp [h]
    rcases this with rfl | rfl | rfl <;> decide
  · have hp : pcs s = parts s 44 := by unfold pcs; rw [if_neg hs]
    intro b hb
    rcases mem_sp (m := 44) hb with rfl | ⟨p, hpm, hbp⟩
    · decide
    · rw [← parts_toL'] at hpm
      obtain ⟨q, hq, rfl⟩ := List.mem_map.1 hpm
      exact rdB_semi (h2.1 q (by rw [hp]; exact hq)) b hbp

end Go.Proofs.YtmmpemfhbnkomaaDoor

namespace Go.Proofs.YtmmpemfhbnkomaaDoor
open Go.RowKit

theorem info_ss0 : (Tryd.prog.info? 9).map (fun i => (i.zero, i.size, i.bytes)) = some (some (.string ByteArray.empty), 1, 16) := by kernel_rfl

def bsz (L : List ByteArray) (k : Nat) : Nat := (L[k]?.getD ⟨#[]⟩).size
set_option maxHeartbeats 400000 in
theorem eqSs_any {a1 a2 : Option Addr} {c1 c2 : Nat} {xs ys : List ByteArray} {w : World} (hx : Rd (Value.string) w a1 c1 xs) (hy : Rd (Value.string) w a2 c2 ys) :
    Calls Tryd.prog 9 #[.slice a1 xs.length c1, .slice a2 ys.length c2] w fun e w' => e = .returned (.bool (decide (xs = ys))) ∧ Below w.heap.size w w' := by
  have hlx := hx.len
  have hly := hy.len
  go_enter Tryd.func9, Tryd.ntmps9
  by_cases hl : xs.length = ys.length
  · have hd : ((xs.length : Int) != (ys.length : Int)) = false := by simp [hl]
    have HL : Hid (xs.length = ys.length) := hl
    clear hl
    go_wp2
    go_loopw [5] (fun i wr => ∃ k : Nat, k ≤ xs.length ∧ i = .int .i64 k ∧ xs.take k = ys.take k ∧ ∃ n, wr = w.drewN n) (fun i _ => xs.length - (intOf i).toNat)
    case atStart => exact ⟨0, Nat.zero_le _, rfl, rfl, 0, rfl⟩
    case round =>
      obtain ⟨k, hk, rfl, ht, n, rfl⟩ := hrel
      have HT : Hid (xs.take k = ys.take k) := ht
      clear ht hd
      by_cases hlt : k < xs.length
      · have hlt2 : k < ys.length := by rw [← HL.out]; exact hlt
        have hcx := hx.cell k hlt
        have hcy := hy.cell k hlt2
        have hix := hx.idx und_ss siz_ss
        have hiy := hy.idx und_ss siz_ss
        simp only [List.getElem?_eq_getElem hlt, List.getElem?_eq_getElem hlt2, Option.getD_some] at hcx hcy
        have hbq := tl_beq xs[k] ys[k]
        have HNE : Hid (¬ xs[k] = ys[k] → decide (xs = ys) = false) := Lib.hid (fun h => by simp [take_ne_of hlt hlt2 h])
        have HEQ : Hid (xs[k] = ys[k] → xs.take (k + 1) = ys.take (k + 1)) := Lib.hid (fun h => take_eq_snoc hlt hlt2 HT.out h)
        generalize xs[k] = x at hcx hbq HNE HEQ
        generalize ys[k] = y at hcy hbq HNE HEQ
        by_cases he : x = y
        · have HE := Lib.hid (HEQ.out he)
          rw [decide_eq_true he] at hbq
          have hbq2 : (x.toList != y.toList) = false := by show (!(x.toList == y.toList)) = false; rw [hbq]; rfl
          clear he
          go_wp2_with fail
          go_quiet (fail)
          go_wp2
          go_roundw
          case rel => exact ⟨k + 1, by omega, by go_num, HE.out, _, rfl⟩
          case measure => simp [intOf]; omega
        · have HE := Lib.hid (HNE.out he)
          rw [decide_eq_false he] at hbq
          have hbq2 : (x.toList != y.toList) = true := by show (!(x.toList == y.toList)) = true; rw [hbq]; rfl
          clear he
          go_wp2_with fail
          go_quiet (fail)
          go_wp2
          go_ret
          exact ⟨ret_bool HE.out.symm, by rw [World.drewN_drewN]; exact below_of_drewN _ _ _⟩
      · go_wp2
        go_ret
        have : k = xs.length := by omega
        subst this
        have h := HT.out
        rw [List.take_length, HL.out, List.take_length] at h
        exact ⟨ret_bool (by simp [h]), below_of_drewN _ _ _⟩
  · have hd : ((xs.length : Int) != (ys.length : Int)) = true := by simp; omega
    have HL : Hid (¬ xs.length = ys.length) := hl
    clear hl
    go_wp2
    go_ret
    refine ⟨ret_bool ?_, Below.refl _ _⟩
    have h := HL.out
    rw [decide_eq_false]
    rintro rfl
    exact h rfl


end Go.Proofs.YtmmpemfhbnkomaaDoor
