/- The parts of a text between marks: plain, in the reference's text, and as the library cuts them. -/
import Derived.Test.YtmmpemfhbnkomaaDoorQRj0
import Derived.Test.YtmmpemfhbnkomaaDoorQRj2
import Derived.Lib.SplitLaws
set_option linter.unusedVariables false
set_option linter.unusedSimpArgs false
namespace Go.Proofs.YtmmpemfhbnkomaaDoor
open Go.RowKit

def toL (s : ByteArray) : List UInt8 := s.data.toList
theorem toL_inj {a b : ByteArray} (h : toL a = toL b) : a = b := by
  cases a with
  | mk a => cases b with
    | mk b =>
      unfold toL at h
      have : a = b := by
        have := congrArg List.toArray h
        simpa using this
      rw [this]
theorem toL_len (s : ByteArray) : (toL s).length = s.size := by unfold toL; rw [Array.length_toList]; rfl
theorem toL_extract (s : ByteArray) (a b : Nat) : toL (s.extract a b) = ((toL s).drop a).take (b - a) := by
  unfold toL
  rw [ByteArray.data_extract]
  simp
theorem byt_toL {s : ByteArray} {k : Nat} (h : k < (toL s).length) : byt s k = ((toL s)[k]).toNat := by
  rw [toL_len] at h
  rw [← byt_eq h]
  rfl

def consH (b : UInt8) : List (List UInt8) → List (List UInt8)
  | [] => []
  | p :: ps => (b :: p) :: ps
/-- The parts between marks. -/
def sp (m : UInt8) : List UInt8 → List (List UInt8)
  | [] => [[]]
  | b :: l => if b = m then [] :: sp m l else consH b (sp m l)
def preH (p : List UInt8) : List (List UInt8) → List (List UInt8)
  | [] => []
  | q :: qs => (p ++ q) :: qs
theorem sp_ne (m : UInt8) (l : List UInt8) : ∃ p ps, sp m l = p :: ps := by
  induction l with
  | nil => exact ⟨_, _, rfl⟩
  | cons b l ih =>
    obtain ⟨p, ps, h⟩ := ih
    unfold sp
    by_cases hb : b = m
    · rw [if_pos hb]; exact ⟨_, _, rfl⟩
    · rw [if_neg hb, h]; exact ⟨_, _, rfl⟩
theorem preH_nil (m : UInt8) (l : List UInt8) : preH [] (sp m l) = sp m l := by
  obtain ⟨p, ps, h⟩ := sp_ne m l
  rw [h]; rfl
theorem preH_cons (p : List UInt8) (b : UInt8) (m : UInt8) (l : List UInt8) : preH p (consH b (sp m l)) = preH (p ++ [b]) (sp m l) := by
  obtain ⟨q, qs, h⟩ := sp_ne m l
  rw [h]
  simp [preH, consH]

/-- As the library finds them. -/
theorem sp_miss {m : UInt8} {l : List UInt8} (h : Go.Lib.index l [m] = -1) : sp m l = [l] := by
  induction l with
  | nil => rfl
  | cons b l ih =>
    unfold Go.Lib.index at h
    by_cases hb : b = m
    · have : ([m] : List UInt8).isPrefixOf (b :: l) = true := by simp [hb]
      rw [this] at h
      simp at h
    · have hp : ([m] : List UInt8).isPrefixOf (b :: l) = false := by simp [List.isPrefixOf]; exact fun e => hb e.symm
      rw [hp] at h
      simp only [Bool.false_eq_true, if_false] at h
      by_cases hi : Go.Lib.index l [m] = -1
      · unfold sp
        rw [if_neg hb, ih hi]; rfl
      · have : (Go.Lib.index l [m] == -1) = false := by simpa using hi
        rw [this] at h
        simp only [Bool.false_eq_true, if_false] at h
        have := Go.Lib.index_ge l [m]
        omega
theorem sp_hit {m : UInt8} {l : List UInt8} {i : Nat} (h : Go.Lib.index l [m] = i) : sp m l = l.take i :: sp m (l.drop (i + 1)) := by
  induction l generalizing i with
  | nil => simp [Go.Lib.index] at h
  | cons b l ih =>
    unfold Go.Lib.index at h
    by_cases hb : b = m
    · have : ([m] : List UInt8).isPrefixOf (b :: l) = true := by simp [hb]
      rw [this] at h
      simp at h
      obtain rfl : i = 0 := by omega
      unfold sp
      rw [if_pos hb]
      cases l <;> simp [sp]
    · have hp : ([m] : List UInt8).isPrefixOf (b :: l) = false := by simp [List.isPrefixOf]; exact fun e => hb e.symm
      rw [hp] at h
      simp only [Bool.false_eq_true, if_false] at h
      by_cases hi : Go.Lib.index l [m] = -1
      · rw [hi] at h; simp at h
      · have : (Go.Lib.index l [m] == -1) = false := by simpa using hi
        rw [this] at h
        simp only [Bool.false_eq_true, if_false] at h
        have hge := Go.Lib.index_ge l [m]
        obtain ⟨j, hj⟩ : ∃ j : Nat, i = j + 1 := ⟨i - 1, by omega⟩
        subst hj
        have h2 := ih (i := j) (by omega)
        rw [sp, if_neg hb, h2]
        simp [consH]
theorem split_sp (m : UInt8) : ∀ (k : Nat) (s : ByteArray), Go.Lib.countB s ⟨#[m]⟩ = k → (Go.Lib.splitB ⟨#[m]⟩ 0 k s).map toL = sp m (toL s) := by
  have h1 : 1 ≤ (⟨#[m]⟩ : ByteArray).size := Nat.le_refl _
  intro k
  induction k with
  | zero =>
    intro s hk
    rw [Go.Lib.splitB_zero]
    rcases Go.Lib.indexB_cases s ⟨#[m]⟩ with hix | ⟨i, hix, _⟩
    · rw [sp_miss (show Go.Lib.index (toL s) [m] = -1 from hix)]; rfl
    · rw [Go.Lib.countB_hit s ⟨#[m]⟩ i h1 hix] at hk; omega
  | succ k ih =>
    intro s hk
    rcases Go.Lib.indexB_cases s ⟨#[m]⟩ with hix | ⟨i, hix, hroom⟩
    · rw [Go.Lib.countB_miss s ⟨#[m]⟩ hix] at hk; omega
    · have hc := Go.Lib.countB_hit s ⟨#[m]⟩ i h1 hix
      rw [Go.Lib.splitB_hit ⟨#[m]⟩ 0 k s i hix, List.map_cons, ih _ (by omega), toL_extract, toL_extract, sp_hit (show Go.Lib.index (toL s) [m] = (i : Int) from hix)]
      have hs1 : (⟨#[m]⟩ : ByteArray).size = 1 := rfl
      rw [hs1]
      congr 2
      rw [List.take_of_length_le (by rw [List.length_drop, toL_len]; omega)]

/-- As the reference cuts: the parts that are done, and where the last one begins. -/
def cutK (s : ByteArray) (m : Nat) : Nat → List ByteArray × Nat
  | 0 => ([], 0)
  | i + 1 => if i = s.size ∨ byt s i = m then ((cutK s m i).1 ++ [s.extract (cutK s m i).2 i], i + 1) else cutK s m i
theorem cutK_yes {s : ByteArray} {m i : Nat} (h : i = s.size ∨ byt s i = m) : cutK s m (i + 1) = ((cutK s m i).1 ++ [s.extract (cutK s m i).2 i], i + 1) := by rw [cutK, if_pos h]
theorem cutK_no {s : ByteArray} {m i : Nat} (h : ¬ (i = s.size ∨ byt s i = m)) : cutK s m (i + 1) = cutK s m i := by rw [cutK, if_neg h]
theorem cutK_le (s : ByteArray) (m : Nat) (i : Nat) : (cutK s m i).2 ≤ i ∧ (cutK s m i).1.length ≤ i := by
  induction i with
  | zero => exact ⟨Nat.le_refl _, Nat.le_refl _⟩
  | succ i ih =>
    by_cases h : i = s.size ∨ byt s i = m
    · rw [cutK_yes h]; exact ⟨Nat.le_refl _, by simp; omega⟩
    · rw [cutK_no h]; exact ⟨by omega, by omega⟩
theorem cutK_inv (s : ByteArray) (m : UInt8) (i : Nat) (hi : i ≤ s.size) : sp m (toL s) = (cutK s m.toNat i).1.map toL ++ preH (((toL s).drop (cutK s m.toNat i).2).take (i - (cutK s m.toNat i).2)) (sp m ((toL s).drop i)) := by
  induction i with
  | zero => simp [cutK, preH_nil]
  | succ i ih =>
    have hlt : i < (toL s).length := by rw [toL_len]; omega
    have hd : (toL s).drop i = (toL s)[i] :: (toL s).drop (i + 1) := List.drop_eq_getElem_cons hlt
    have h := ih (by omega)
    have hle := (cutK_le s m.toNat i).1
    by_cases hb : (toL s)[i] = m
    · have hy : i = s.size ∨ byt s i = m.toNat := .inr (by rw [byt_toL hlt, hb])
      rw [cutK_yes hy]
      rw [hd, sp, if_pos hb] at h
      rw [h, List.map_append, List.append_assoc]
      congr 1
      simp only [List.map_cons, List.map_nil, Nat.sub_self, List.take_zero, preH_nil, toL_extract]
      simp [preH]
    · have hn : ¬ (i = s.size ∨ byt s i = m.toNat) := by
        rintro (e | e)
        · omega
        · rw [byt_toL hlt] at e
          exact hb (UInt8.toNat_inj.1 e)
      rw [cutK_no hn]
      rw [hd, sp, if_neg hb, preH_cons] at h
      rw [h]
      congr 2
      rw [show i + 1 - (cutK s m.toNat i).2 = (i - (cutK s m.toNat i).2) + 1 by omega, List.take_add_one]
      congr 1
      rw [List.getElem?_drop, show (cutK s m.toNat i).2 + (i - (cutK s m.toNat i).2) = i by omega, List.getElem?_eq_getElem hlt]
      rfl
theorem cutK_all (s : ByteArray) (m : UInt8) : (cutK s m.toNat (s.size + 1)).1.map toL = sp m (toL s) := by
  have h := cutK_inv s m s.size (Nat.le_refl _)
  rw [cutK_yes (.inl rfl), h, List.map_append]
  congr 1
  have hn : (toL s).drop s.size = [] := by rw [← toL_len]; exact List.drop_length
  rw [hn]
  simp [sp, preH, toL_extract]
theorem map_toL_inj {xs ys : List ByteArray} (h : xs.map toL = ys.map toL) : xs = ys := by
  induction xs generalizing ys with
  | nil => cases ys with
    | nil => rfl
    | cons y ys => simp at h
  | cons x xs ih => cases ys with
    | nil => simp at h
    | cons y ys =>
      simp only [List.map_cons, List.cons.injEq] at h
      rw [toL_inj h.1, ih h.2]
/-- The parts of a text. -/
def parts (s : ByteArray) (m : UInt8) : List ByteArray := (cutK s m.toNat (s.size + 1)).1
theorem parts_toL' (s : ByteArray) (m : UInt8) : (parts s m).map toL = sp m (toL s) := cutK_all s m
theorem parts_split (s : ByteArray) (m : UInt8) : Go.Lib.splitB ⟨#[m]⟩ 0 (Go.Lib.countB s ⟨#[m]⟩) s = parts s m := by
  apply map_toL_inj
  rw [split_sp m _ s rfl]
  exact (cutK_all s m).symm
theorem parts_len (s : ByteArray) (m : UInt8) : 1 ≤ (parts s m).length ∧ (parts s m).length ≤ s.size + 1 := by
  refine ⟨?_, (cutK_le s m.toNat (s.size + 1)).2⟩
  unfold parts
  rw [cutK_yes (.inl rfl)]
  simp
theorem parts_count (s : ByteArray) (m : UInt8) : Go.Lib.countB s ⟨#[m]⟩ + 1 = (parts s m).length := by
  rw [← parts_split]
  exact (Go.Lib.splitB_all ⟨#[m]⟩ (Nat.le_refl _) 0 _ s rfl).symm

theorem und_ss : Tryd.prog.underlying 22 = some (.slice (Tryd.prog.elem 22)) := by kernel_rfl
theorem und_sse : Tryd.prog.underlying 22 = some (.slice 9) := by kernel_rfl
theorem siz_ss (w : World) : (sizeOf (Tryd.prog.elem 22)).run Tryd.prog w = .ok 1 w := by kernel_rfl
theorem info_ss : (Tryd.prog.info? 9).map (fun i => (i.zero, i.size, i.bytes)) = some (some (Value.string ⟨#[]⟩), 1, 16) := by kernel_rfl

set_option maxHeartbeats 2000000 in
theorem l01Cut_any {s : ByteArray} {m : UInt8} {mi : Int} {w : World} (hs : s.size ≤ 1048576) (hm : mi = (m.toNat : Int)) :
    Calls Tryd.prog 52 #[.string s, .int .u8 mi] w fun e w' => ∃ a c, e = .returned (.slice a (parts s m).length c) ∧ Own Value.string 9 w' w.heap.size a c (parts s m) ∧ Below w.heap.size w w' := by
  have HLE := Lib.hid (cutK_le s m.toNat)
  have HY : Hid (∀ i, (i = s.size ∨ byt s i = m.toNat) → cutK s m.toNat (i + 1) = ((cutK s m.toNat i).1 ++ [s.extract (cutK s m.toNat i).2 i], i + 1)) := Lib.hid (fun i h => cutK_yes h)
  have HN : Hid (∀ i, ¬ (i = s.size ∨ byt s i = m.toNat) → cutK s m.toNat (i + 1) = cutK s m.toNat i) := Lib.hid (fun i h => cutK_no h)
  have HP : Hid (parts s m = (cutK s m.toNat (s.size + 1)).1) := Lib.hid rfl
  have H0 : Hid (cutK s m.toNat 0 = ([], 0)) := Lib.hid rfl
  obtain ⟨mn, hmn⟩ : ∃ n, m.toNat = n := ⟨_, rfl⟩
  generalize cutK s m.toNat = K at HLE HY HN HP H0
  rw [hmn] at hm HY HN
  subst hm
  generalize parts s m = P at HP ⊢
  have HB0 := Lib.hid ((Below.refl w.heap.size w).alloc (Nat.le_refl _) (.cells #[] 9))
  have HO0 : Hid (Own Value.string 9 (w.alloc (.cells #[] 9)) w.heap.size (some ⟨w.heap.size, 0, none⟩) 0 []) := Lib.hid (own_empty w _ (Nat.le_refl _) rfl)
  clear hmn
  go_enter Tryd.func52, Tryd.ntmps52
  go_wp2
  go_loopw [5, 6, 7] (fun oi fi vi wr => ∃ (k f : Nat) (a : Option Addr) (c : Nat) (out : List ByteArray), vi = .int .i64 k ∧ k ≤ s.size + 1 ∧ fi = .int .i64 f ∧ f ≤ k ∧ oi = .slice a out.length c ∧ out.length ≤ k ∧ Hid (K k = (out, f)) ∧ Hid (Own Value.string 9 wr w.heap.size a c out ∧ Below w.heap.size w wr)) (fun _ _ vi _ => s.size + 1 - (intOf vi).toNat)
  case atStart => exact ⟨0, 0, _, _, [], rfl, Nat.zero_le _, rfl, Nat.le_refl _, rfl, Nat.le_refl _, H0, Lib.hid ⟨HO0.out, HB0.out⟩⟩
  case round =>
    clear HO0 HB0
    obtain ⟨k, f, a, c, out, rfl, hk, rfl, hf, rfl, hol, HK, HI⟩ := hrel
    by_cases hlt : k ≤ s.size
    · have hltz : (k : Int) ≤ (s.size : Int) := by omega
      have ewk : IntKind.i64.wrap ((k : Int) + 1) = (k : Int) + 1 := IntWalk.i64_in _ (by omega)
      have hbw : w.heap.size ≤ wr.heap.size := HI.out.2.size
      have fin : Hid ((k = s.size ∨ byt s k = mn) → K (k + 1) = (out ++ [s.extract f k], k + 1)) := Lib.hid (fun h => by rw [HY.out k h, HK.out])
      by_cases he : k = s.size
      · have HK1 := Lib.hid (fin.out (.inl he))
        subst he
        have hd : ((s.size : Int) == (s.size : Int)) = true := by simp
        obtain ⟨x, hx⟩ : ∃ x, s.extract f s.size = x := ⟨_, rfl⟩
        rw [hx] at HK1
        go_wp2_with (at_builtin; refine wpl_append1 (f := Value.string) (d := ⟨#[]⟩) (base := w.heap.size) und_sse info_ss (fun _ => rfl) x HI.out.1 rfl _ _ rfl rfl rfl (by omega) (by omega) hbw ?_; intro a3 c3 w3 ho3 hg3; have HO3 := Lib.hid ho3; have HB3 := Lib.hid (HI.out.2.trans (grown_belowOwn HI.out.1 hg3 (Nat.le_refl _) hbw)); clear ho3 hg3)
        go_roundw
        case rel => exact ⟨s.size + 1, s.size + 1, a3, c3, out ++ [x], by go_num, Nat.le_refl _, by go_num, Nat.le_refl _, by simp, by simp; omega, HK1, Lib.hid ⟨HO3.out, HB3.out⟩⟩
        case measure => simp [intOf]
      · have hd : ((k : Int) == (s.size : Int)) = false := by simp; omega
        have hkl : k < s.size := by omega
        have hkz : (k : Int) < (s.size : Int) := by omega
        have hbe := byt_eq hkl
        have fin2 : Hid (byt s k ≠ mn → K (k + 1) = (out, f)) := Lib.hid (fun h => by rw [HN.out k (by rintro (e | e); exact he e; exact h e), HK.out])
        obtain ⟨y, hy⟩ : ∃ y, byt s k = y := ⟨_, rfl⟩
        rw [hy] at hbe fin fin2
        clear hy
        by_cases hm : y = mn
        · have hdm : ((y : Int) == (mn : Int)) = true := by simp [hm]
          have HK1 := Lib.hid (fin.out (.inr hm))
          obtain ⟨x, hx⟩ : ∃ x, s.extract f k = x := ⟨_, rfl⟩
          rw [hx] at HK1
          go_wp2_with (at_builtin; refine wpl_append1 (f := Value.string) (d := ⟨#[]⟩) (base := w.heap.size) und_sse info_ss (fun _ => rfl) x HI.out.1 rfl _ _ rfl rfl rfl (by omega) (by omega) hbw ?_; intro a3 c3 w3 ho3 hg3; have HO3 := Lib.hid ho3; have HB3 := Lib.hid (HI.out.2.trans (grown_belowOwn HI.out.1 hg3 (Nat.le_refl _) hbw)); clear ho3 hg3)
          go_roundw
          case rel => exact ⟨k + 1, k + 1, a3, c3, out ++ [x], by go_num, by omega, by go_num, Nat.le_refl _, by simp, by simp; omega, HK1, Lib.hid ⟨HO3.out, HB3.out⟩⟩
          case measure => simp [intOf]; omega
        · have hdm : ((y : Int) == (mn : Int)) = false := by simp; omega
          have HK1 := Lib.hid (fin2.out hm)
          go_wp2
          go_roundw
          case rel => exact ⟨k + 1, f, a, c, out, by go_num, by omega, rfl, by omega, rfl, by omega, HK1, HI⟩
          case measure => simp [intOf]; omega
    · obtain rfl : k = s.size + 1 := by omega
      have hltz : ¬ ((s.size : Int) + 1) ≤ (s.size : Int) := by omega
      have hd : decide (((s.size + 1 : Nat) : Int) ≤ (s.size : Int)) = false := decide_eq_false (by omega)
      have he : Hid (P = out) := Lib.hid (by rw [HP.out, HK.out])
      have heq := he.out
      subst heq
      go_wp2
      go_ret
      exact ⟨a, c, rfl, HI.out.1, HI.out.2⟩

end Go.Proofs.YtmmpemfhbnkomaaDoor
