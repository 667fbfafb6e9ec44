/- PlaneBits, both texts. -/
import Derived.Test.YtkmmedhgpmeniaaSignSk
import Derived.Test.YtkmmedhgpmeniaaToB
namespace Go.Proofs.Ytkmmedhgpmeniaa
open Go.RowKit

def geB (x : Nat) : Bool := FloatKind.f32.format.order x 0 == some .gt || FloatKind.f32.format.order x 0 == some .eq
def plR (v : List Nat) (ss : List Int) : List Bool := (skR v ss).map geB
theorem plR_len (v : List Nat) (ss : List Int) : (plR v ss).length ≤ 32 := by
  have := skR_len v ss
  simpa [plR] using this
theorem map_snoc {α β : Type} (f : α → β) {xs : List α} {k : Nat} (h : k < xs.length) {x : α} (hx : xs[k] = x) {ys : List β} (hy : ys = (xs.take k).map f) : ys ++ [f x] = (xs.take (k + 1)).map f := by
  rw [List.take_add_one, List.map_append, List.getElem?_eq_getElem h, hx, hy]; simp

set_option maxRecDepth 4000 in
set_option maxHeartbeats 2000000 in
theorem implPl_any {a1 a2 : Option Addr} {c1 c2 : Nat} {v : List Nat} {ss : List Int} {w : World} (hv : Rd (Value.float .f32) w a1 c1 v) (hs : Rd (Value.int .i64) w a2 c2 ss) :
    Calls Try.prog 14 #[.slice a1 v.length c1, .slice a2 ss.length c2] w (RetSB Value.bool 4 w (plR v ss) (skB v ss)) := by
  obtain ⟨L, hL⟩ : ∃ L, skR v ss = L := ⟨_, rfl⟩
  obtain ⟨b, hB⟩ : ∃ b, skB v ss = b := ⟨_, rfl⟩
  have hl : L.length ≤ 32 := by rw [← hL]; exact skR_len v ss
  have HN : b = false → L = [] := by intro h; rw [← hL]; exact skR_no (hB.trans h)
  have e1 : plR v ss = L.map geB := by rw [plR, hL]
  rw [e1, hB]
  have HLL := Lib.hid hL
  have HBB := Lib.hid hB
  have HN := Lib.hid HN
  clear e1 hL hB
  go_enter Try.func14, Try.ntmps14
  go_wp2_with fail
  refine (implSk_any hv hs).mono ?_
  rintro e w1 ⟨a, c, rfl, ho, hb⟩
  rw [HLL.out] at ho
  rw [HLL.out, HBB.out]
  cases b with
  | false =>
    obtain rfl := HN.out rfl
    go_wp2
    go_ret2
    exact retSB_no hb
  | true =>
    have HO := Lib.hid ho
    have hsz := hb.size
    clear ho
    go_wp2_with fail
    go_loopw [8, 10, 22] (fun o _ i wr => ∃ (k : Nat) (a' : Option Addr) (c' : Nat) (O : List Bool), k ≤ L.length ∧ i = .int .i64 k ∧ o = .slice a' O.length c' ∧ Own Value.bool 4 wr w1.heap.size a' c' O ∧ Hid (O = (L.take k).map geB) ∧ Below w1.heap.size w1 wr) (fun _ _ i _ => L.length - (intOf i).toNat)
    case atStart => exact ⟨0, _, _, [], Nat.zero_le _, rfl, rfl, own_empty w1 _ (Nat.le_refl _) rfl, by show _ = _; rfl, (Below.refl _ _).alloc (Nat.le_refl _) _⟩
    case round =>
      obtain ⟨k, a', c', O, hk, rfl, rfl, ho, HM, hbr⟩ := hrel
      have HOO := Lib.hid ho
      have hz := hbr.size
      have hr := HO.out.rd.below hbr (Nat.le_refl _)
      clear ho
      have hOl : O.length ≤ 32 := by rw [HM.out]; simp; omega
      by_cases hlt : k < L.length
      · have hix := hr.idx und_fs siz_fs
        have hcx := hr.cell k hlt
        simp only [List.getElem?_eq_getElem hlt, Option.getD_some] at hcx
        obtain ⟨x, hx⟩ : ∃ x, L[k] = x := ⟨_, rfl⟩
        rw [hx] at hcx
        have HX := Lib.hid hx
        clear hx
        go_wp2_with (at_builtin; refine wpl_append1 (f := Value.bool) (d := false) (base := w1.heap.size) und_bse info_b (fun _ => rfl) _ HOO.out rfl _ _ rfl rfl rfl (by omega) (by omega) hz ?_; intro a3 c3 w5 ho3 hg3)
        have hb5 := hbr.trans (grown_belowOwn HOO.out hg3 (Nat.le_refl _) hz)
        go_roundw
        case rel => exact ⟨k + 1, a3, c3, _, by omega, by go_num, by rw [List.length_append]; rfl, ho3, map_snoc geB hlt HX.out HM.out, hb5⟩
        case measure => simp [intOf]; omega
      · obtain rfl : k = L.length := by omega
        go_wp2
        go_ret2
        have h := HM.out
        rw [List.take_length] at h
        rw [← h]
        exact ⟨a', c', rfl, HOO.out.mono hsz, hb.trans (hbr.mono hsz)⟩

set_option maxRecDepth 4000 in
set_option maxHeartbeats 2000000 in
theorem specPl_any {a1 a2 : Option Addr} {c1 c2 : Nat} {v : List Nat} {ss : List Int} {w : World} (hv : Rd (Value.float .f32) w a1 c1 v) (hs : Rd (Value.int .i64) w a2 c2 ss) :
    Calls Try.prog 11 #[.slice a1 v.length c1, .slice a2 ss.length c2] w (RetSB Value.bool 4 w (plR v ss) (skB v ss)) := by
  obtain ⟨L, hL⟩ : ∃ L, skR v ss = L := ⟨_, rfl⟩
  obtain ⟨b, hB⟩ : ∃ b, skB v ss = b := ⟨_, rfl⟩
  have hl : L.length ≤ 32 := by rw [← hL]; exact skR_len v ss
  have HN : b = false → L = [] := by intro h; rw [← hL]; exact skR_no (hB.trans h)
  have e1 : plR v ss = L.map geB := by rw [plR, hL]
  rw [e1, hB]
  have HLL := Lib.hid hL
  have HBB := Lib.hid hB
  have HN := Lib.hid HN
  clear e1 hL hB
  go_enter Try.func11, Try.ntmps11
  go_wp2_with fail
  refine (specSk_any hv hs).mono ?_
  rintro e w1 ⟨a, c, rfl, ho, hb⟩
  rw [HLL.out] at ho
  rw [HLL.out, HBB.out]
  cases b with
  | false =>
    obtain rfl := HN.out rfl
    go_wp2
    go_ret2
    exact retSB_no hb
  | true =>
    have HO := Lib.hid ho
    have hsz := hb.size
    clear ho
    go_wp2_with fail
    go_loopw [8, 9, 21] (fun o _ i wr => ∃ (k : Nat) (a' : Option Addr) (c' : Nat) (O : List Bool), k ≤ L.length ∧ i = .int .i64 k ∧ o = .slice a' O.length c' ∧ Own Value.bool 4 wr w1.heap.size a' c' O ∧ Hid (O = (L.take k).map geB) ∧ Below w1.heap.size w1 wr) (fun _ _ i _ => L.length - (intOf i).toNat)
    case atStart => exact ⟨0, _, _, [], Nat.zero_le _, rfl, rfl, own_empty w1 _ (Nat.le_refl _) rfl, by show _ = _; rfl, (Below.refl _ _).alloc (Nat.le_refl _) _⟩
    case round =>
      obtain ⟨k, a', c', O, hk, rfl, rfl, ho, HM, hbr⟩ := hrel
      have HOO := Lib.hid ho
      have hz := hbr.size
      have hr := HO.out.rd.below hbr (Nat.le_refl _)
      clear ho
      have hOl : O.length ≤ 32 := by rw [HM.out]; simp; omega
      by_cases hlt : k < L.length
      · have hix := hr.idx und_fs siz_fs
        have hcx := hr.cell k hlt
        simp only [List.getElem?_eq_getElem hlt, Option.getD_some] at hcx
        obtain ⟨x, hx⟩ : ∃ x, L[k] = x := ⟨_, rfl⟩
        rw [hx] at hcx
        have HX := Lib.hid hx
        clear hx
        go_wp2_with (at_builtin; refine wpl_append1 (f := Value.bool) (d := false) (base := w1.heap.size) und_bse info_b (fun _ => rfl) _ HOO.out rfl _ _ rfl rfl rfl (by omega) (by omega) hz ?_; intro a3 c3 w5 ho3 hg3)
        have hb5 := hbr.trans (grown_belowOwn HOO.out hg3 (Nat.le_refl _) hz)
        go_roundw
        case rel => exact ⟨k + 1, a3, c3, _, by omega, by go_num, by rw [List.length_append]; rfl, ho3, map_snoc geB hlt HX.out HM.out, hb5⟩
        case measure => simp [intOf]; omega
      · obtain rfl : k = L.length := by omega
        go_wp2
        go_ret2
        have h := HM.out
        rw [List.take_length] at h
        rw [← h]
        exact ⟨a', c', rfl, HOO.out.mono hsz, hb.trans (hbr.mono hsz)⟩

end Go.Proofs.Ytkmmedhgpmeniaa
