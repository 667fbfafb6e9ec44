/- slices.Grow of nothing, slices.Concat of two lists, at []int64. -/
import Derived.Test.YtncbkbfkdgggkaaDoorQPk4
import Derived.Test.YtncbkbfkdgggkaaDoorQPk2
import Derived.Lib.AppendZeros
import Derived.IntWalk
set_option linter.unusedVariables false
set_option linter.unusedSimpArgs false
namespace Go.Proofs.YtncbkbfkdgggkaaDoor
open Go.RowKit

theorem und_int : Tryd.prog.underlying 3 = some (.int .i64) := by kernel_rfl
theorem und_iis : Tryd.prog.underlying 88 = some (.slice (Tryd.prog.elem 88)) := by kernel_rfl
theorem siz_iis (w : World) : (sizeOf (Tryd.prog.elem 88)).run Tryd.prog w = .ok 1 w := by kernel_rfl

theorem own_room {α : Type} (f : α → Value) (e : TypeId) {w : World} {base g c : Nat} {cur : Array Value} (hb : base ≤ g) (h : w.heap[g]? = some (.cells cur e (0, 0))) (hc : cur.size = c) (hm : c ≤ maxLen) : Own f e w base (some ⟨g, 0, none⟩) c ([] : List α) :=
  ⟨rfl, .inr ⟨g, c, cur, rfl, hb, h, Nat.zero_le _, hm, by simpa using hc, rfl⟩⟩

theorem grow_nil_any {n : Nat} {w : World} (hn : n ≤ 1048576) :
    Calls Tryd.prog 71 #[.slice none 0 0, .int .i64 n] w fun e w' => ∃ a c, e = .returned (.slice a 0 c) ∧ Own (Value.int .i64) 2 w' w.heap.size a c ([] : List Int) ∧ Below w.heap.size w w' := by
  have ew : IntKind.i64.wrap (n : Int) = (n : Int) := IntWalk.i64_in _ (by omega)
  have hd0 : decide ((n : Int) < 0) = false := decide_eq_false (by omega)
  by_cases h0 : n = 0
  · subst h0
    go_enter Tryd.func71, Tryd.ntmps71
    go_wp2
    go_ret
    exact ⟨none, 0, rfl, own_nil _ _ _ _, Below.refl _ _⟩
  · have hp : 0 < n := by omega
    have hd : decide ((0 : Int) < (n : Int)) = true := decide_eq_true (by omega)
    have hd2 : decide ((n : Int) > 0) = true := hd
    obtain ⟨i0, hi, hz, hs, hby⟩ := info_parts (P := Tryd.prog) (e := 2) info_i
    have hr := Lib.run_append_nil_zeros (P := Tryd.prog) w 25 3 25 2 i0 (.int .i64 0) .i64 .i64 und_ise und_int hi hz n hp (by omega) (by omega) (by rw [hby]; omega)
    obtain ⟨C, hC⟩ : ∃ C, grownCap w n 0 2 = C := ⟨_, rfl⟩
    rw [hC] at hr
    have hge : n ≤ C := by rw [← hC]; exact grownCap_ge _ _ _ _
    have hle : C ≤ maxLen := by rw [← hC]; exact grownCap_le_maxLen _ _ _ _ (by unfold maxLen; omega)
    obtain ⟨cur, hcur⟩ : ∃ cur, Builtin.zeroCells (Value.int IntKind.i64 0).cells n ++ Builtin.zeroCells (Value.int IntKind.i64 0).cells (C - n) = cur := ⟨_, rfl⟩
    have hcs : cur.size = C := by rw [← hcur]; simp [Builtin.zeroCells, Value.cells]; omega
    rw [hcur] at hr
    have hs0 : ∀ w' : World, (Instr.sliceAt 25 (.slice none 0 0) none (some (.int .i64 0)) none).run Tryd.prog w' = .ok (.slice none 0 0) w' := fun w' => by
      rw [run_sliceAt_slice (h := und_is), show (0 : Int) = ((0 : Nat) : Int) from rfl, run_slice_h (ht := und_is) (h0 := by omega) (h2 := by omega), siz_is]
      simp [Result.andThen, sliced]
    have hs1 : ∀ w' : World, (Instr.sliceAt 25 (.slice (some ⟨w.heap.size, 0, none⟩) n C) none (some (.int .i64 0)) none).run Tryd.prog w' = .ok (.slice (some ⟨w.heap.size, 0, none⟩) 0 C) w' := fun w' => by
      rw [run_sliceAt_slice (h := und_is), show (0 : Int) = ((0 : Nat) : Int) from rfl, run_slice_h (ht := und_is) (h0 := by omega) (h2 := by omega), siz_is]
      simp [Result.andThen, sliced, add_elt]
    have hO : Own (Value.int .i64) 2 (w.drew.alloc (.cells cur 2)) w.heap.size (some ⟨w.heap.size, 0, none⟩) C ([] : List Int) := own_room _ _ (Nat.le_refl _) (heap_new' rfl) hcs hle
    have hB : Below w.heap.size w (w.drew.alloc (.cells cur 2)) := (below_of_drewN w 1 _).alloc (Nat.le_refl _) _
    have HO := Lib.hid (And.intro hO hB)
    clear hC hge hle hcur hcs hO hB hi hz hs hby
    go_enter Tryd.func71, Tryd.ntmps71
    go_wp2_with (at_builtin; refine Lib.wpList_append_run _ rfl _ _ _ _ rfl _ _ rfl rfl _ _ hr ?_)
    go_ret
    exact ⟨_, C, rfl, HO.out.1, HO.out.2⟩

set_option maxRecDepth 8000 in
set_option maxHeartbeats 1000000 in
/-- 'slices.Concat(a, b)'. -/
theorem concat2_any {a b : Option Addr} {c d B : Nat} {xs ys : List Int} {w : World} (hx : Rd (Value.int .i64) w a c xs) (hy : Rd (Value.int .i64) w b d ys) (hn : xs.length ≤ 1024) (hm : ys.length ≤ 1024) (hB : Blk w B #[.slice a xs.length c, .slice b ys.length d] 25) :
    Calls Tryd.prog 50 #[.slice (some ⟨B, 0, none⟩) 2 2] w (RetS (Value.int .i64) 2 w (xs ++ ys)) := by
  have hc0 := hB.cell (i := 0) (v := .slice a xs.length c) rfl
  have hc1 := hB.cell (i := 1) (v := .slice b ys.length d) rfl
  have hix : ∀ k, k < 2 → ∀ w' : World, (Instr.indexAt 88 (.slice (some ⟨B, 0, none⟩) 2 2) (.int .i64 (k : Nat))).run Tryd.prog w' = .ok (.pointer (some ⟨B, k, none⟩)) w' := fun k hk w' => by
    have := idx_run (P := Tryd.prog) (T := 88) (a := some ⟨B, 0, none⟩) (n := 2) (c := 2) und_iis siz_iis (fun _ => ⟨_, _, rfl⟩) w' k hk
    rw [elt_some, Nat.zero_add] at this
    exact this
  have hi0 : ∀ w' : World, (Instr.indexAt 88 (.slice (some ⟨B, 0, none⟩) 2 2) (.int .i64 0)).run Tryd.prog w' = .ok (.pointer (some ⟨B, 0, none⟩)) w' := hix 0 (by omega)
  have hi1 : ∀ w' : World, (Instr.indexAt 88 (.slice (some ⟨B, 0, none⟩) 2 2) (.int .i64 1)).run Tryd.prog w' = .ok (.pointer (some ⟨B, 1, none⟩)) w' := hix 1 (by omega)
  have HX := Lib.hid hx
  have HY := Lib.hid hy
  have HB := Lib.hid hB
  have ew1 : IntKind.i64.wrap ((xs.length : Int) + ys.length) = ((xs.length + ys.length : Nat) : Int) := by rw [IntWalk.i64_in _ (by omega)]; omega
  have ew2 : IntKind.i64.wrap (xs.length : Int) = (xs.length : Int) := IntWalk.i64_in _ (by omega)
  have hd1 : decide ((xs.length : Int) < 0) = false := decide_eq_false (by omega)
  have hd2 : decide (((xs.length + ys.length : Nat) : Int) < 0) = false := decide_eq_false (by omega)
  have HG := Lib.hid (grow_nil_any (n := xs.length + ys.length) (w := w) (by omega))
  clear hx hy hB hix
  go_enter Tryd.func50, Tryd.ntmps50
  go_wp2_with fail
  go_loopw [3, 5, 11] (fun s _ k wr => wr = w ∧ (k = .int .i64 0 ∧ s = .int .i64 0 ∨ k = .int .i64 1 ∧ s = .int .i64 xs.length ∨ k = .int .i64 2 ∧ s = .int .i64 ((xs.length + ys.length : Nat) : Int))) (fun _ _ k _ => 2 - (intOf k).toNat)
  case atStart => exact ⟨rfl, .inl ⟨rfl, rfl⟩⟩
  case round =>
    obtain ⟨rfl, h⟩ := hrel
    rcases h with ⟨rfl, rfl⟩ | ⟨rfl, rfl⟩ | ⟨rfl, rfl⟩
    · go_wp2
      go_roundw
      case rel => exact ⟨trivial, .inr (.inl ⟨by go_num, by go_num⟩)⟩
      case measure => simp [intOf]
    · go_wp2
      go_roundw
      case rel => exact ⟨trivial, .inr (.inr ⟨by go_num, by go_num⟩)⟩
      case measure => simp [intOf]
    · go_wp2_with fail
      refine HG.out.mono ?_
      rintro e w1 ⟨a1, c1, rfl, ho1, hb1⟩
      have HO1 := Lib.hid ho1
      have HB1 := Lib.hid hb1
      clear ho1 hb1 HG hc0 hc1
      go_wp2_with fail
      go_loopw [6, 8, 27] (fun o _ k wq => ∃ (zs : List Int) (b2 : Option Addr) (cc : Nat), o = .slice b2 zs.length cc ∧ Own (Value.int .i64) 2 wq wr.heap.size b2 cc zs ∧ Below wr.heap.size wr wq ∧ (k = .int .i64 0 ∧ zs = [] ∨ k = .int .i64 1 ∧ zs = xs ∨ k = .int .i64 2 ∧ zs = xs ++ ys)) (fun _ _ k _ => 2 - (intOf k).toNat)
      case atStart => exact ⟨[], a1, c1, rfl, HO1.out, HB1.out, .inl ⟨rfl, rfl⟩⟩
      case round =>
        clear HO1 HB1
        rename_i wv
        obtain ⟨zs, b2, cc, rfl, ho, hb, h⟩ := hrel
        have HO := Lib.hid ho
        have HQ := Lib.hid hb
        have hz := hb.size
        have hc0 := (HB.out.below hb (Nat.le_refl _)).cell (i := 0) (v := .slice a xs.length c) rfl
        have hc1 := (HB.out.below hb (Nat.le_refl _)).cell (i := 1) (v := .slice b ys.length d) rfl
        have HX1 := Lib.hid (HX.out.below hb (Nat.le_refl _))
        have HY1 := Lib.hid (HY.out.below hb (Nat.le_refl _))
        clear ho hb
        rcases h with ⟨rfl, rfl⟩ | ⟨rfl, rfl⟩ | ⟨rfl, rfl⟩
        · go_wp2_with (at_builtin; refine wpl_appendN (f := Value.int .i64) (d := 0) und_ise info_i (fun _ => rfl) HO.out HX1.out rfl _ _ rfl rfl rfl (by simp) (by omega) (by omega) hz ?_; intro a4 c4 w4 ho4 hg4)
          go_roundw
          case rel => exact ⟨xs, a4, c4, by simp, by simpa using ho4, HQ.out.trans (grown_belowOwn HO.out hg4 (Nat.le_refl _) hz), .inr (.inl ⟨by go_num, rfl⟩)⟩
          case measure => simp [intOf]
        · go_wp2_with (at_builtin; refine wpl_appendN (f := Value.int .i64) (d := 0) und_ise info_i (fun _ => rfl) HO.out HY1.out rfl _ _ rfl rfl rfl (by omega) (by omega) (by omega) hz ?_; intro a4 c4 w4 ho4 hg4)
          go_roundw
          case rel => exact ⟨zs ++ ys, a4, c4, by simp, ho4, HQ.out.trans (grown_belowOwn HO.out hg4 (Nat.le_refl _) hz), .inr (.inr ⟨by go_num, rfl⟩)⟩
          case measure => simp [intOf]
        · go_wp2
          go_ret
          exact ⟨b2, cc, rfl, HO.out, HQ.out⟩

end Go.Proofs.YtncbkbfkdgggkaaDoor
