/- What a window keeps, in the program's text. -/
import Derived.Test.YtofbnddmahjanaaWinV
import Derived.Test.YtofbnddmahjanaaCloneI
import Derived.Test.YtofbnddmahjanaaCalm
namespace Go.Proofs.Ytofbnddmahjanaa
open Go.RowKit

theorem bcell {W w1 : World} (hb : Below W.heap.size W w1) : (∀ b o, b < W.heap.size → w1.cell? ⟨b, o, none⟩ = W.cell? ⟨b, o, none⟩) ∧ (∀ b o, b < W.heap.size → w1.frozen? ⟨b, o, none⟩ = W.frozen? ⟨b, o, none⟩) :=
  ⟨fun b o h => hb.cell (p := ⟨b, o, none⟩) h, fun b o h => hb.frozen (p := ⟨b, o, none⟩) h⟩

def lastOk (ts : List Int) (t : Int) : Bool := ts.length == 0 || decide (at0 ts (ts.length - 1) ≤ t)
def lateB (L P : Int) (ts ss : List Int) (t : Int) : Bool := winB L P ts ss && inR t 0 1000000 && lastOk ts t

/-- The three variables of 'kept' have been made. -/
def keptW (w : World) (L P : Int) (ta : Option Addr) (tl tc : Nat) (sa : Option Addr) (sl sc : Nat) (t : Int) : World :=
  ((w.alloc (.cells #[.int .i64 L, .int .i64 P, .slice ta tl tc, .slice sa sl sc] 53)).alloc (.cells #[.int .i64 t] 2)).alloc (.cells #[.int .i64 0, .int .i64 0, .slice none 0 0, .slice none 0 0] 53)
structure KeptW (w W : World) (L P : Int) (ta : Option Addr) (tl tc : Nat) (sa : Option Addr) (sl sc : Nat) (t : Int) : Prop where
  c0 : W.cell? ⟨w.heap.size, 0, none⟩ = some (.int .i64 L)
  c1 : W.cell? ⟨w.heap.size, 1, none⟩ = some (.int .i64 P)
  c2 : W.cell? ⟨w.heap.size, 2, none⟩ = some (.slice ta tl tc)
  c3 : W.cell? ⟨w.heap.size, 3, none⟩ = some (.slice sa sl sc)
  ct : W.cell? ⟨w.heap.size + 1, 0, none⟩ = some (.int .i64 t)
  r0 : W.cell? ⟨w.heap.size + 1 + 1, 0, none⟩ = some (.int .i64 0)
  r1 : W.cell? ⟨w.heap.size + 1 + 1, 1, none⟩ = some (.int .i64 0)
  r2 : W.cell? ⟨w.heap.size + 1 + 1, 2, none⟩ = some (.slice none 0 0)
  r3 : W.cell? ⟨w.heap.size + 1 + 1, 3, none⟩ = some (.slice none 0 0)
  f0 : ∀ o, W.frozen? ⟨w.heap.size + 1 + 1, o, none⟩ = false
  z : w.heap.size + 3 ≤ W.heap.size
  B : Below w.heap.size w W
theorem keptW_is (w : World) (L P : Int) (ta : Option Addr) (tl tc : Nat) (sa : Option Addr) (sl sc : Nat) (t : Int) : KeptW w (keptW w L P ta tl tc sa sl sc t) L P ta tl tc sa sl sc t := by
  unfold keptW
  refine ⟨?_, ?_, ?_, ?_, ?_, ?_, ?_, ?_, ?_, ?_, by simp, (((Below.refl _ _).alloc (Nat.le_refl _) _).alloc (by simp) _).alloc (by simp; omega) _⟩
  case refine_10 => intro o; simp [go_sem]
  all_goals simp [go_sem]
theorem KeptW.below {w W W' : World} {L P : Int} {ta : Option Addr} {tl tc : Nat} {sa : Option Addr} {sl sc : Nat} {t : Int} (h : KeptW w W L P ta tl tc sa sl sc t) (hb : Below W.heap.size W W') : KeptW w W' L P ta tl tc sa sl sc t := by
  have hz := h.z
  have hc := fun b o (hl : b < W.heap.size) => hb.cell (p := ⟨b, o, none⟩) hl
  have hf := fun b o (hl : b < W.heap.size) => hb.frozen (p := ⟨b, o, none⟩) hl
  refine ⟨?_, ?_, ?_, ?_, ?_, ?_, ?_, ?_, ?_, fun o => ?_, Nat.le_trans hz hb.size, h.B.trans (hb.mono h.B.size)⟩
  · rw [hc _ _ (by omega)]; exact h.c0
  · rw [hc _ _ (by omega)]; exact h.c1
  · rw [hc _ _ (by omega)]; exact h.c2
  · rw [hc _ _ (by omega)]; exact h.c3
  · rw [hc _ _ (by omega)]; exact h.ct
  · rw [hc _ _ (by omega)]; exact h.r0
  · rw [hc _ _ (by omega)]; exact h.r1
  · rw [hc _ _ (by omega)]; exact h.r2
  · rw [hc _ _ (by omega)]; exact h.r3
  · rw [hf _ _ (by omega)]; exact h.f0 o

set_option maxRecDepth 4000 in
set_option maxHeartbeats 2000000 in
theorem kept_no {ta sa : Option Addr} {tc sc : Nat} {ts ss : List Int} {L P t : Int} {w : World} (ht : Rd (Value.int .i64) w ta tc ts) (hs : Rd (Value.int .i64) w sa sc ss) (h : lateB L P ts ss t = false) :
    Calls Try.prog 97 #[winV L P ta ts.length tc sa ss.length sc, .int .i64 t] w fun e w' => e = .returned (.tuple #[winV 0 0 none 0 0 none 0 0, .bool false]) ∧ Below w.heap.size w w' := by
  have hlt := ht.len
  have hls := hs.len
  have HK := Lib.hid (keptW_is w L P ta ts.length tc sa ss.length sc t)
  unfold keptW at HK
  cases h1 : winB L P ts ss with
  | false =>
    go_enter Try.func97, Try.ntmps97
    go_wp2_with fail
    generalize ((w.alloc (.cells #[.int .i64 L, .int .i64 P, .slice ta ts.length tc, .slice sa ss.length sc] 53)).alloc (.cells #[.int .i64 t] 2)).alloc (.cells #[.int .i64 0, .int .i64 0, .slice none 0 0, .slice none 0 0] 53) = W at HK ⊢
    obtain ⟨ι, hne, G, hG, hS⟩ := calm_family W
    have HKG := Lib.hid (fun i => HK.out.below (hG i))
    have c0 := fun i => (HKG.out i).c0
    have c1 := fun i => (HKG.out i).c1
    have c2 := fun i => (HKG.out i).c2
    have c3 := fun i => (HKG.out i).c3
    have ct := fun i => (HKG.out i).ct
    have HT := Lib.hid (fun i => ht.below (HKG.out i).B (Nat.le_refl _))
    have HS := Lib.hid (fun i => hs.below (HKG.out i).B (Nat.le_refl _))
    have HG := Lib.hid hG
    have HSU := Lib.hid hS
    clear hG hS
    refine wp_region_calm (G := G) (by kernel_rfl) (by kernel_rfl) HSU.out ?_
    repeat (go_big_quiet_step ((first | (go_at_call 100; exact calm_call HG.out HSU.out (validWindow_any (HT.out _) (HS.out _))) | (go_at_call 121; exact calm_same isTime_any))))
    refine wpQuiet_nil ?_
    intro _ hw'
    obtain ⟨i, hw''⟩ := hw'
    subst hw''
    have K2 := HKG.out i
    have r0 := K2.r0
    have r1 := K2.r1
    have r2 := K2.r2
    have r3 := K2.r3
    have f0 := K2.f0 0
    have f1 := K2.f0 1
    have f2 := K2.f0 2
    have f3 := K2.f0 3
    have HB := Lib.hid K2.B
    clear c0 c1 c2 c3 ct K2
    generalize G i = W2 at r0 r1 r2 r3 f0 f1 f2 f3 HB ⊢
    go_wp2
    exact bodyPost_ret (v := .tuple #[winV 0 0 none 0 0 none 0 0, .bool false]) (by simp [results, Try.results97, go_sem, r0, r1, r2, r3]) rfl ⟨rfl, (((HB.out.setCell (by simp; omega) _).setCell (by simp; omega) _).setCell (by simp; omega) _).setCell (by simp; omega) _⟩
  | true =>
  cases h2 : inR t 0 1000000 with
  | false =>
    go_enter Try.func97, Try.ntmps97
    go_wp2_with fail
    generalize ((w.alloc (.cells #[.int .i64 L, .int .i64 P, .slice ta ts.length tc, .slice sa ss.length sc] 53)).alloc (.cells #[.int .i64 t] 2)).alloc (.cells #[.int .i64 0, .int .i64 0, .slice none 0 0, .slice none 0 0] 53) = W at HK ⊢
    obtain ⟨ι, hne, G, hG, hS⟩ := calm_family W
    have HKG := Lib.hid (fun i => HK.out.below (hG i))
    have c0 := fun i => (HKG.out i).c0
    have c1 := fun i => (HKG.out i).c1
    have c2 := fun i => (HKG.out i).c2
    have c3 := fun i => (HKG.out i).c3
    have ct := fun i => (HKG.out i).ct
    have HT := Lib.hid (fun i => ht.below (HKG.out i).B (Nat.le_refl _))
    have HS := Lib.hid (fun i => hs.below (HKG.out i).B (Nat.le_refl _))
    have HG := Lib.hid hG
    have HSU := Lib.hid hS
    clear hG hS
    refine wp_region_calm (G := G) (by kernel_rfl) (by kernel_rfl) HSU.out ?_
    repeat (go_big_quiet_step ((first | (go_at_call 100; exact calm_call HG.out HSU.out (validWindow_any (HT.out _) (HS.out _))) | (go_at_call 121; exact calm_same isTime_any))))
    refine wpQuiet_nil ?_
    intro _ hw'
    obtain ⟨i, hw''⟩ := hw'
    subst hw''
    have K2 := HKG.out i
    have r0 := K2.r0
    have r1 := K2.r1
    have r2 := K2.r2
    have r3 := K2.r3
    have f0 := K2.f0 0
    have f1 := K2.f0 1
    have f2 := K2.f0 2
    have f3 := K2.f0 3
    have HB := Lib.hid K2.B
    clear c0 c1 c2 c3 ct K2
    generalize G i = W2 at r0 r1 r2 r3 f0 f1 f2 f3 HB ⊢
    go_wp2
    exact bodyPost_ret (v := .tuple #[winV 0 0 none 0 0 none 0 0, .bool false]) (by simp [results, Try.results97, go_sem, r0, r1, r2, r3]) rfl ⟨rfl, (((HB.out.setCell (by simp; omega) _).setCell (by simp; omega) _).setCell (by simp; omega) _).setCell (by simp; omega) _⟩
  | true =>
    by_cases h0 : ts.length = 0
    · exfalso
      simp [lateB, h1, h2, lastOk, h0] at h
    · obtain ⟨p, hp⟩ : ∃ p, at0 ts (ts.length - 1) = p := ⟨_, rfl⟩
      have hlt2 : t < p := by
        simp [lateB, h1, h2, lastOk, h0, hp] at h
        exact h
      have hpos : (0 : Int) < (ts.length : Int) := by omega
      have hposn : 0 < ts.length := by omega
      have hposd : decide (0 < ts.length) = true := by simp; omega
      have hlast : ts.length - 1 < ts.length := by omega
      clear h h0
      go_enter Try.func97, Try.ntmps97
      go_wp2_with fail
      generalize ((w.alloc (.cells #[.int .i64 L, .int .i64 P, .slice ta ts.length tc, .slice sa ss.length sc] 53)).alloc (.cells #[.int .i64 t] 2)).alloc (.cells #[.int .i64 0, .int .i64 0, .slice none 0 0, .slice none 0 0] 53) = W at HK ⊢
      obtain ⟨ι, hne, G, hG, hS⟩ := calm_family W
      have HKG := Lib.hid (fun i => HK.out.below (hG i))
      have c0 := fun i => (HKG.out i).c0
      have c1 := fun i => (HKG.out i).c1
      have c2 := fun i => (HKG.out i).c2
      have c3 := fun i => (HKG.out i).c3
      have ct := fun i => (HKG.out i).ct
      have HT := Lib.hid (fun i => ht.below (HKG.out i).B (Nat.le_refl _))
      have HS := Lib.hid (fun i => hs.below (HKG.out i).B (Nat.le_refl _))
      have HG := Lib.hid hG
      have HSU := Lib.hid hS
      clear hG hS
      have hcl := fun i => at0_cell (HT.out i) hlast hp
      have hix := rd_idxAt ht und_is siz_is (ts.length - 1) hlast ((ts.length : Int) - 1) (by omega)
      have ew : IntKind.i64.wrap ((ts.length : Int) - 1) = (ts.length : Int) - 1 := IntWalk.i64_in _ (by omega)
      clear hp
      refine wp_region_calm (G := G) (by kernel_rfl) (by kernel_rfl) HSU.out ?_
      repeat (go_big_quiet_step ((first | (go_at_call 100; exact calm_call HG.out HSU.out (validWindow_any (HT.out _) (HS.out _))) | (go_at_call 121; exact calm_same isTime_any))))
      refine wpQuiet_nil ?_
      intro _ hw'
      obtain ⟨i, hw''⟩ := hw'
      subst hw''
      clear hcl hix ew
      have K2 := HKG.out i
      have r0 := K2.r0
      have r1 := K2.r1
      have r2 := K2.r2
      have r3 := K2.r3
      have f0 := K2.f0 0
      have f1 := K2.f0 1
      have f2 := K2.f0 2
      have f3 := K2.f0 3
      have HB := Lib.hid K2.B
      clear c0 c1 c2 c3 ct K2
      generalize G i = W2 at r0 r1 r2 r3 f0 f1 f2 f3 HB ⊢
      go_wp2
      exact bodyPost_ret (v := .tuple #[winV 0 0 none 0 0 none 0 0, .bool false]) (by simp [results, Try.results97, go_sem, r0, r1, r2, r3]) rfl ⟨rfl, (((HB.out.setCell (by simp; omega) _).setCell (by simp; omega) _).setCell (by simp; omega) _).setCell (by simp; omega) _⟩

end Go.Proofs.Ytofbnddmahjanaa
