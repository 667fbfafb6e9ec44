/- The reference's source of choices (as in XGenS, XGenX: import one of the two). -/
import Derived.Test.YtfecdmenliohhaaQFo25
import Derived.Test.YtfecdmenliohhaaQFo12
import Derived.Laws.BitsLemmas
import Derived.Lib.EndianBits
import Derived.Deep.DrawnRows
set_option linter.unusedVariables false
set_option linter.unusedSimpArgs false
namespace Go.Proofs.Ytfecdmenliohhaa
open Go.RowKit
attribute [local go_sem ↓] Go.wp_at_zero Go.wp_at_succ

theorem and255 {x : Int} (h0 : 0 ≤ x) (h1 : x < 18446744073709551616) : bits .and .u64 x 255 = x % 256 :=
  bits_mask .u64 64 (by decide) wraps_u64 8 (by decide) x h0 h1
theorem Rd.keptO {α : Type} [Inhabited α] {f : α → Value} {w w' : World} {a : Option Addr} {c : Nat} {xs : List α} {b : Nat} (h : Rd f w a c xs) (hg : w.grownBy w' (some b)) (hne : 0 < xs.length → ∀ p, a = some p → p.block ≠ b) : Rd f w' a c xs := by
  refine ⟨h.cap, h.max, h.nil, fun h0 => ?_, fun k hk => ?_⟩
  · obtain ⟨g, o, e, hlt⟩ := h.here h0; exact ⟨g, o, e, Nat.lt_of_lt_of_le hlt hg.size⟩
  · obtain ⟨g, o, e, hlt⟩ := h.here (by omega)
    have hb : w'.heap[(elt a k).block]? = w.heap[(elt a k).block]? := hg.block _ (by rw [e]; exact hlt) (by intro h2; have := hne (by omega) _ e; rw [e] at h2; simp [elt, Addr.add] at h2; exact this h2)
    rw [World.cell?_of_block hb]; exact h.cell k hk

theorem quietG {P : Program} {f : FuncId} {args : Array Value} {w : World} {n : Nat} {v : Value} (h : Calls P f args (w.drewN n) fun e w' => e = .returned v ∧ w.drewN n = w') : Calls P f args (w.drewN n) fun e w'' => e = .returned v ∧ ∃ m, w'' = w.drewN m :=
  h.mono fun _ _ ⟨he, hw⟩ => ⟨he, n, hw.symm⟩
/-- The source, of which at most k bytes were taken. -/
structure Src (w : World) (b : Nat) (a : Option Addr) (c : Nat) (xs : List Int) (k : Nat) : Prop where
  blk : ∃ (j : Nat) (sd : Int), j ≤ k ∧ Blk w b #[.slice a xs.length c, .int .i64 (j : Int), .int .u64 sd] 61
  rd : Rd (Value.int .u8) w a c xs
  off : 0 < xs.length → ∀ p, a = some p → p.block ≠ b
  byt : ∀ x ∈ xs, 0 ≤ x ∧ x < 256
section
variable {w w' : World} {b : Nat} {a : Option Addr} {c : Nat} {xs : List Int} {k : Nat}
theorem Src.mono (h : Src w b a c xs k) {k' : Nat} (hk : k ≤ k') : Src w b a c xs k' := by
  obtain ⟨j, sd, hj, hb⟩ := h.blk
  exact ⟨⟨j, sd, Nat.le_trans hj hk, hb⟩, h.rd, h.off, h.byt⟩
theorem Src.lt (h : Src w b a c xs k) : b < w.heap.size := by obtain ⟨j, sd, hj, hb⟩ := h.blk; exact hb.lt
theorem Src.kept (h : Src w b a c xs k) {row : Option Nat} (hg : w.grownBy w' row) (h1 : some b ≠ row) (h2 : 0 < xs.length → ∀ p, a = some p → some p.block ≠ row) : Src w' b a c xs k := by
  obtain ⟨j, sd, hj, hb⟩ := h.blk
  refine ⟨⟨j, sd, hj, hb.grown hg h1⟩, ?_, h.off, h.byt⟩
  cases row with
  | none => exact h.rd.below (grown_below hg) (Nat.le_refl _)
  | some g => exact h.rd.keptO hg (fun h0 p hp he => h2 h0 p hp (by rw [he]))
theorem Src.below (h : Src w b a c xs k) {B : Nat} (hb : Below B w w') (hB : w.heap.size ≤ B) : Src w' b a c xs k := by
  obtain ⟨j, sd, hj, hq⟩ := h.blk
  exact ⟨⟨j, sd, hj, hq.below hb hB⟩, h.rd.below hb hB, h.off, h.byt⟩
end
/-- What the source's steps do to the world. -/
def nxW (w : World) (b : Nat) (n : Nat) (j : Int) (sd : Int) : World := ((w.drewN n).setCell ⟨b, 1, none⟩ (.int .i64 j)).setCell ⟨b, 2, none⟩ (.int .u64 sd)
theorem belowG {w w' : World} (hb : Below w.heap.size w w') (row : Option Nat) : w.grownBy w' row := ⟨hb.os, hb.tape, hb.output, hb.size, fun k hk _ => hb.block k hk⟩
theorem nxW_grown (w : World) (b : Nat) (n : Nat) (j : Int) (sd : Int) : w.grownBy (nxW w b n j sd) (some b) := by
  unfold nxW
  refine grown_trans (belowG (below_of_drewN w n _) _) ?_
  exact grown_trans (grown_setCell _ ⟨b, 1, none⟩ _) (grown_setCell _ ⟨b, 2, none⟩ _)
theorem nxW_src {w : World} {b : Nat} {a : Option Addr} {c : Nat} {xs : List Int} {j : Nat} {sd : Int} (hb : Blk w b #[.slice a xs.length c, .int .i64 (j : Int), .int .u64 sd] 61)
    (hr : Rd (Value.int .u8) w a c xs) (ho : 0 < xs.length → ∀ p, a = some p → p.block ≠ b) (hy : ∀ x ∈ xs, 0 ≤ x ∧ x < 256) {k : Nat} (hj : j ≤ k) (n : Nat) (sd' : Int) : Src (nxW w b n ((j : Int) + 1) sd') b a c xs (k + 1) := by
  refine ⟨⟨j + 1, sd', by omega, ?_⟩, hr.keptO (nxW_grown w b n _ sd') ho, ho, hy⟩
  have := ((hb.drewN n).set 1 (.int .i64 ((j : Int) + 1))).set 2 (.int .u64 sd')
  simpa [nxW] using this

theorem nxW_fin {w w' : World} {b : Nat} {a : Option Addr} {c : Nat} {xs : List Int} {k : Nat} {j sd : Int} {n m : Nat} (e : w' = (((w.drewN n).setCell ⟨b, 1, none⟩ (.int .i64 j)).setCell ⟨b, 2, none⟩ (.int .u64 sd)).drewN m)
    (H : ∀ (n : Nat) (sd' : Int), Src (nxW w b n j sd') b a c xs k) : Src w' b a c xs k ∧ w.grownBy w' (some b) := by
  subst e
  refine ⟨(H n sd).below (below_of_drewN (nxW w b n j sd) m _) (Nat.le_refl _), ?_⟩
  exact grown_trans (nxW_grown w b n j sd) (belowG (below_of_drewN _ _ _) _)

set_option maxRecDepth 8000 in
set_option maxHeartbeats 4000000 in
theorem next_any {w : World} {b : Nat} {a : Option Addr} {c : Nat} {xs : List Int} {k : Nat} (h : Src w b a c xs k) (hk : k ≤ 1099511627776) :
    Calls Try.prog 46 #[.pointer (some ⟨b, 0, none⟩)] w fun e w' => ∃ v : Nat, e = .returned (.int .i64 (v : Int)) ∧ v < 256 ∧ Src w' b a c xs (k + 1) ∧ w.grownBy w' (some b) := by
  obtain ⟨j, sd, hj, hb⟩ := h.blk
  have hc0 := hb.cell (i := 0) (v := .slice a xs.length c) rfl
  have hc1 := hb.cell (i := 1) (v := .int .i64 (j : Int)) rfl
  have hc2 := hb.cell (i := 2) (v := .int .u64 sd) rfl
  have hf0 := hb.free 0
  have hf1 := hb.free 1
  have hf2 := hb.free 2
  have hln := h.rd.len
  have hsz := hb.lt
  have HB := Lib.hid hb
  have H := Lib.hid h
  clear hb
  by_cases hd : j < xs.length
  · have z1 : (j : Int) < (xs.length : Int) := by omega
    have z2 : (j : Int) + 1 ≤ (xs.length : Int) := by omega
    have hix := h.rd.idx und_y siz_y
    have hcx := h.rd.cell j hd
    simp only [List.getElem?_eq_getElem hd, Option.getD_some] at hcx
    have hx := h.byt xs[j] (List.getElem_mem hd)
    generalize xs[j] = x at hcx hx
    obtain ⟨v, rfl⟩ : ∃ v : Nat, x = (v : Int) := ⟨x.toNat, by omega⟩
    have ew : IntKind.i64.wrap (v : Int) = (v : Int) := IntWalk.i64_in _ (by omega)
    have ew1 : IntKind.i64.wrap ((j : Int) + 1) = (j : Int) + 1 := IntWalk.i64_in _ (by omega)
    have H2 : Hid (∀ (n : Nat) (sd' : Int), Src (nxW w b n ((j : Int) + 1) sd') b a c xs (k + 1)) := Lib.hid fun n sd' => nxW_src HB.out h.rd h.off h.byt hj n sd'
    clear h
    go_enter Try.func46, Try.ntmps46
    go_wp2_with fail
    go_quiet (fail)
    go_wp2_with fail
    go_quiet (fail)
    go_wp2_with fail
    go_quiet (fail)
    go_wp2
    go_ret
    refine ⟨v, rfl, by omega, ?_⟩
    exact nxW_fin rfl H2.out
  · have z1 : ¬ (j : Int) < (xs.length : Int) := by omega
    have z2 : ¬ (j : Int) + 1 ≤ (xs.length : Int) := by omega
    have ew1 : IntKind.i64.wrap ((j : Int) + 1) = (j : Int) + 1 := IntWalk.i64_in _ (by omega)
    have H2 : Hid (∀ (n : Nat) (sd' : Int), Src (nxW w b n ((j : Int) + 1) sd') b a c xs (k + 1)) := Lib.hid fun n sd' => nxW_src HB.out h.rd h.off h.byt hj n sd'
    clear h
    go_enter Try.func46, Try.ntmps46
    go_wp2_with fail
    go_quiet (fail)
    go_wp2_with fail
    have hS := wrap_u64_bd (IntKind.u64.wrap (IntKind.u64.wrap (sd * 6364136223846793005)) + 1442695040888963407)
    generalize IntKind.u64.wrap (IntKind.u64.wrap (IntKind.u64.wrap (sd * 6364136223846793005)) + 1442695040888963407) = S at hS ⊢
    obtain ⟨v, hv⟩ : ∃ v : Nat, S / 1099511627776 % 256 = (v : Int) := ⟨(S / 1099511627776 % 256).toNat, by omega⟩
    have hv2 : v < 256 := by omega
    have hva : bits .and .u64 (S / 1099511627776) 255 = (v : Int) := by rw [and255 (by omega) (by omega), hv]
    have ew2 : IntKind.i64.wrap (v : Int) = (v : Int) := IntWalk.i64_in _ (by omega)
    clear hv hS
    go_quiet (fail)
    go_wp2
    go_ret
    refine ⟨v, rfl, hv2, ?_⟩
    exact nxW_fin rfl H2.out

set_option maxHeartbeats 1000000 in
theorem pick_any {w : World} {b : Nat} {a : Option Addr} {c : Nat} {xs : List Int} {k n : Nat} (h : Src w b a c xs k) (hk : k ≤ 1099511627776) (hn : 1 ≤ n) (hn2 : n ≤ 200) :
    Calls Try.prog 27 #[.pointer (some ⟨b, 0, none⟩), .int .i64 (n : Int)] w fun e w' => ∃ v : Nat, e = .returned (.int .i64 (v : Int)) ∧ v < n ∧ Src w' b a c xs (k + 1) ∧ w.grownBy w' (some b) := by
  by_cases h1 : n ≤ 1
  · have z1 : (n : Int) ≤ 1 := by omega
    have H : Hid (Src w b a c xs (k + 1) ∧ w.grownBy w (some b)) := Lib.hid ⟨h.mono (by omega), World.grownBy.refl _ _⟩
    go_enter Try.func27, Try.ntmps27
    go_wp2
    go_ret
    exact ⟨0, rfl, by omega, H.out⟩
  · have z1 : ¬ (n : Int) ≤ 1 := by omega
    have z2 : ¬ (200 : Int) < (n : Int) := by omega
    have hn0 : ¬ (n : Int) = 0 := by omega
    have hn00 : ((n : Int) == 0) = false := by simp; omega
    have H := Lib.hid h
    clear h
    go_enter Try.func27, Try.ntmps27
    go_wp2_with fail
    refine (next_any H.out hk).mono ?_
    rintro e w1 ⟨v, rfl, hv, hs⟩
    have HS := Lib.hid hs
    clear hs
    obtain ⟨u, hu⟩ : ∃ u : Nat, (v : Int).tmod (n : Int) = (u : Int) := ⟨((v : Int).tmod (n : Int)).toNat, by have := Int.tmod_nonneg (n : Int) (show (0 : Int) ≤ (v : Int) by omega); omega⟩
    have hun : u < n := by have := Int.tmod_lt_of_pos (v : Int) (show (0 : Int) < (n : Int) by omega); omega
    have ewu : IntKind.i64.wrap (u : Int) = (u : Int) := IntWalk.i64_in _ (by omega)
    go_wp2
    go_ret
    exact ⟨u, ret_int (by first | rfl | exact hu), hun, HS.out⟩
theorem l00From_any {w : World} {a : Option Addr} {c n : Nat} :
    Calls Try.prog 26 #[.slice a n c] w fun e w' => e = .returned (.pointer (some ⟨w.heap.size, 0, none⟩)) ∧ w.alloc (.cells #[.slice a n c, .int .i64 0, .int .u64 0] 61) = w' := by
  go_enter Try.func26, Try.ntmps26
  go_wp2
  go_ret
  exact ⟨rfl, rfl⟩
theorem src_new {w : World} {a : Option Addr} {c : Nat} {xs : List Int} (hr : Rd (Value.int .u8) w a c xs) (hb : ∀ x ∈ xs, 0 ≤ x ∧ x < 256) :
    Src (w.alloc (.cells #[.slice a xs.length c, .int .i64 0, .int .u64 0] 61)) w.heap.size a c xs 0 :=
  ⟨⟨0, 0, Nat.le_refl _, Blk.new _ _ _⟩, hr.below ((Below.refl w.heap.size w).alloc (Nat.le_refl _) _) (Nat.le_refl _), fun h0 p hp => by obtain ⟨g, o, e, hlt⟩ := hr.here h0; rw [e] at hp; simp at hp; subst hp; show g ≠ _; omega, hb⟩
end Go.Proofs.Ytfecdmenliohhaa
