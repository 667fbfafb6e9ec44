/- FnPicks: the samples' contracts at small keys. -/
import Derived.Test.YtncbkbfkdgggkaaDoorQPk47
import Derived.Test.YtncbkbfkdgggkaaDoorQPk42
import Derived.Test.YtncbkbfkdgggkaaDoorQPk50
set_option linter.unusedVariables false
set_option linter.unusedSimpArgs false
namespace Go.Proofs.YtncbkbfkdgggkaaDoor
open Go.RowKit

theorem sampleS_any {a : Option Addr} {c : Nat} {xs : List Int} {room s : Int} {w : World} (hr : Rd (Value.int .i64) w a c xs) (h1 : 1 ≤ xs.length) (hn : xs.length ≤ 128) (hx : Sml xs) (hs : 0 ≤ s ∧ s < 256) (hrm : 1 ≤ room ∧ room ≤ 128) :
    Calls Tryd.prog 7 #[.slice a xs.length c, .int .i64 room, .int .i64 s] w fun e w' => ∃ a' c', e = .returned (.tuple #[.slice a' (pickL (fun i => hashZ i s) xs.length room).length c', .bool true]) ∧ Own (Value.int .i64) 2 w' w.heap.size a' c' (pickL (fun i => hashZ i s) xs.length room) ∧ Below w.heap.size w w' := by
  have hb : smpB xs room s = true := by
    unfold smpB
    rw [(inR_eq _ _ _).2 ⟨by omega, by omega⟩, sml_keys hx, (inR_eq _ _ _).2 hrm, show isKey s = true from (inR_eq _ _ _).2 ⟨hs.1, by omega⟩]
    rfl
  have h := implSample_any (room := room) (salt := s) hr
  unfold smpL at h
  rw [if_pos hb, hb] at h
  exact h
theorem dstS_any {a : Option Addr} {c l : Nat} {xs : List Int} {room s : Int} {w : World} (hr : Rd (Value.int .i64) w a c xs) (hT : Tab w) (hn : xs.length ≤ 128) (hx : Sml xs) (hs : 0 ≤ s ∧ s < 256) (hrm : 1 ≤ room ∧ room ≤ 128) (L : DsOk xs room s l) :
    Calls Tryd.prog 16 #[.slice a xs.length c, .int .i64 room, .int .i64 s] w fun e w' => ∃ a' c', e = .returned (.tuple #[.int .i64 (l : Int), .slice a' (lev xs s l).length c', .bool true]) ∧ Own (Value.int .i64) 2 w' w.heap.size a' c' (lev xs s l) ∧ Below w.heap.size w w' := by
  have hb : dmpB xs room s = true := by
    unfold dmpB
    rw [decide_eq_true hn, sml_keys hx, (inR_eq _ _ _).2 hrm, show isKey s = true from (inR_eq _ _ _).2 ⟨hs.1, by omega⟩]
    rfl
  have h := implDst_any (room := room) (salt := s) hr hT
  have e1 : dmpV xs room s = (l : Int) := by unfold dmpV dstV; rw [if_pos hb, L.o]
  have e2 : dmpL xs room s = lev xs s l := by unfold dmpL dstL; rw [if_pos hb, L.o]
  have e3 : dmpK xs room s = true := by unfold dmpK dstK; rw [if_pos hb, L.o]
  rw [e1, e2, e3] at h
  exact h
theorem jnS_any {a b : Option Addr} {c d lA lB l : Nat} {xs ys : List Int} {room s : Int} {w : World} (hr : Rd (Value.int .i64) w a c (lev xs s lA)) (hr2 : Rd (Value.int .i64) w b d (lev ys s lB)) (hT : Tab w) (J : JnOk xs ys room s lA lB l) :
    Calls Tryd.prog 17 #[.int .i64 (lA : Int), .slice a (lev xs s lA).length c, .int .i64 (lB : Int), .slice b (lev ys s lB).length d, .int .i64 room, .int .i64 s] w fun e w' => ∃ a' c', e = .returned (.tuple #[.int .i64 (l : Int), .slice a' (lev (xs ++ ys) s l).length c', .bool true]) ∧ Own (Value.int .i64) 2 w' w.heap.size a' c' (lev (xs ++ ys) s l) ∧ Below w.heap.size w w' := by
  have h := implJd_any (room := room) (salt := s) (lA := (lA : Int)) (lB := (lB : Int)) hr hr2 hT
  rw [J.v, J.l, J.k] at h
  exact h

end Go.Proofs.YtncbkbfkdgggkaaDoor
