/- JournalOf in both texts. -/
import Derived.Test.YtmmpemfhbnkomaaDoorQRj17
import Derived.Test.YtmmpemfhbnkomaaDoorQRj8
import Derived.Test.YtmmpemfhbnkomaaDoorQRj14
import Derived.Deep.DrawnRows
set_option linter.unusedVariables false
set_option linter.unusedSimpArgs false
namespace Go.Proofs.YtmmpemfhbnkomaaDoor
open Go.RowKit
attribute [local go_sem ↓] Go.wp_at_zero Go.wp_at_succ

theorem noNL_ct (s : ByteArray) : noNL s = !ctB 10 s := by
  unfold noNL ctB ctI
  rw [index_one, toL_len]
  by_cases h : fIdx 10 (toL s) < s.size
  · rw [if_pos h, decide_eq_true h, decide_eq_false (by omega)]; rfl
  · rw [if_neg h, decide_eq_false h]; rfl
theorem noNL_yes {s : ByteArray} (h : ∀ j, j < s.size → byt s j ≠ 10) : noNL s = true := by
  rw [noNL_ct]
  cases hb : ctB 10 s with
  | false => rfl
  | true =>
    have h2 : ctI 10 s < s.size := of_decide_eq_true hb
    exact absurd (ctI_at h2) (h _ h2)
theorem noNL_no {s : ByteArray} {j : Nat} (hj : j < s.size) (h : byt s j = 10) : noNL s = false := by
  rw [noNL_ct]
  cases hb : ctB 10 s with
  | true => rfl
  | false =>
    have h2 : ¬ ctI 10 s < s.size := of_decide_eq_false hb
    have h3 := ctI_lt (m := 10) (l := s) (k := j) (by omega)
    exact absurd h h3.2
theorem bsT_at {L : List ByteArray} {k : Nat} (h : k < L.length) : bsT L k = L[k] := by simp [bsT, h]
theorem rd_bsT {w : World} {a : Option Addr} {c : Nat} {L : List ByteArray} (hr : Rd Value.string w a c L) {k : Nat} (h : k < L.length) : w.cell? (elt a k) = some (.string (bsT L k)) := by
  have := hr.cell k h
  simp only [List.getElem?_eq_getElem h, Option.getD_some] at this
  rw [bsT_at h]; exact this

end Go.Proofs.YtmmpemfhbnkomaaDoor
