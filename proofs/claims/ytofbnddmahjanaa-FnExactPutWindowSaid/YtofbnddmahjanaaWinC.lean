/- CountWindow and BoundsOfWindow: small parts. -/
import Derived.Test.YtofbnddmahjanaaWinT
import Derived.Test.YtofbnddmahjanaaWinY
namespace Go.Proofs.Ytofbnddmahjanaa
open Go.RowKit

/-- A sum, as int64 adds. -/
def sumW (xs : List Int) : Int := xs.foldl (fun s x => wrap64 (s + x)) 0
theorem sumW_snoc {xs : List Int} {k : Nat} (h : k < xs.length) {x s : Int} (hx : xs[k] = x) (hs : sumW (xs.take k) = s) : sumW (xs.take (k + 1)) = wrap64 (s + x) := by
  unfold sumW at hs ⊢
  rw [List.take_add_one, List.foldl_append, List.getElem?_eq_getElem h, hx, hs]; rfl

set_option maxHeartbeats 800000 in
theorem l06Late_any {b : Nat} {ta sa : Option Addr} {tc sc : Nat} {ts ss : List Int} {L P t : Int} {w : World} (hw : WinAt w b 0 L P ta ts.length tc sa ss.length sc) (ht : Rd (Value.int .i64) w ta tc ts) (hs : Rd (Value.int .i64) w sa sc ss) :
    Calls Try.prog 94 #[.pointer (some ⟨b, 0, none⟩), .int .i64 t] w fun e w' => e = .returned (.bool (lateB L P ts ss t)) ∧ ∃ n, w' = w.drewN n := by
  have hln := ht.len
  have HC := Lib.hid (l06Is_any hw ht hs)
  have d2 := hw.c2
  simp only [Nat.zero_add] at d2
  have HW := Lib.hid hw
  clear hw
  cases h1 : winB L P ts ss with
  | false =>
    go_enter Try.func94, Try.ntmps94
    go_wp2_with fail
    refine HC.out.mono ?_
    rintro e w1 ⟨rfl, n, rfl⟩
    rw [h1]
    go_wp2
    go_ret
    exact ⟨ret_bool (by simp [lateB, h1]), _, rfl⟩
  | true =>
  cases h2 : inR t 0 1000000 with
  | false =>
    go_enter Try.func94, Try.ntmps94
    go_wp2_with fail
    refine HC.out.mono ?_
    rintro e w1 ⟨rfl, n, rfl⟩
    rw [h1]
    go_wp2_with fail
    refine l06Time_any.mono ?_
    rintro e w1 ⟨rfl, rfl⟩
    rw [h2]
    go_wp2
    go_ret
    exact ⟨ret_bool (by simp [lateB, h2]), _, rfl⟩
  | true =>
  by_cases h0 : ts.length = 0
  · have hd : ((ts.length : Int) == 0) = true := by simp [h0]
    have H0 := Lib.hid h0
    clear h0
    go_enter Try.func94, Try.ntmps94
    go_wp2_with fail
    refine HC.out.mono ?_
    rintro e w1 ⟨rfl, n, rfl⟩
    rw [h1]
    go_wp2_with fail
    refine l06Time_any.mono ?_
    rintro e w1 ⟨rfl, rfl⟩
    rw [h2]
    go_wp2
    go_ret
    exact ⟨ret_bool (by simp [lateB, h1, h2, lastOk, H0.out]), _, rfl⟩
  · have hd : ((ts.length : Int) == 0) = false := beq_eq_false_iff_ne.2 (by omega)
    obtain ⟨p, hp⟩ : ∃ p, at0 ts (ts.length - 1) = p := ⟨_, rfl⟩
    have hlast : ts.length - 1 < ts.length := by omega
    have hcl := at0_cell' ht hlast hp
    have hix := rd_idxAt ht und_is siz_is (ts.length - 1) hlast ((ts.length : Int) - 1) (by omega)
    have hpos : 0 < ts.length := by omega
    have HP := Lib.hid hp
    have H0 := Lib.hid h0
    clear h0 hp
    go_enter Try.func94, Try.ntmps94
    go_wp2_with fail
    refine HC.out.mono ?_
    rintro e w1 ⟨rfl, n, rfl⟩
    rw [h1]
    go_wp2_with fail
    refine l06Time_any.mono ?_
    rintro e w1 ⟨rfl, rfl⟩
    rw [h2]
    go_wp2
    go_ret
    exact ⟨ret_bool (by simp [lateB, h1, h2, lastOk, H0.out, HP.out]), _, rfl⟩

end Go.Proofs.Ytofbnddmahjanaa
