/- Sizes: the room that is left. -/
import Derived.Test.YtockifchghllhaaDoorToI
import Derived.Test.YtockifchghllhaaDoorToB
namespace Go.Proofs.YtockifchghllhaaDoor
open Go.RowKit

def room (l s : Int) : Int := if l < s then -1 else l - s
theorem room_no {l s : Int} (h : l < s) : room l s = -1 := if_pos h
theorem room_yes {l s : Int} (h : ¬ l < s) : room l s = l - s := if_neg h

theorem szI_any {a : Option Addr} {c : Nat} {xs : List Int} {l : Int} {w : World} (hr : Rd (Value.int .i64) w a c xs) (l0 : 0 ≤ l) (l1 : l ≤ 1048576) :
    Calls Tryd.prog 66 #[.slice a xs.length c, .int .i64 l] w fun e w' => e = .returned (.int .i64 (room l xs.length)) ∧ w = w' := by
  have hln := hr.len
  by_cases h : l < xs.length
  · rw [room_no h]
    go_enter Tryd.func66, Tryd.ntmps66
    go_wp2
    go_ret
    exact ⟨rfl, rfl⟩
  · rw [room_yes h]
    go_enter Tryd.func66, Tryd.ntmps66
    go_wp2
    go_ret
    exact ⟨rfl, rfl⟩

theorem szB_any {a : Option Addr} {c : Nat} {xs : List Bool} {l : Int} {w : World} (hr : Rd (Value.bool) w a c xs) (l0 : 0 ≤ l) (l1 : l ≤ 1048576) :
    Calls Tryd.prog 52 #[.slice a xs.length c, .int .i64 l] w fun e w' => e = .returned (.int .i64 (room l xs.length)) ∧ w = w' := by
  have hln := hr.len
  by_cases h : l < xs.length
  · rw [room_no h]
    go_enter Tryd.func52, Tryd.ntmps52
    go_wp2
    go_ret
    exact ⟨rfl, rfl⟩
  · rw [room_yes h]
    go_enter Tryd.func52, Tryd.ntmps52
    go_wp2
    go_ret
    exact ⟨rfl, rfl⟩

end Go.Proofs.YtockifchghllhaaDoor
