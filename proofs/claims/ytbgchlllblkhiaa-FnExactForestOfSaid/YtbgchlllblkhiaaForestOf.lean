/- ForestOf, both texts. -/
import Derived.Test.YtbgchlllblkhiaaForestI
import Derived.Test.YtbgchlllblkhiaaEdgesS
namespace Go.Proofs.Ytbgchlllblkhiaa
open Go.RowKit

def forestR (n : Int) (xs : List Int) : List Int := if edgesB n xs then (forestK xs n.toNat (xs.length / 2)).2 else []
def forestN (n : Int) (xs : List Int) : Int := if edgesB n xs then n - ((forestR n xs).length : Int) else 0

theorem retSIB_no {w w' : World} (hb : Below w.heap.size w w') : RetSIB w [] 0 false (.returned (.tuple #[.slice none 0 0, .int .i64 0, .bool false])) w' := ⟨none, 0, rfl, own_nil _ _ _ _, hb⟩

theorem implForest_any {a1 : Option Addr} {c1 : Nat} {xs : List Int} {n : Int} {w : World} (hr : Rd (Value.int .i64) w a1 c1 xs) :
    Calls Try.prog 22 #[.int .i64 n, .slice a1 xs.length c1] w (RetSIB w (forestR n xs) (forestN n xs) (edgesB n xs)) := by
  cases he : edgesB n xs with
  | false =>
    have e1 : forestR n xs = [] := by simp [forestR, he]
    have e2 : forestN n xs = 0 := by simp [forestN, he]
    rw [e1, e2]
    clear e1 e2
    go_enter Try.func22, Try.ntmps22
    go_wp2_with fail
    refine (areEdges_any hr).mono ?_
    rintro e w1 ⟨rfl, hb1⟩
    go_wp2
    go_ret3
    exact retSIB_no hb1
  | true =>
    obtain ⟨hn1, _⟩ := edges_bd he
    obtain ⟨N, rfl⟩ : ∃ N : Nat, n = (N : Int) := ⟨n.toNat, by omega⟩
    have := implForest_yes hr he
    simpa [forestN, forestR, he] using this

theorem specForest_any {a1 : Option Addr} {c1 : Nat} {xs : List Int} {n : Int} {w : World} (hr : Rd (Value.int .i64) w a1 c1 xs) :
    Calls Try.prog 20 #[.int .i64 n, .slice a1 xs.length c1] w (RetSIB w (forestR n xs) (forestN n xs) (edgesB n xs)) := by
  cases he : edgesB n xs with
  | false =>
    have e1 : forestR n xs = [] := by simp [forestR, he]
    have e2 : forestN n xs = 0 := by simp [forestN, he]
    rw [e1, e2]
    clear e1 e2
    go_enter Try.func20, Try.ntmps20
    go_wp2_with fail
    refine (l07Edges_any hr).mono ?_
    rintro e w1 ⟨rfl, hb1⟩
    go_wp2
    go_ret3
    exact retSIB_no hb1
  | true =>
    obtain ⟨hn1, _⟩ := edges_bd he
    obtain ⟨N, rfl⟩ : ∃ N : Nat, n = (N : Int) := ⟨n.toNat, by omega⟩
    have e1 : forestR (N : Int) xs = (forestK xs N (xs.length / 2)).2 := by simp [forestR, he]
    have e2 : forestN (N : Int) xs = (N : Int) - ((forestK xs N (xs.length / 2)).2.length : Int) := by simp [forestN, he, e1]
    rw [e1, e2]
    have H := Lib.hid he
    clear e1 e2 hn1
    go_enter Try.func20, Try.ntmps20
    go_wp2_with fail
    refine (l07Edges_any hr).mono ?_
    rintro e w1 ⟨rfl, hb1⟩
    go_wp2_with fail
    refine (l07Forest_any (hr.below hb1 (Nat.le_refl _)) H.out).mono ?_
    rintro e w2 ⟨a, c, rfl, ho, hb2⟩
    go_wp2
    go_ret3
    exact ⟨a, c, rfl, ho.mono hb1.size, hb1.trans (hb2.mono hb1.size)⟩

theorem forestR_len (n : Int) (xs : List Int) : (forestR n xs).length ≤ 64 := by
  unfold forestR
  split
  · rename_i h
    have h1 := (forestK_len xs n.toNat (xs.length / 2)).2
    obtain ⟨_, _, _, h2, _⟩ := edges_bd h
    omega
  · simp

end Go.Proofs.Ytbgchlllblkhiaa
