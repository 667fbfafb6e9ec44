/- OrderByHash in the reference's text. -/
import Derived.Test.YtihbckoldblpcaaTagL
import Derived.Test.YtihbckoldblpcaaKeys
import Derived.Test.YtihbckoldblpcaaSorted
import Derived.Test.YtihbckoldblpcaaHash
import Derived.Test.YtihbckoldblpcaaWinI
namespace Go.Proofs.Ytihbckoldblpcaa
open Go.RowKit

/-- The hashes of all keys. -/
def rowL (xs : List Int) (s : Int) : List Int := xs.map fun x => hashZ x s
theorem rowL_len (xs : List Int) (s : Int) : (rowL xs s).length = xs.length := by simp [rowL]
theorem rowL_at {xs : List Int} {s : Int} {i : Nat} (h : i < xs.length) : at0 (rowL xs s) i = hashZ (at0 xs i) s := by simp [at0, rowL, h]

set_option maxRecDepth 8000 in
set_option maxHeartbeats 2000000 in
theorem l02Row_any {a : Option Addr} {c : Nat} {xs : List Int} {s : Int} {w : World} (hr : Rd (Value.int .i64) w a c xs) (hn : xs.length ≤ 1048576) (hk : keysB xs = true) (hs : 0 ≤ s ∧ s < 4294967296) :
    Calls Try.prog 135 #[.slice a xs.length c, .int .i64 s] w (RetS (Value.int .i64) 2 w (rowL xs s)) := by
  have HE := Lib.hid (own_empty (f := Value.int .i64) (e := 2) (α := Int) w (by_ := 0) w.heap.size (Nat.le_refl _) rfl)
  have HB1 := Lib.hid ((Below.refl w.heap.size w).alloc (Nat.le_refl _) (.cells #[] 2))
  have HR := Lib.hid hr
  have HK := Lib.hid hk
  have HS := Lib.hid hs
  clear hr hk hs
  go_enter Try.func135, Try.ntmps135
  go_wp2_with fail
  go_loopw [5, 6] (fun o i wr => ∃ (k : Nat) (b : Option Addr) (cc : Nat), k ≤ xs.length ∧ i = .int .i64 k ∧ o = .slice b k cc ∧ Hid (Own (Value.int .i64) 2 wr w.heap.size b cc (rowL (xs.take k) s)) ∧ Hid (Below w.heap.size w wr)) (fun _ i _ => xs.length - (intOf i).toNat)
  case atStart => exact ⟨0, _, _, Nat.zero_le _, rfl, rfl, HE, HB1⟩
  case round =>
    obtain ⟨k, b, cc, hk, rfl, rfl, HO, HB⟩ := hrel
    by_cases hlt : k < xs.length
    · have hltz : (k : Int) < (xs.length : Int) := by omega
      have ewk : IntKind.i64.wrap ((k : Int) + 1) = (k : Int) + 1 := IntWalk.i64_in _ (by omega)
      have hzw := HB.out.size
      have hrw := HR.out.below HB.out (Nat.le_refl _)
      have hix := rd_idxAt hrw und_is siz_is k hlt (k : Int) rfl
      obtain ⟨x, hx⟩ : ∃ x, at0 xs k = x := ⟨_, rfl⟩
      have hcx := at0_cell hrw hlt hx
      have hxk : 0 ≤ x ∧ x < 4294967296 := by have := keysB_get HK.out k hlt; rw [← hx]; simpa [at0, hlt] using this
      have HXK := Lib.hid hxk
      have hsu : rowL (xs.take (k + 1)) s = rowL (xs.take k) s ++ [hashZ x s] := by
        unfold rowL
        rw [List.take_add_one, List.map_append]
        have : xs[k]? = some x := by rw [← hx]; simp [at0, hlt]
        rw [this]; rfl
      have hlk : (rowL (xs.take k) s).length = k := by rw [rowL_len, List.length_take]; omega
      obtain ⟨vs, hvs⟩ : ∃ vs, rowL (xs.take k) s = vs := ⟨_, rfl⟩
      rw [hvs] at hlk HO hsu
      have HSU := Lib.hid hsu
      obtain ⟨wi, rfl⟩ : ∃ wi : World, wi = wr := ⟨_, rfl⟩
      clear hvs hsu hrw hx hxk
      subst hlk
      go_wp2_with fail
      refine (l02Hash_any HXK.out.1 HXK.out.2 HS.out.1 HS.out.2).mono ?_
      rintro e w1 ⟨rfl, rfl⟩
      obtain ⟨hv, hhv⟩ : ∃ hv, hashZ x s = hv := ⟨_, rfl⟩
      rw [hhv] at HSU ⊢
      clear hhv
      go_wp2_with (at_builtin; refine wpl_append1 (f := Value.int .i64) (d := 0) (base := w.heap.size) und_ise info_i (fun _ => rfl) hv HO.out rfl _ _ rfl rfl rfl (by omega) (by omega) hzw ?_; intro a4 c4 w4 ho4 hg4)
      go_roundw
      case rel => exact ⟨vs.length + 1, a4, c4, by omega, by go_num, by simp, Lib.hid (ho4.cast HSU.out.symm), Lib.hid (HB.out.trans (grown_belowOwn HO.out hg4 (Nat.le_refl _) hzw))⟩
      case measure => simp [intOf]; omega
    · have hltz : ¬ (k : Int) < (xs.length : Int) := by omega
      obtain rfl : k = xs.length := by omega
      rw [List.take_length] at HO
      have hl := rowL_len xs s
      have HL := Lib.hid hl
      clear hl
      go_wp2
      go_ret
      exact ⟨b, cc, by rw [HL.out]; rfl, HO.out, HB.out⟩

end Go.Proofs.Ytihbckoldblpcaa
