/- The laws' helpers on lists of texts. -/
import Derived.Test.YtockifchghllhaaDoorRdL
import Derived.Test.YtockifchghllhaaDoorByt
import Derived.Test.YtockifchghllhaaDoorRows
namespace Go.Proofs.YtockifchghllhaaDoor
open Go.RowKit

theorem info_ss0 : (Tryd.prog.info? 9).map (fun i => (i.zero, i.size, i.bytes)) = some (some (.string ByteArray.empty), 1, 16) := by kernel_rfl

def bsz (L : List ByteArray) (k : Nat) : Nat := (L[k]?.getD ⟨#[]⟩).size
set_option maxHeartbeats 1000000 in
/-- The room that texts leave: if some is left, none of them is long, and they are few. -/
theorem szS_any {a : Option Addr} {c : Nat} {L : List ByteArray} {w : World} (hr : Rd Value.string w a c L) (hm : ∀ x ∈ L, x.size ≤ 9223372036854775807) :
    Calls Tryd.prog 19 #[.slice a L.length c, .int .i64 1048576] w fun e w' => (∃ r : Int, e = .returned (.int .i64 r) ∧ (0 ≤ r → L.length ≤ 1048576 ∧ ∀ x ∈ L, x.size ≤ 1048576)) ∧ w = w' := by
  have hln := hr.len
  have HM := Lib.hid hm
  clear hm
  by_cases hl : L.length ≤ 1048576
  · have e0 : IntKind.i64.wrap (1048576 - (L.length : Int)) = 1048576 - (L.length : Int) := IntWalk.i64_in _ (by omega)
    have hd0 : decide ((1048576 - (L.length : Int)) < 0) = false := decide_eq_false (by omega)
    have h00 : 0 ≤ 1048576 - (L.length : Int) ∧ 1048576 - (L.length : Int) ≤ 1048576 := by omega
    have HL := Lib.hid hl
    clear hl
    go_enter Tryd.func19, Tryd.ntmps19
    go_wp2
    go_loopw [1, 5] (fun li vi wr => ∃ (k : Nat) (s : Int), vi = .int .i64 k ∧ k ≤ L.length ∧ li = .int .i64 s ∧ 0 ≤ s ∧ s ≤ 1048576 ∧ Hid (w = wr) ∧ Hid (∀ x ∈ L.take k, x.size ≤ 1048576)) (fun _ vi _ => L.length - (intOf vi).toNat)
    case atStart => exact ⟨0, 1048576 - (L.length : Int), rfl, Nat.zero_le _, rfl, h00.1, h00.2, Lib.hid rfl, Lib.hid (by simp)⟩
    case round =>
      clear h00 e0 hd0
      obtain ⟨k, s, rfl, hk, rfl, h0, h1, HW, HA⟩ := hrel
      obtain rfl := HW.out
      clear HW
      by_cases hlt : k < L.length
      · have hltz : (k : Int) < (L.length : Int) := by omega
        have ewk : IntKind.i64.wrap ((k : Int) + 1) = (k : Int) + 1 := IntWalk.i64_in _ (by omega)
        have hix := hr.idx und_ss siz_ss
        have hcx := hr.cell k hlt
        simp only [List.getElem?_eq_getElem hlt, Option.getD_some] at hcx
        have hxm := HM.out _ (List.getElem_mem hlt)
        have HA1 : Hid (L[k].size ≤ 1048576 → ∀ x ∈ L.take (k + 1), x.size ≤ 1048576) := Lib.hid (fun h x hx => by
          rw [List.take_add_one, List.getElem?_eq_getElem hlt, List.mem_append] at hx
          rcases hx with hx | hx
          · exact HA.out x hx
          · have : x = L[k] := by simpa using hx
            rw [this]; exact h)
        generalize L[k] = x at hcx hxm HA1
        have e1 : IntKind.i64.wrap (s - (x.size : Int)) = s - (x.size : Int) := IntWalk.i64_in _ (by omega)
        by_cases hneg : s - (x.size : Int) < 0
        · have hd : decide (s - (x.size : Int) < 0) = true := decide_eq_true hneg
          go_wp2
          go_ret
          exact ⟨⟨_, rfl, fun h => absurd h (by decide)⟩, rfl⟩
        · have hd : decide (s - (x.size : Int) < 0) = false := decide_eq_false hneg
          have HA2 := Lib.hid (HA1.out (by omega))
          have h2 : 0 ≤ s - (x.size : Int) ∧ s - (x.size : Int) ≤ 1048576 := by omega
          clear hneg
          go_wp2
          go_roundw
          case rel => exact ⟨k + 1, s - (x.size : Int), by go_num, by omega, rfl, h2.1, h2.2, Lib.hid trivial, HA2⟩
          case measure => simp [intOf]; omega
      · obtain rfl : k = L.length := by omega
        have hltz : ¬ (L.length : Int) < (L.length : Int) := by omega
        go_wp2
        go_ret
        exact ⟨⟨s, rfl, fun _ => ⟨HL.out, fun x hx => HA.out x (by rw [List.take_length]; exact hx)⟩⟩, rfl⟩
  · have e0 : IntKind.i64.wrap (1048576 - (L.length : Int)) = 1048576 - (L.length : Int) := IntWalk.i64_in _ (by omega)
    have hd0 : decide ((1048576 - (L.length : Int)) < 0) = true := decide_eq_true (by omega)
    go_enter Tryd.func19, Tryd.ntmps19
    go_wp2
    go_ret
    exact ⟨⟨_, rfl, fun h => absurd h (by decide)⟩, rfl⟩

set_option maxHeartbeats 400000 in
theorem toS_any {a : Option Addr} {c : Nat} {xs : List ByteArray} {w : World} (hr : Rd (Value.string) w a c xs) (hn : xs.length ≤ 1048576) :
    Calls Tryd.prog 21 #[.slice a xs.length c] w (RetS (Value.string) 9 w xs) := by
  go_enter Tryd.func21, Tryd.ntmps21
  go_wp2_with (at_make; refine wpl_make (f := Value.string) (d := ByteArray.empty) und_sse info_ss0 rfl xs.length rfl _ _ rfl rfl rfl (by omega) (by omega) ?_; intro w1 ho0 hb0)
  go_loopw [4] (fun i wr => ∃ k : Nat, k ≤ xs.length ∧ i = .int .i64 k ∧ Own (Value.string) 9 wr w.heap.size (some ⟨w.heap.size, 0, none⟩) xs.length (xs.take k ++ List.replicate (xs.length - k) (ByteArray.empty : ByteArray)) ∧ Below w.heap.size w wr) (fun i _ => xs.length - (intOf i).toNat)
  case atStart => exact ⟨0, Nat.zero_le _, rfl, by simpa using ho0, hb0⟩
  case round =>
    obtain ⟨k, hk, rfl, ho, hb⟩ := hrel
    clear ho0 hb0
    by_cases hlt : k < xs.length
    · have hr' := hr.below hb (Nat.le_refl _)
      have hix := hr'.idx und_ss siz_ss
      have hcx : wr.cell? (elt a k) = some (Value.string (xs[k]?.getD ByteArray.empty)) := hr'.cell k hlt
      have hln : (xs.take k ++ List.replicate (xs.length - k) (ByteArray.empty : ByteArray)).length = xs.length := by simp; omega
      have hio := ho.idx und_ss siz_ss
      rw [hln] at hio
      have hcs := ho.rd.cell k (by omega)
      have hfz := ho.free k (by omega)
      have hst := ho.set k (by omega) (xs[k]?.getD ByteArray.empty)
      have hgt : xs[k]? = some (xs[k]?.getD ByteArray.empty) := by simp [hlt]
      rw [set_fill xs ByteArray.empty _ k hlt hgt] at hst
      have HG : Hid (wr.grownBy _ _) := hst.2
      have HS : Hid (Own _ _ _ _ _ _ _) := hst.1
      clear hst hgt
      go_wp2
      go_roundw
      case rel => exact ⟨k + 1, by omega, by go_num, by simpa [hlt] using HS.out, hb.grown (by simpa [hlt] using HG.out) hb.size (by simp)⟩
      case measure => simp [intOf]; omega
    · obtain rfl : k = xs.length := by omega
      have HO : Hid (Own _ _ _ _ _ _ _) := ho
      clear ho
      go_wp2
      go_ret
      exact ⟨_, _, rfl, HO.out.cast (by simp), hb⟩


set_option maxHeartbeats 400000 in
theorem eqSs_any {a1 a2 : Option Addr} {c1 c2 : Nat} {xs ys : List ByteArray} {w : World} (hx : Rd (Value.string) w a1 c1 xs) (hy : Rd (Value.string) w a2 c2 ys) :
    Calls Tryd.prog 23 #[.slice a1 xs.length c1, .slice a2 ys.length c2] w fun e w' => e = .returned (.bool (decide (xs = ys))) ∧ Below w.heap.size w w' := by
  have hlx := hx.len
  have hly := hy.len
  go_enter Tryd.func23, Tryd.ntmps23
  by_cases hl : xs.length = ys.length
  · have hd : ((xs.length : Int) != (ys.length : Int)) = false := by simp [hl]
    have HL : Hid (xs.length = ys.length) := hl
    clear hl
    go_wp2
    go_loopw [5] (fun i wr => ∃ k : Nat, k ≤ xs.length ∧ i = .int .i64 k ∧ xs.take k = ys.take k ∧ ∃ n, wr = w.drewN n) (fun i _ => xs.length - (intOf i).toNat)
    case atStart => exact ⟨0, Nat.zero_le _, rfl, rfl, 0, rfl⟩
    case round =>
      obtain ⟨k, hk, rfl, ht, n, rfl⟩ := hrel
      have HT : Hid (xs.take k = ys.take k) := ht
      clear ht hd
      by_cases hlt : k < xs.length
      · have hlt2 : k < ys.length := by rw [← HL.out]; exact hlt
        have hcx := hx.cell k hlt
        have hcy := hy.cell k hlt2
        have hix := hx.idx und_ss siz_ss
        have hiy := hy.idx und_ss siz_ss
        simp only [List.getElem?_eq_getElem hlt, List.getElem?_eq_getElem hlt2, Option.getD_some] at hcx hcy
        have hbq := tl_beq xs[k] ys[k]
        have HNE : Hid (¬ xs[k] = ys[k] → decide (xs = ys) = false) := Lib.hid (fun h => by simp [take_ne_of hlt hlt2 h])
        have HEQ : Hid (xs[k] = ys[k] → xs.take (k + 1) = ys.take (k + 1)) := Lib.hid (fun h => take_eq_snoc hlt hlt2 HT.out h)
        generalize xs[k] = x at hcx hbq HNE HEQ
        generalize ys[k] = y at hcy hbq HNE HEQ
        by_cases he : x = y
        · have HE := Lib.hid (HEQ.out he)
          rw [decide_eq_true he] at hbq
          have hbq2 : (x.toList != y.toList) = false := by show (!(x.toList == y.toList)) = false; rw [hbq]; rfl
          clear he
          go_wp2_with fail
          go_quiet (fail)
          go_wp2
          go_roundw
          case rel => exact ⟨k + 1, by omega, by go_num, HE.out, _, rfl⟩
          case measure => simp [intOf]; omega
        · have HE := Lib.hid (HNE.out he)
          rw [decide_eq_false he] at hbq
          have hbq2 : (x.toList != y.toList) = true := by show (!(x.toList == y.toList)) = true; rw [hbq]; rfl
          clear he
          go_wp2_with fail
          go_quiet (fail)
          go_wp2
          go_ret
          exact ⟨ret_bool HE.out.symm, by rw [World.drewN_drewN]; exact below_of_drewN _ _ _⟩
      · go_wp2
        go_ret
        have : k = xs.length := by omega
        subst this
        have h := HT.out
        rw [List.take_length, HL.out, List.take_length] at h
        exact ⟨ret_bool (by simp [h]), below_of_drewN _ _ _⟩
  · have hd : ((xs.length : Int) != (ys.length : Int)) = true := by simp; omega
    have HL : Hid (¬ xs.length = ys.length) := hl
    clear hl
    go_wp2
    go_ret
    refine ⟨ret_bool ?_, Below.refl _ _⟩
    have h := HL.out
    rw [decide_eq_false]
    rintro rfl
    exact h rfl


end Go.Proofs.YtockifchghllhaaDoor
