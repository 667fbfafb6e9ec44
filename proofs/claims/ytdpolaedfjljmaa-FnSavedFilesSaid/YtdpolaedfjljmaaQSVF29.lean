/- What a text begins with, what all of it holds: plain. Bytes read one after another, in the program's text; four bytes, in the reference's text. What a loading call holds: its result's box, its bytes' box, the saved one's box. What the reference's loading call holds: its result's box, the saved one's box. -/
import Derived.Test.YtdpolaedfjljmaaQSVF18
import Derived.Test.YtdpolaedfjljmaaQSVF4
import Derived.Test.YtdpolaedfjljmaaQSVF28
namespace Go.Proofs.Ytdpolaedfjljmaa
open Go.RowKit

def ldOk (s : ByteArray) : Bool := decide (ldE s ≤ s.size) && savedV (ldS s) && ((storeT (ldS s)).toList == (s.extract 0 (ldE s)).toList)
def ldV (s : ByteArray) : Sv := if ldOk s then ldS s else sv0
def ldN0 (s : ByteArray) : Nat := if ldOk s then ldE s else 0
theorem ldOk_short {s : ByteArray} (h : s.size < ldE s) : ldOk s = false := by unfold ldOk; rw [decide_eq_false (by omega)]; rfl
theorem ldOk_invalid {s : ByteArray} (h : savedV (ldS s) = false) : ldOk s = false := by unfold ldOk; rw [h]; simp
theorem ldOk_yes {s : ByteArray} (h : ldE s ≤ s.size) (h2 : savedV (ldS s) = true) : ldOk s = ((storeT (ldS s)).toList == (s.extract 0 (ldE s)).toList) := by unfold ldOk; rw [decide_eq_true h, h2]; rfl
theorem ldE_pos (s : ByteArray) : 15 ≤ ldE s := by unfold ldE ldA3 ldA1; omega
/-- The saved one that a call loads: its value, its size, whether there is one. -/
def RetLd (w : World) (x : Sv) (n : Nat) (ok : Bool) (e : Ending) (w' : World) : Prop :=
  ∃ h : SvH, e = .returned (.tuple #[.agg #[.string x.nm, .int .i64 x.W, .int .i64 x.D, .int .i64 x.S, .slice h.a0 x.cs.length h.c0, .int .i64 x.R, .slice h.a1 x.ks.length h.c1, .slice h.a2 x.ts.length h.c2, .slice h.a3 x.es.length h.c3], .int .i64 (n : Int), .bool ok]) ∧ SvOwn w' w.heap.size h x ∧ SvSep h ∧ Below w.heap.size w w'

end Go.Proofs.Ytdpolaedfjljmaa

namespace Go.Proofs.Ytdpolaedfjljmaa
open Go.RowKit

/-- The world behind a reading of bytes. -/
def wTk (w : World) (b : Nat) (u : ByteArray) (n : Nat) : World := if n ≤ u.size then w.setCell ⟨b, 0, none⟩ (.string (tkU u n)) else w.setCell ⟨b, 1, none⟩ (.bool true)
theorem wTk_yes {w : World} {b : Nat} {u : ByteArray} {n : Nat} (h : n ≤ u.size) : wTk w b u n = w.setCell ⟨b, 0, none⟩ (.string (tkU u n)) := if_pos h
theorem wTk_no {w : World} {b : Nat} {u : ByteArray} {n : Nat} (h : ¬ n ≤ u.size) : wTk w b u n = w.setCell ⟨b, 1, none⟩ (.bool true) := if_neg h
theorem wTk_blk {w : World} {b : Nat} {u : ByteArray} {f : Bool} {T : TypeId} (h : Blk w b #[.string u, .bool f] T) (n : Nat) : Blk (wTk w b u n) b #[.string (tkU u n), .bool (tkF u n f)] T := by
  by_cases hn : n ≤ u.size
  · rw [wTk_yes hn]
    have := h.set 0 (.string (tkU u n))
    have e : tkF u n f = f := by unfold tkF; rw [decide_eq_false (by omega)]; simp
    rw [e]
    simpa using this
  · rw [wTk_no hn]
    have := h.set 1 (.bool true)
    have e : tkF u n f = true := by unfold tkF; rw [decide_eq_true (by omega)]; simp
    have e2 : tkU u n = u := by unfold tkU; rw [if_neg hn]
    rw [e, e2]
    simpa using this
theorem wTk_below {w : World} {b : Nat} {u : ByteArray} {n B : Nat} (hB : B ≤ b) : Below B w (wTk w b u n) := by
  unfold wTk
  split
  · exact (Below.refl _ _).setCell hB _
  · exact (Below.refl _ _).setCell hB _
theorem wTk_bx {w : World} {b o : Nat} {u : ByteArray} {n : Nat} {h : SvH} {s : Sv} (q : SvBx w o h s) (hb : b < o) : SvBx (wTk w b u n) o h s := by
  unfold wTk
  split
  · exact q.far hb _
  · exact q.far hb _
theorem wTk_size {w : World} {b : Nat} {u : ByteArray} {n : Nat} : (wTk w b u n).heap.size = w.heap.size := by
  unfold wTk
  split <;> simp

theorem take_any {b n : Nat} {u : ByteArray} {f : Bool} {T : TypeId} {w : World} (hB : Blk w b #[.string u, .bool f] T) (hu : u.size ≤ 9223372036854775807) (hn : n ≤ 9223372036854775807) :
    Calls Try.prog 108 #[.pointer (some ⟨b, 0, none⟩), .int .i64 (n : Int)] w fun e w' => e = .returned (.string (tkT u n)) ∧ wTk w b u n = w' := by
  have hc0 := hB.cell (i := 0) (v := .string u) rfl
  have hc1 := hB.cell (i := 1) (v := .bool f) rfl
  have hf0 := hB.free 0
  have hf1 := hB.free 1
  by_cases h : n ≤ u.size
  · have hz : ¬ (u.size : Int) < (n : Int) := by omega
    have hnz : (n : Int) ≤ (u.size : Int) := by omega
    have eT : tkT u n = u.extract 0 n := if_pos h
    have eU : tkU u n = u.extract n u.size := if_pos h
    rw [wTk_yes h, eT, eU]
    go_enter Try.func108, Try.ntmps108
    go_wp2
    go_ret
    exact ⟨rfl, rfl⟩
  · have hz : (u.size : Int) < (n : Int) := by omega
    have eT : tkT u n = ⟨#[]⟩ := if_neg h
    rw [wTk_no h, eT]
    go_enter Try.func108, Try.ntmps108
    go_wp2
    go_ret
    exact ⟨rfl, rfl⟩

set_option maxHeartbeats 1000000 in
theorem number_any {b n : Nat} {u : ByteArray} {f : Bool} {T : TypeId} {w : World} (hB : Blk w b #[.string u, .bool f] T) (hu : u.size ≤ 9223372036854775807) (hn : n ≤ 4) :
    Calls Try.prog 109 #[.pointer (some ⟨b, 0, none⟩), .int .i64 (n : Int)] w fun e w' => e = .returned (.int .i64 (numT (tkT u n))) ∧ wTk w b u n = w' := by
  have HC := Lib.hid (take_any (n := n) hB hu (by omega))
  have hts := tkT_size u n
  obtain ⟨t, ht⟩ : ∃ t, tkT u n = t := ⟨_, rfl⟩
  obtain ⟨w2, hw2⟩ : ∃ z, wTk w b u n = z := ⟨_, rfl⟩
  rw [ht, hw2] at HC
  rw [ht] at hts
  rw [ht, hw2]
  have HN : Hid (numT t = nbR t t.size) := Lib.hid rfl
  have HR : Hid (∀ j, nbR t (j + 1) = 256 * nbR t j + (byt t (t.size - (j + 1)) : Int)) := Lib.hid (fun _ => rfl)
  have H0 : Hid (nbR t 0 = 0) := Lib.hid rfl
  have HBD := Lib.hid (fun j hj => nbR_bd t j hj)
  generalize numT t = r at HN ⊢
  generalize nbR t = R at HN HR H0 HBD
  clear ht hw2 hB hu
  go_enter Try.func109, Try.ntmps109
  go_wp2_with fail
  refine HC.out.mono ?_
  rintro e w3 ⟨rfl, rfl⟩
  clear HC
  go_wp2
  go_loop [5, 7] (fun ni ii => ∃ j : Nat, j ≤ t.size ∧ ii = .int .i64 ((t.size : Int) - 1 - (j : Int)) ∧ ni = .int .i64 (R j)) (fun _ ii => (intOf ii + 1).toNat)
  case atStart => exact ⟨0, Nat.zero_le _, by go_num, by rw [H0.out]⟩
  case round =>
    obtain ⟨j, hj, rfl, rfl⟩ := hrel
    by_cases hlt : j < t.size
    · obtain ⟨k, hk⟩ : ∃ k : Nat, k = t.size - (j + 1) := ⟨_, rfl⟩
      have ek : (t.size : Int) - 1 - (j : Int) = (k : Int) := by omega
      rw [ek]
      have hkz : (k : Int) < (t.size : Int) := by omega
      have hkn : k < t.size := by omega
      have hge : (0 : Int) ≤ (k : Int) := by omega
      have hb := byt_lt t k
      have eb : t[k].toNat = byt t k := byt_eq hkn
      have hx := HBD.out j (by omega)
      have h4 : (256 : Int) ^ j ≤ 16777216 := by
        match j, (by omega : j < 4) with
        | 0, _ => decide
        | 1, _ => decide
        | 2, _ => decide
        | 3, _ => decide
      have HR1 := Lib.hid (HR.out j)
      rw [← hk] at HR1
      have hor := or_byte (a := R j) (b := byt t k) (by omega) (by omega) hb
      rw [← HR1.out] at hor
      have ewk : IntKind.i64.wrap ((k : Int) - 1) = (k : Int) - 1 := IntWalk.i64_in _ (by omega)
      clear HBD HN hk
      go_wp2
      go_round
      case rel => exact ⟨j + 1, by omega, by rw [show (k : Int) - 1 = (t.size : Int) - 1 - ((j + 1 : Nat) : Int) by omega], rfl⟩
      case measure => simp [intOf] <;> omega
    · have hge : ¬ (0 : Int) ≤ (t.size : Int) - 1 - (j : Int) := by omega
      obtain rfl : j = t.size := by omega
      go_wp2
      go_ret
      exact ⟨by rw [HN.out] <;> rfl, rfl⟩

theorem l07Read_any {t : ByteArray} {w : World} (ht : 4 ≤ t.size) (hs : t.size ≤ 9223372036854775807) :
    Calls Try.prog 107 #[.string t] w fun e w' => e = .returned (.int .i64 (nb4 t 0)) ∧ ∃ m, w' = w.drewN m := by
  have h0 : (0 : Nat) < t.size := by omega
  have h1 : 1 < t.size := by omega
  have h2 : 2 < t.size := by omega
  have h3 : 3 < t.size := by omega
  have e0 : t[0].toNat = byt t 0 := byt_eq h0
  have e1 : t[1].toNat = byt t 1 := byt_eq h1
  have e2 : t[2].toNat = byt t 2 := byt_eq h2
  have e3 : t[3].toNat = byt t 3 := byt_eq h3
  have b0 := byt_lt t 0
  have b1 := byt_lt t 1
  have b2 := byt_lt t 2
  have b3 := byt_lt t 3
  have HN : Hid (nb4 t 0 = (byt t 0 : Int) + 256 * (byt t 1 : Int) + 65536 * (byt t 2 : Int) + 16777216 * (byt t 3 : Int)) := Lib.hid rfl
  generalize nb4 t 0 = r at HN ⊢
  have f1 : IntKind.i64.wrap (256 * (byt t 1 : Int)) = 256 * (byt t 1 : Int) := IntWalk.i64_in _ (by omega)
  have f2 : IntKind.i64.wrap (65536 * (byt t 2 : Int)) = 65536 * (byt t 2 : Int) := IntWalk.i64_in _ (by omega)
  have f3 : IntKind.i64.wrap (16777216 * (byt t 3 : Int)) = 16777216 * (byt t 3 : Int) := IntWalk.i64_in _ (by omega)
  go_enter Try.func107, Try.ntmps107
  go_wp2_with fail
  go_quiet (fail)
  go_wp2
  go_ret
  exact ⟨by rw [HN.out] <;> rfl, ⟨_, rfl⟩⟩

end Go.Proofs.Ytdpolaedfjljmaa

namespace Go.Proofs.Ytdpolaedfjljmaa
open Go.RowKit

structure LdSt (A : Nat) (w wr : World) (u : ByteArray) (f : Bool) (h : SvH) (x : Sv) : Prop where
  res : Blk wr A (svV hd0 sv0) 28
  src : Blk wr (A + 1) #[.string u, .bool f] 135
  bx : SvBx wr (A + 2) h x
  B : Below A w wr
section
variable {A : Nat} {w wr w1 : World} {u : ByteArray} {f : Bool} {h : SvH} {x : Sv}
theorem LdSt.drew (q : LdSt A w wr u f h x) : LdSt A w wr.drew u f h x := ⟨q.res, q.src, q.bx.below (below_of_drewN wr 1 _) (Nat.le_refl _), q.B.trans (below_of_drewN wr 1 _)⟩
theorem LdSt.below (q : LdSt A w wr u f h x) (hA : A ≤ wr.heap.size) (hb : Below wr.heap.size wr w1) : LdSt A w w1 u f h x := ⟨q.res.below hb (Nat.le_refl _), q.src.below hb (Nat.le_refl _), q.bx.below hb (Nat.le_refl _), q.B.trans (hb.mono hA)⟩
theorem LdSt.lt (q : LdSt A w wr u f h x) : A + 2 < wr.heap.size := q.bx.blk.lt
theorem LdSt.tk (q : LdSt A w wr u f h x) (n : Nat) : LdSt A w (wTk wr (A + 1) u n) (tkU u n) (tkF u n f) h x :=
  ⟨by unfold wTk; split <;> exact q.res.far (by simp) _, wTk_blk q.src n, wTk_bx q.bx (by omega), q.B.trans (wTk_below (by omega))⟩
theorem LdSt.setN (q : LdSt A w wr u f h x) {y : ByteArray} (hy : y.size ≤ 9223372036854775807) : LdSt A w (wr.setCell ⟨A + 2, 0, none⟩ (.string y)) u f h { x with nm := y } :=
  ⟨q.res.far (by simp) _, q.src.far (by simp) _, q.bx.setN hy, q.B.setCell (by simp) _⟩
theorem LdSt.setW (q : LdSt A w wr u f h x) (y : Int) : LdSt A w (wr.setCell ⟨A + 2, 1, none⟩ (.int .i64 y)) u f h { x with W := y } :=
  ⟨q.res.far (by simp) _, q.src.far (by simp) _, q.bx.setW y, q.B.setCell (by simp) _⟩
theorem LdSt.setD (q : LdSt A w wr u f h x) (y : Int) : LdSt A w (wr.setCell ⟨A + 2, 2, none⟩ (.int .i64 y)) u f h { x with D := y } :=
  ⟨q.res.far (by simp) _, q.src.far (by simp) _, q.bx.setD y, q.B.setCell (by simp) _⟩
theorem LdSt.setS (q : LdSt A w wr u f h x) (y : Int) : LdSt A w (wr.setCell ⟨A + 2, 3, none⟩ (.int .i64 y)) u f h { x with S := y } :=
  ⟨q.res.far (by simp) _, q.src.far (by simp) _, q.bx.setS y, q.B.setCell (by simp) _⟩
theorem LdSt.setR (q : LdSt A w wr u f h x) (y : Int) : LdSt A w (wr.setCell ⟨A + 2, 5, none⟩ (.int .i64 y)) u f h { x with R := y } :=
  ⟨q.res.far (by simp) _, q.src.far (by simp) _, q.bx.setR y, q.B.setCell (by simp) _⟩
/-- Behind an append to a list of the saved one. -/
theorem ldSt_grown {a : Option Addr} {c : Nat} {ys : List Int} {o : Obj} (q : LdSt A w wr u f h x) (ho : Own (Value.int .i64) 2 wr (A + 2 + 1) a c ys) (g : (wr.alloc o).grownBy w1 (a.map (·.block))) :
    Blk w1 A (svV hd0 sv0) 28 ∧ Blk w1 (A + 1) #[.string u, .bool f] 135 ∧ Blk w1 (A + 2) (svV h x) 28 ∧ Below A w w1 ∧ wr.grownBy w1 (a.map (·.block)) := by
  have hg : wr.grownBy w1 (a.map (·.block)) := grown_trans (World.grownBy_alloc wr o _) g
  have hne : ∀ k, k ≤ A + 2 → some k ≠ a.map (·.block) := by
    intro k hk
    cases ha : a with
    | none => simp
    | some p => have := (ho.blk p ha).1; simp; omega
  have := q.lt
  exact ⟨q.res.grown hg (hne _ (by omega)), q.src.grown hg (hne _ (by omega)), q.bx.blk.grown hg (hne _ (by omega)), q.B.trans (grown_belowOwn ho hg (by omega) (by omega)), hg⟩
theorem lies_of {a a' : Option Addr} {o : Obj} (hl : ∀ p, a' = some p → (∃ q, a = some q ∧ q.block = p.block) ∨ p.block = (wr.alloc o).heap.size) : Lies wr.heap.size a a' := by
  intro p hp
  rcases hl p hp with h | h
  · exact .inl h
  · right; simp at h; omega
theorem LdSt.pushC {a' : Option Addr} {c' : Nat} {y : Int} {o : Obj} (q : LdSt A w wr u f h x) (ho : Own (Value.int .i64) 2 w1 (A + 2 + 1) a' c' (x.cs ++ [y])) (g : (wr.alloc o).grownBy w1 (h.a0.map (·.block))) (hl : ∀ p, a' = some p → (∃ q, h.a0 = some q ∧ q.block = p.block) ∨ p.block = (wr.alloc o).heap.size) :
    w1.cell? ⟨A + 2, 4, none⟩ = some (.slice h.a0 x.cs.length h.c0) ∧ w1.frozen? ⟨A + 2, 4, none⟩ = false ∧ LdSt A w (w1.setCell ⟨A + 2, 4, none⟩ (.slice a' (x.cs.length + 1) c')) u f { h with a0 := a', c0 := c' } { x with cs := x.cs ++ [y] } := by
  obtain ⟨h1, h2, h3, h4, h5⟩ := ldSt_grown q q.bx.own.cs g
  exact ⟨h3.cell rfl, h3.free 4, ⟨h1.far (by simp) _, h2.far (by simp) _, q.bx.pushC ho h5 (lies_of hl), h4.setCell (by simp) _⟩⟩
theorem LdSt.pushK {a' : Option Addr} {c' : Nat} {y : Int} {o : Obj} (q : LdSt A w wr u f h x) (ho : Own (Value.int .i64) 2 w1 (A + 2 + 1) a' c' (x.ks ++ [y])) (g : (wr.alloc o).grownBy w1 (h.a1.map (·.block))) (hl : ∀ p, a' = some p → (∃ q, h.a1 = some q ∧ q.block = p.block) ∨ p.block = (wr.alloc o).heap.size) :
    w1.cell? ⟨A + 2, 6, none⟩ = some (.slice h.a1 x.ks.length h.c1) ∧ w1.frozen? ⟨A + 2, 6, none⟩ = false ∧ LdSt A w (w1.setCell ⟨A + 2, 6, none⟩ (.slice a' (x.ks.length + 1) c')) u f { h with a1 := a', c1 := c' } { x with ks := x.ks ++ [y] } := by
  obtain ⟨h1, h2, h3, h4, h5⟩ := ldSt_grown q q.bx.own.ks g
  exact ⟨h3.cell rfl, h3.free 6, ⟨h1.far (by simp) _, h2.far (by simp) _, q.bx.pushK ho h5 (lies_of hl), h4.setCell (by simp) _⟩⟩
theorem LdSt.pushT {a' : Option Addr} {c' : Nat} {y : Int} {o : Obj} (q : LdSt A w wr u f h x) (ho : Own (Value.int .i64) 2 w1 (A + 2 + 1) a' c' (x.ts ++ [y])) (g : (wr.alloc o).grownBy w1 (h.a2.map (·.block))) (hl : ∀ p, a' = some p → (∃ q, h.a2 = some q ∧ q.block = p.block) ∨ p.block = (wr.alloc o).heap.size) :
    w1.cell? ⟨A + 2, 7, none⟩ = some (.slice h.a2 x.ts.length h.c2) ∧ w1.frozen? ⟨A + 2, 7, none⟩ = false ∧ LdSt A w (w1.setCell ⟨A + 2, 7, none⟩ (.slice a' (x.ts.length + 1) c')) u f { h with a2 := a', c2 := c' } { x with ts := x.ts ++ [y] } := by
  obtain ⟨h1, h2, h3, h4, h5⟩ := ldSt_grown q q.bx.own.ts g
  exact ⟨h3.cell rfl, h3.free 7, ⟨h1.far (by simp) _, h2.far (by simp) _, q.bx.pushT ho h5 (lies_of hl), h4.setCell (by simp) _⟩⟩
theorem LdSt.pushE {a' : Option Addr} {c' : Nat} {y : Int} {o : Obj} (q : LdSt A w wr u f h x) (ho : Own (Value.int .i64) 2 w1 (A + 2 + 1) a' c' (x.es ++ [y])) (g : (wr.alloc o).grownBy w1 (h.a3.map (·.block))) (hl : ∀ p, a' = some p → (∃ q, h.a3 = some q ∧ q.block = p.block) ∨ p.block = (wr.alloc o).heap.size) :
    w1.cell? ⟨A + 2, 8, none⟩ = some (.slice h.a3 x.es.length h.c3) ∧ w1.frozen? ⟨A + 2, 8, none⟩ = false ∧ LdSt A w (w1.setCell ⟨A + 2, 8, none⟩ (.slice a' (x.es.length + 1) c')) u f { h with a3 := a', c3 := c' } { x with es := x.es ++ [y] } := by
  obtain ⟨h1, h2, h3, h4, h5⟩ := ldSt_grown q q.bx.own.es g
  exact ⟨h3.cell rfl, h3.free 8, ⟨h1.far (by simp) _, h2.far (by simp) _, q.bx.pushE ho h5 (lies_of hl), h4.setCell (by simp) _⟩⟩
/-- The cells of the saved one's box. -/
theorem LdSt.cells (q : LdSt A w wr u f h x) : wr.cell? ⟨A + 2, 0, none⟩ = some (.string x.nm) ∧ wr.cell? ⟨A + 2, 1, none⟩ = some (.int .i64 x.W) ∧ wr.cell? ⟨A + 2, 2, none⟩ = some (.int .i64 x.D) ∧ wr.cell? ⟨A + 2, 3, none⟩ = some (.int .i64 x.S) ∧ wr.cell? ⟨A + 2, 4, none⟩ = some (.slice h.a0 x.cs.length h.c0) ∧ wr.cell? ⟨A + 2, 5, none⟩ = some (.int .i64 x.R) ∧ wr.cell? ⟨A + 2, 6, none⟩ = some (.slice h.a1 x.ks.length h.c1) ∧ wr.cell? ⟨A + 2, 7, none⟩ = some (.slice h.a2 x.ts.length h.c2) ∧ wr.cell? ⟨A + 2, 8, none⟩ = some (.slice h.a3 x.es.length h.c3) :=
  ⟨q.bx.blk.cell rfl, q.bx.blk.cell rfl, q.bx.blk.cell rfl, q.bx.blk.cell rfl, q.bx.blk.cell rfl, q.bx.blk.cell rfl, q.bx.blk.cell rfl, q.bx.blk.cell rfl, q.bx.blk.cell rfl⟩
end
theorem LdSt.start (w : World) (s : ByteArray) : LdSt w.heap.size w (((w.alloc (.cells (svV hd0 sv0) 28)).alloc (.cells #[.string s, .bool false] 135)).alloc (.cells (svV hd0 sv0) 28)) s false hd0 sv0 := by
  refine ⟨((Blk.new _ _ _).alloc _).alloc _, (Blk.new' (by simp)).alloc _, ?_, (((Below.refl _ _).alloc (Nat.le_refl _) _).alloc (by simp) _).alloc (by simp; omega) _⟩
  have := SvBx.new ((w.alloc (.cells (svV hd0 sv0) 28)).alloc (.cells #[.string s, .bool false] 135))
  simpa using this

end Go.Proofs.Ytdpolaedfjljmaa

namespace Go.Proofs.Ytdpolaedfjljmaa
open Go.RowKit

structure BgSt (A : Nat) (w wr : World) (h : SvH) (x : Sv) : Prop where
  res : Blk wr A (svV hd0 sv0) 28
  bx : SvBx wr (A + 1) h x
  B : Below A w wr
section
variable {A : Nat} {w wr w1 : World} {h : SvH} {x : Sv}
theorem BgSt.drewN (q : BgSt A w wr h x) (n : Nat) : BgSt A w (wr.drewN n) h x := ⟨q.res, q.bx.below (below_of_drewN wr n _) (Nat.le_refl _), q.B.trans (below_of_drewN wr n _)⟩
theorem BgSt.below (q : BgSt A w wr h x) (hA : A ≤ wr.heap.size) (hb : Below wr.heap.size wr w1) : BgSt A w w1 h x := ⟨q.res.below hb (Nat.le_refl _), q.bx.below hb (Nat.le_refl _), q.B.trans (hb.mono hA)⟩
theorem BgSt.lt (q : BgSt A w wr h x) : A + 1 < wr.heap.size := q.bx.blk.lt
theorem BgSt.setR (q : BgSt A w wr h x) (y : Int) : BgSt A w (wr.setCell ⟨A + 1, 5, none⟩ (.int .i64 y)) h { x with R := y } :=
  ⟨q.res.far (by simp) _, q.bx.setR y, q.B.setCell (by simp) _⟩
theorem svBx_nil {b : Nat} (q : SvBx w b h x) (hc : x.cs = []) : SvBx (w.setCell ⟨b, 4, none⟩ (.slice none 0 0)) b { h with a0 := none, c0 := 0 } x := by
  refine ⟨?_, ⟨q.own.nm, ?_, q.own.ks.setFar _ _ (by simp), q.own.ts.setFar _ _ (by simp), q.own.es.setFar _ _ (by simp)⟩, ⟨sep_none _, sep_none _, sep_none _, q.sep.s12, q.sep.s13, q.sep.s23⟩⟩
  · have := q.blk.set 4 (.slice none 0 0)
    have e : (svV h x).setIfInBounds 4 (.slice none 0 0) = svV { h with a0 := none, c0 := 0 } x := by simp [svV, hc]
    rwa [e] at this
  · rw [hc]; exact own_nil _ _ _ _
/-- The four cells of the counts are stored. -/
theorem BgSt.setCells (q : BgSt A w wr hd0 x) (hc : x.cs = []) (W D S : Int) : BgSt A w ((((wr.setCell ⟨A + 1, 1, none⟩ (.int .i64 W)).setCell ⟨A + 1, 2, none⟩ (.int .i64 D)).setCell ⟨A + 1, 3, none⟩ (.int .i64 S)).setCell ⟨A + 1, 4, none⟩ (.slice none 0 0)) hd0 { x with W := W, D := D, S := S } :=
  ⟨(((q.res.far (by simp) _).far (by simp) _).far (by simp) _).far (by simp) _, svBx_nil (((q.bx.setW W).setD D).setS S) hc, (((q.B.setCell (by simp) _).setCell (by simp) _).setCell (by simp) _).setCell (by simp) _⟩
theorem bgSt_grown {a : Option Addr} {c : Nat} {ys : List Int} {o : Obj} (q : BgSt A w wr h x) (ho : Own (Value.int .i64) 2 wr (A + 1 + 1) a c ys) (g : (wr.alloc o).grownBy w1 (a.map (·.block))) :
    Blk w1 A (svV hd0 sv0) 28 ∧ Blk w1 (A + 1) (svV h x) 28 ∧ Below A w w1 ∧ wr.grownBy w1 (a.map (·.block)) := by
  have hg : wr.grownBy w1 (a.map (·.block)) := grown_trans (World.grownBy_alloc wr o _) g
  have hne : ∀ k, k ≤ A + 1 → some k ≠ a.map (·.block) := by
    intro k hk
    cases ha : a with
    | none => simp
    | some p => have := (ho.blk p ha).1; simp; omega
  have := q.lt
  exact ⟨q.res.grown hg (hne _ (by omega)), q.bx.blk.grown hg (hne _ (by omega)), q.B.trans (grown_belowOwn ho hg (by omega) (by omega)), hg⟩
theorem BgSt.pushC {a' : Option Addr} {c' : Nat} {y : Int} {o : Obj} (q : BgSt A w wr h x) (ho : Own (Value.int .i64) 2 w1 (A + 1 + 1) a' c' (x.cs ++ [y])) (g : (wr.alloc o).grownBy w1 (h.a0.map (·.block))) (hl : ∀ p, a' = some p → (∃ q, h.a0 = some q ∧ q.block = p.block) ∨ p.block = (wr.alloc o).heap.size) :
    w1.cell? ⟨A + 1, 4, none⟩ = some (.slice h.a0 x.cs.length h.c0) ∧ w1.frozen? ⟨A + 1, 4, none⟩ = false ∧ BgSt A w (w1.setCell ⟨A + 1, 4, none⟩ (.slice a' (x.cs.length + 1) c')) { h with a0 := a', c0 := c' } { x with cs := x.cs ++ [y] } := by
  obtain ⟨h1, h3, h4, h5⟩ := bgSt_grown q q.bx.own.cs g
  exact ⟨h3.cell rfl, h3.free 4, ⟨h1.far (by simp) _, q.bx.pushC ho h5 (lies_of hl), h4.setCell (by simp) _⟩⟩
theorem BgSt.pushK {a' : Option Addr} {c' : Nat} {y : Int} {o : Obj} (q : BgSt A w wr h x) (ho : Own (Value.int .i64) 2 w1 (A + 1 + 1) a' c' (x.ks ++ [y])) (g : (wr.alloc o).grownBy w1 (h.a1.map (·.block))) (hl : ∀ p, a' = some p → (∃ q, h.a1 = some q ∧ q.block = p.block) ∨ p.block = (wr.alloc o).heap.size) :
    w1.cell? ⟨A + 1, 6, none⟩ = some (.slice h.a1 x.ks.length h.c1) ∧ w1.frozen? ⟨A + 1, 6, none⟩ = false ∧ BgSt A w (w1.setCell ⟨A + 1, 6, none⟩ (.slice a' (x.ks.length + 1) c')) { h with a1 := a', c1 := c' } { x with ks := x.ks ++ [y] } := by
  obtain ⟨h1, h3, h4, h5⟩ := bgSt_grown q q.bx.own.ks g
  exact ⟨h3.cell rfl, h3.free 6, ⟨h1.far (by simp) _, q.bx.pushK ho h5 (lies_of hl), h4.setCell (by simp) _⟩⟩
theorem BgSt.pushT {a' : Option Addr} {c' : Nat} {y : Int} {o : Obj} (q : BgSt A w wr h x) (ho : Own (Value.int .i64) 2 w1 (A + 1 + 1) a' c' (x.ts ++ [y])) (g : (wr.alloc o).grownBy w1 (h.a2.map (·.block))) (hl : ∀ p, a' = some p → (∃ q, h.a2 = some q ∧ q.block = p.block) ∨ p.block = (wr.alloc o).heap.size) :
    w1.cell? ⟨A + 1, 7, none⟩ = some (.slice h.a2 x.ts.length h.c2) ∧ w1.frozen? ⟨A + 1, 7, none⟩ = false ∧ BgSt A w (w1.setCell ⟨A + 1, 7, none⟩ (.slice a' (x.ts.length + 1) c')) { h with a2 := a', c2 := c' } { x with ts := x.ts ++ [y] } := by
  obtain ⟨h1, h3, h4, h5⟩ := bgSt_grown q q.bx.own.ts g
  exact ⟨h3.cell rfl, h3.free 7, ⟨h1.far (by simp) _, q.bx.pushT ho h5 (lies_of hl), h4.setCell (by simp) _⟩⟩
theorem BgSt.pushE {a' : Option Addr} {c' : Nat} {y : Int} {o : Obj} (q : BgSt A w wr h x) (ho : Own (Value.int .i64) 2 w1 (A + 1 + 1) a' c' (x.es ++ [y])) (g : (wr.alloc o).grownBy w1 (h.a3.map (·.block))) (hl : ∀ p, a' = some p → (∃ q, h.a3 = some q ∧ q.block = p.block) ∨ p.block = (wr.alloc o).heap.size) :
    w1.cell? ⟨A + 1, 8, none⟩ = some (.slice h.a3 x.es.length h.c3) ∧ w1.frozen? ⟨A + 1, 8, none⟩ = false ∧ BgSt A w (w1.setCell ⟨A + 1, 8, none⟩ (.slice a' (x.es.length + 1) c')) { h with a3 := a', c3 := c' } { x with es := x.es ++ [y] } := by
  obtain ⟨h1, h3, h4, h5⟩ := bgSt_grown q q.bx.own.es g
  exact ⟨h3.cell rfl, h3.free 8, ⟨h1.far (by simp) _, q.bx.pushE ho h5 (lies_of hl), h4.setCell (by simp) _⟩⟩
/-- The cells of the saved one's box. -/
theorem BgSt.cells (q : BgSt A w wr h x) : wr.cell? ⟨A + 1, 0, none⟩ = some (.string x.nm) ∧ wr.cell? ⟨A + 1, 1, none⟩ = some (.int .i64 x.W) ∧ wr.cell? ⟨A + 1, 2, none⟩ = some (.int .i64 x.D) ∧ wr.cell? ⟨A + 1, 3, none⟩ = some (.int .i64 x.S) ∧ wr.cell? ⟨A + 1, 4, none⟩ = some (.slice h.a0 x.cs.length h.c0) ∧ wr.cell? ⟨A + 1, 5, none⟩ = some (.int .i64 x.R) ∧ wr.cell? ⟨A + 1, 6, none⟩ = some (.slice h.a1 x.ks.length h.c1) ∧ wr.cell? ⟨A + 1, 7, none⟩ = some (.slice h.a2 x.ts.length h.c2) ∧ wr.cell? ⟨A + 1, 8, none⟩ = some (.slice h.a3 x.es.length h.c3) :=
  ⟨q.bx.blk.cell rfl, q.bx.blk.cell rfl, q.bx.blk.cell rfl, q.bx.blk.cell rfl, q.bx.blk.cell rfl, q.bx.blk.cell rfl, q.bx.blk.cell rfl, q.bx.blk.cell rfl, q.bx.blk.cell rfl⟩
end
theorem BgSt.start (w : World) (nm : ByteArray) (hn : nm.size ≤ 9223372036854775807) : BgSt w.heap.size w ((w.alloc (.cells (svV hd0 sv0) 28)).alloc (.cells (svV hd0 { sv0 with nm := nm }) 28)) hd0 { sv0 with nm := nm } := by
  refine ⟨(Blk.new _ _ _).alloc _, ⟨Blk.new' (by simp), ⟨hn, own_nil _ _ _ _, own_nil _ _ _ _, own_nil _ _ _ _, own_nil _ _ _ _⟩, svSep0⟩, ((Below.refl _ _).alloc (Nat.le_refl _) _).alloc (by simp) _⟩
/-- The saved one that the reference begins with. -/
def RetBg (w : World) (x : Sv) (n : Nat) (e : Ending) (w' : World) : Prop :=
  ∃ h : SvH, e = .returned (.tuple #[.agg #[.string x.nm, .int .i64 x.W, .int .i64 x.D, .int .i64 x.S, .slice h.a0 x.cs.length h.c0, .int .i64 x.R, .slice h.a1 x.ks.length h.c1, .slice h.a2 x.ts.length h.c2, .slice h.a3 x.es.length h.c3], .int .i64 (n : Int)]) ∧ SvOwn w' w.heap.size h x ∧ SvSep h ∧ Below w.heap.size w w'

end Go.Proofs.Ytdpolaedfjljmaa
