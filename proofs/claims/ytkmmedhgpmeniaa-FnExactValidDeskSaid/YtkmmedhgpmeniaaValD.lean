/- Valid desks in both texts. -/
import Derived.Test.YtkmmedhgpmeniaaValS
import Derived.Test.YtkmmedhgpmeniaaValZ
import Derived.Test.YtkmmedhgpmeniaaBlk
namespace Go.Proofs.Ytkmmedhgpmeniaa
open Go.RowKit

def deskKeysB (ks : List Int) : Bool := decide (1 ≤ ks.length) && decide (ks.length ≤ 64) && keysB ks
def deskB (R S : Int) (bs : List Bool) (Z : Int) (zs : List Int) (L P : Int) (ts ss ks : List Int) : Bool :=
  sieveB R S bs.length && zerosB Z zs && decide (zs.length ≤ 64) && winB L P ts ss && decide (ts.length ≤ 64) && deskKeysB ks

set_option maxHeartbeats 1000000 in
theorem l08Keys_any {a : Option Addr} {c : Nat} {ks : List Int} {w : World} (hr : Rd (Value.int .i64) w a c ks) :
    Calls Try.prog 130 #[.slice a ks.length c] w fun e w' => e = .returned (.bool (deskKeysB ks)) ∧ Below w.heap.size w w' := by
  have hln := hr.len
  by_cases h1 : 1 ≤ ks.length
  case neg =>
    have h1' : decide (1 ≤ (ks.length : Int)) = false := decide_eq_false (by omega)
    go_enter Try.func130, Try.ntmps130
    go_wp2
    go_ret
    exact ⟨ret_bool (by rw [deskKeysB, decide_eq_false h1]; rfl), Below.refl _ _⟩
  case pos =>
  by_cases h2 : ks.length ≤ 64
  case neg =>
    go_enter Try.func130, Try.ntmps130
    go_wp2
    go_ret
    exact ⟨ret_bool (by rw [deskKeysB, decide_eq_false h2]; simp), Below.refl _ _⟩
  case pos =>
    go_enter Try.func130, Try.ntmps130
    go_wp2_with fail
    refine (l02Keys_any hr).mono ?_
    rintro e w1 ⟨rfl, hb⟩
    go_wp2
    go_ret
    exact ⟨ret_bool (by rw [deskKeysB, decide_eq_true h1, decide_eq_true h2, decide_eq_true (show ks.length ≤ 256 by omega)]; rfl), hb⟩

set_option maxRecDepth 4000 in
set_option maxHeartbeats 4000000 in
theorem validDesk_any {abs : Option Addr} {cbs : Nat} {bs : List Bool} {azs : Option Addr} {czs : Nat} {zs : List Int} {ats : Option Addr} {cts : Nat} {ts : List Int} {ass : Option Addr} {css : Nat} {ss : List Int} {aks : Option Addr} {cks : Nat} {ks : List Int} {R S Z L P : Int} {w : World} (hbs : Rd (Value.bool) w abs cbs bs) (hzs : Rd (Value.int .i64) w azs czs zs) (hts : Rd (Value.int .i64) w ats cts ts) (hss : Rd (Value.int .i64) w ass css ss) (hks : Rd (Value.int .i64) w aks cks ks) :
    Calls Try.prog 43 #[.agg #[.int .i64 R, .int .i64 S, .slice abs bs.length cbs, .int .i64 Z, .slice azs zs.length czs, .int .i64 L, .int .i64 P, .slice ats ts.length cts, .slice ass ss.length css, .slice aks ks.length cks]] w fun e w' => e = .returned (.bool (deskB R S bs Z zs L P ts ss ks)) ∧ Below w.heap.size w w' := by
  have lzs := hzs.len
  have lts := hts.len
  have lks := hks.len
  have B0 : Below w.heap.size w (w.alloc (.cells #[.int .i64 R, .int .i64 S, .slice abs bs.length cbs, .int .i64 Z, .slice azs zs.length czs, .int .i64 L, .int .i64 P, .slice ats ts.length cts, .slice ass ss.length css, .slice aks ks.length cks] 43)) := (Below.refl _ _).alloc (Nat.le_refl _) _
  have I0 : Blk (w.alloc (.cells #[.int .i64 R, .int .i64 S, .slice abs bs.length cbs, .int .i64 Z, .slice azs zs.length czs, .int .i64 L, .int .i64 P, .slice ats ts.length cts, .slice ass ss.length css, .slice aks ks.length cks] 43)) w.heap.size #[.int .i64 R, .int .i64 S, .slice abs bs.length cbs, .int .i64 Z, .slice azs zs.length czs, .int .i64 L, .int .i64 P, .slice ats ts.length cts, .slice ass ss.length css, .slice aks ks.length cks] 43 := Blk.new _ _ _
  have H0 := Lib.hid (And.intro B0 I0)
  clear B0 I0
  go_enter Try.func43, Try.ntmps43
  go_wp2_with fail
  generalize w.alloc (.cells #[.int .i64 R, .int .i64 S, .slice abs bs.length cbs, .int .i64 Z, .slice azs zs.length czs, .int .i64 L, .int .i64 P, .slice ats ts.length cts, .slice ass ss.length css, .slice aks ks.length cks] 43) = w0 at H0 ⊢
  have B0 := Lib.hid H0.out.1
  have I0 := Lib.hid H0.out.2
  clear H0
  refine (validSieve_any (hbs.below B0.out (Nat.le_refl _))).mono ?_
  rintro e w1 ⟨rfl, hb0⟩
  have B1 := Lib.hid (B0.out.trans (hb0.mono B0.out.size))
  have I1 := Lib.hid (I0.out.below hb0 (Nat.le_refl _))
  clear hb0 B0 I0
  cases h1 : sieveB R S bs.length with
  | false =>
    go_wp2
    go_ret
    exact ⟨ret_bool (by rw [deskB, h1]; rfl), B1.out⟩
  | true =>
  have G1 := Lib.hid h1
  clear h1
  have i3 := I1.out.cell (i := 3) (v := .int .i64 Z) rfl
  have i4 := I1.out.cell (i := 4) (v := .slice azs zs.length czs) rfl
  go_wp2_with fail
  refine (validZeros_any (hzs.below B1.out (Nat.le_refl _))).mono ?_
  rintro e w2 ⟨rfl, hb0⟩
  have B2 := Lib.hid (B1.out.trans (hb0.mono B1.out.size))
  have I2 := Lib.hid (I1.out.below hb0 (Nat.le_refl _))
  clear hb0 B1 I1 i3 i4
  cases h2 : zerosB Z zs with
  | false =>
    go_wp2
    go_ret
    exact ⟨ret_bool (by rw [deskB, h2]; simp), B2.out⟩
  | true =>
  have G2 := Lib.hid h2
  clear h2
  have i4 := I2.out.cell (i := 4) (v := .slice azs zs.length czs) rfl
  by_cases h3 : zs.length ≤ 64
  case neg =>
    go_wp2
    go_ret
    exact ⟨ret_bool (by rw [deskB, decide_eq_false h3]; simp), B2.out⟩
  case pos =>
  have i5 := I2.out.cell (i := 5) (v := .int .i64 L) rfl
  have i6 := I2.out.cell (i := 6) (v := .int .i64 P) rfl
  have i7 := I2.out.cell (i := 7) (v := .slice ats ts.length cts) rfl
  have i8 := I2.out.cell (i := 8) (v := .slice ass ss.length css) rfl
  go_wp2_with fail
  refine (validWindow_any (hts.below B2.out (Nat.le_refl _)) (hss.below B2.out (Nat.le_refl _))).mono ?_
  rintro e w3 ⟨rfl, hb0⟩
  have B3 := Lib.hid (B2.out.trans (hb0.mono B2.out.size))
  have I3 := Lib.hid (I2.out.below hb0 (Nat.le_refl _))
  have G3 := Lib.hid h3
  clear hb0 B2 I2 i4 i5 i6 i7 i8 h3
  cases h4 : winB L P ts ss with
  | false =>
    go_wp2
    go_ret
    exact ⟨ret_bool (by rw [deskB, h4]; simp), B3.out⟩
  | true =>
  have G4 := Lib.hid h4
  clear h4
  have i7 := I3.out.cell (i := 7) (v := .slice ats ts.length cts) rfl
  by_cases h5 : ts.length ≤ 64
  case neg =>
    go_wp2
    go_ret
    exact ⟨ret_bool (by rw [deskB, decide_eq_false h5]; simp), B3.out⟩
  case pos =>
  have i9 := I3.out.cell (i := 9) (v := .slice aks ks.length cks) rfl
  by_cases h6 : 1 ≤ ks.length
  case neg =>
    have h6' : decide (1 ≤ (ks.length : Int)) = false := decide_eq_false (by omega)
    go_wp2
    go_ret
    exact ⟨ret_bool (by rw [deskB, deskKeysB, decide_eq_false h6]; simp), B3.out⟩
  case pos =>
  by_cases h7 : ks.length ≤ 64
  case neg =>
    go_wp2
    go_ret
    exact ⟨ret_bool (by rw [deskB, deskKeysB, decide_eq_false h7]; simp), B3.out⟩
  case pos =>
  go_wp2_with fail
  refine (areAllKeys_any (hks.below B3.out (Nat.le_refl _))).mono ?_
  rintro e w4 ⟨rfl, hb0⟩
  go_wp2
  go_ret
  exact ⟨ret_bool (by rw [deskB, deskKeysB, G1.out, G2.out, G4.out, decide_eq_true G3.out, decide_eq_true h5, decide_eq_true h6, decide_eq_true h7]; rfl), B3.out.trans (hb0.mono B3.out.size)⟩

set_option maxRecDepth 4000 in
set_option maxHeartbeats 4000000 in
theorem l08Is_any {k : Nat} {T : TypeId} {abs : Option Addr} {cbs : Nat} {bs : List Bool} {azs : Option Addr} {czs : Nat} {zs : List Int} {ats : Option Addr} {cts : Nat} {ts : List Int} {ass : Option Addr} {css : Nat} {ss : List Int} {aks : Option Addr} {cks : Nat} {ks : List Int} {R S Z L P : Int} {w : World} (hbs : Rd (Value.bool) w abs cbs bs) (hzs : Rd (Value.int .i64) w azs czs zs) (hts : Rd (Value.int .i64) w ats cts ts) (hss : Rd (Value.int .i64) w ass css ss) (hks : Rd (Value.int .i64) w aks cks ks)
    (hI : Blk w k #[.int .i64 R, .int .i64 S, .slice abs bs.length cbs, .int .i64 Z, .slice azs zs.length czs, .int .i64 L, .int .i64 P, .slice ats ts.length cts, .slice ass ss.length css, .slice aks ks.length cks] T) (hk : k < w.heap.size) :
    Calls Try.prog 83 #[.pointer (some ⟨k, 0, none⟩)] w fun e w' => e = .returned (.bool (deskB R S bs Z zs L P ts ss ks)) ∧ Below w.heap.size w w' := by
  have lzs := hzs.len
  have lts := hts.len
  have lks := hks.len
  have I0 := Lib.hid hI
  clear hI
  go_enter Try.func83, Try.ntmps83
  go_wp2_with fail
  refine (l04Is_any hbs (I0.out.cell (i := 0) (v := .int .i64 R) rfl) (I0.out.cell (i := 1) (v := .int .i64 S) rfl) (I0.out.cell (i := 2) (v := .slice abs bs.length cbs) rfl)).mono ?_
  rintro e w1 ⟨rfl, rfl⟩
  cases h1 : sieveB R S bs.length with
  | false =>
    go_wp2
    go_ret
    exact ⟨ret_bool (by rw [deskB, h1]; rfl), Below.refl _ _⟩
  | true =>
  have G1 := Lib.hid h1
  clear h1
  go_wp2_with fail
  refine (l04Zeros_any hzs (I0.out.cell (i := 3) (v := .int .i64 Z) rfl) (I0.out.cell (i := 4) (v := .slice azs zs.length czs) rfl)).mono ?_
  rintro e w1 ⟨rfl, rfl⟩
  cases h2 : zerosB Z zs with
  | false =>
    go_wp2
    go_ret
    exact ⟨ret_bool (by rw [deskB, h2]; simp), Below.refl _ _⟩
  | true =>
  have G2 := Lib.hid h2
  clear h2
  have i4 := I0.out.cell (i := 4) (v := .slice azs zs.length czs) rfl
  by_cases h3 : zs.length ≤ 64
  case neg =>
    go_wp2
    go_ret
    exact ⟨ret_bool (by rw [deskB, decide_eq_false h3]; simp), Below.refl _ _⟩
  case pos =>
  go_wp2_with fail
  refine (l06Is_any ⟨I0.out.cell (i := 5) (v := .int .i64 L) rfl, I0.out.cell (i := 6) (v := .int .i64 P) rfl, I0.out.cell (i := 7) (v := .slice ats ts.length cts) rfl, I0.out.cell (i := 8) (v := .slice ass ss.length css) rfl, hk⟩ hts hss).mono ?_
  rintro e w3 ⟨rfl, n, hn⟩
  have B3 : Hid (Below w.heap.size w w3) := Lib.hid (by rw [hn]; exact below_of_drewN _ _ _)
  have I3 := Lib.hid (I0.out.below B3.out (Nat.le_refl _))
  have G3 := Lib.hid h3
  clear hn I0 i4 h3
  cases h4 : winB L P ts ss with
  | false =>
    go_wp2
    go_ret
    exact ⟨ret_bool (by rw [deskB, h4]; simp), B3.out⟩
  | true =>
  have G4 := Lib.hid h4
  clear h4
  have i7 := I3.out.cell (i := 7) (v := .slice ats ts.length cts) rfl
  by_cases h5 : ts.length ≤ 64
  case neg =>
    go_wp2
    go_ret
    exact ⟨ret_bool (by rw [deskB, decide_eq_false h5]; simp), B3.out⟩
  case pos =>
  have i9 := I3.out.cell (i := 9) (v := .slice aks ks.length cks) rfl
  go_wp2_with fail
  refine (l08Keys_any (hks.below B3.out (Nat.le_refl _))).mono ?_
  rintro e w4 ⟨rfl, hb0⟩
  go_wp2
  go_ret
  exact ⟨ret_bool (by rw [deskB, G1.out, G2.out, G4.out, decide_eq_true G3.out, decide_eq_true h5]; rfl), B3.out.trans (hb0.mono B3.out.size)⟩

set_option maxHeartbeats 1000000 in
theorem specValidDesk_any {abs : Option Addr} {cbs : Nat} {bs : List Bool} {azs : Option Addr} {czs : Nat} {zs : List Int} {ats : Option Addr} {cts : Nat} {ts : List Int} {ass : Option Addr} {css : Nat} {ss : List Int} {aks : Option Addr} {cks : Nat} {ks : List Int} {R S Z L P : Int} {w : World} (hbs : Rd (Value.bool) w abs cbs bs) (hzs : Rd (Value.int .i64) w azs czs zs) (hts : Rd (Value.int .i64) w ats cts ts) (hss : Rd (Value.int .i64) w ass css ss) (hks : Rd (Value.int .i64) w aks cks ks) :
    Calls Try.prog 41 #[.agg #[.int .i64 R, .int .i64 S, .slice abs bs.length cbs, .int .i64 Z, .slice azs zs.length czs, .int .i64 L, .int .i64 P, .slice ats ts.length cts, .slice ass ss.length css, .slice aks ks.length cks]] w fun e w' => e = .returned (.bool (deskB R S bs Z zs L P ts ss ks)) ∧ Below w.heap.size w w' := by
  have B0 : Below w.heap.size w (w.alloc (.cells #[.int .i64 R, .int .i64 S, .slice abs bs.length cbs, .int .i64 Z, .slice azs zs.length czs, .int .i64 L, .int .i64 P, .slice ats ts.length cts, .slice ass ss.length css, .slice aks ks.length cks] 43)) := (Below.refl _ _).alloc (Nat.le_refl _) _
  have I0 : Blk (w.alloc (.cells #[.int .i64 R, .int .i64 S, .slice abs bs.length cbs, .int .i64 Z, .slice azs zs.length czs, .int .i64 L, .int .i64 P, .slice ats ts.length cts, .slice ass ss.length css, .slice aks ks.length cks] 43)) w.heap.size #[.int .i64 R, .int .i64 S, .slice abs bs.length cbs, .int .i64 Z, .slice azs zs.length czs, .int .i64 L, .int .i64 P, .slice ats ts.length cts, .slice ass ss.length css, .slice aks ks.length cks] 43 := Blk.new _ _ _
  have hk : w.heap.size < (w.alloc (.cells #[.int .i64 R, .int .i64 S, .slice abs bs.length cbs, .int .i64 Z, .slice azs zs.length czs, .int .i64 L, .int .i64 P, .slice ats ts.length cts, .slice ass ss.length css, .slice aks ks.length cks] 43)).heap.size := by simp
  have H0 := Lib.hid (And.intro B0 (And.intro I0 hk))
  clear B0 I0 hk
  go_enter Try.func41, Try.ntmps41
  go_wp2_with fail
  refine (l08Is_any (hbs.below H0.out.1 (Nat.le_refl _)) (hzs.below H0.out.1 (Nat.le_refl _)) (hts.below H0.out.1 (Nat.le_refl _)) (hss.below H0.out.1 (Nat.le_refl _)) (hks.below H0.out.1 (Nat.le_refl _)) H0.out.2.1 H0.out.2.2).mono ?_
  rintro e w1 ⟨rfl, hb0⟩
  go_wp2
  go_ret
  exact ⟨rfl, H0.out.1.trans (hb0.mono H0.out.1.size)⟩

end Go.Proofs.Ytkmmedhgpmeniaa
