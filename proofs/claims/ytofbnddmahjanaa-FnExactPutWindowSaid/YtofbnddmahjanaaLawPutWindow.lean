/- The walk of the law FnExactPutWindow. -/
import Derived.Test.YtofbnddmahjanaaPutI
import Derived.Test.YtofbnddmahjanaaWinG
import Derived.Test.YtofbnddmahjanaaHdDesk
namespace Go.Proofs.Ytofbnddmahjanaa
open Go.RowKit
attribute [local go_sem ↓] Go.wp_at_zero Go.wp_at_succ

def pwL (L P : Int) (ts ss : List Int) (t : Int) (b : Bool) : Int := if putOk L P ts ss t b then L else 0
def pwP (L P : Int) (ts ss : List Int) (t : Int) (b : Bool) : Int := if putOk L P ts ss t b then P else 0
def pwT (L P : Int) (ts ss : List Int) (t : Int) (b : Bool) : List Int := if putOk L P ts ss t b then (putP L P ts ss t b).1 else []
def pwS (L P : Int) (ts ss : List Int) (t : Int) (b : Bool) : List Int := if putOk L P ts ss t b then (putP L P ts ss t b).2 else []
theorem pw_len (L P : Int) (ts ss : List Int) (t : Int) (b : Bool) : (pwT L P ts ss t b).length ≤ 128 ∧ (pwS L P ts ss t b).length ≤ 128 := by
  unfold pwT pwS
  split
  · rename_i h
    simp only [putOk, Bool.and_eq_true] at h
    obtain ⟨_, _, _, _, h5, h6, _, _⟩ := winB_parts h.2
    omega
  · simp
theorem pw_ret {w : World} {L P : Int} {ts ss : List Int} {t : Int} {b : Bool} {en : Ending} {w' : World} (h : lateB L P ts ss t = true) (hr : RetPut w L P (putP L P ts ss t b) (winB L P (putP L P ts ss t b).1 (putP L P ts ss t b).2) en w') :
    RetWinX w (pwL L P ts ss t b) (pwP L P ts ss t b) (pwT L P ts ss t b) (pwS L P ts ss t b) (putOk L P ts ss t b) en w' := by
  unfold RetPut at hr
  have e : putOk L P ts ss t b = winB L P (putP L P ts ss t b).1 (putP L P ts ss t b).2 := by unfold putOk; rw [h]; rfl
  unfold pwL pwP pwT pwS
  rw [e]
  exact hr
theorem pw_no {w : World} {L P : Int} {ts ss : List Int} {t : Int} {b : Bool} {en : Ending} {w' : World} (h : lateB L P ts ss t = false) (hr : RetWinX w 0 0 [] [] false en w') :
    RetWinX w (pwL L P ts ss t b) (pwP L P ts ss t b) (pwT L P ts ss t b) (pwS L P ts ss t b) (putOk L P ts ss t b) en w' := by
  have e : putOk L P ts ss t b = false := by unfold putOk; rw [h]; rfl
  unfold pwL pwP pwT pwS
  rw [e]
  exact hr
theorem specPut_any {ta sa : Option Addr} {tc sc : Nat} {ts ss : List Int} {L P t : Int} {bit : Bool} {w : World} (ht : Rd (Value.int .i64) w ta tc ts) (hs : Rd (Value.int .i64) w sa sc ss) :
    Calls Try.prog 38 #[winV L P ta ts.length tc sa ss.length sc, .int .i64 t, .bool bit] w (RetWinX w (pwL L P ts ss t bit) (pwP L P ts ss t bit) (pwT L P ts ss t bit) (pwS L P ts ss t bit) (putOk L P ts ss t bit)) := by
  cases h : lateB L P ts ss t with
  | false => exact (specPut_no ht hs h).mono fun _ _ hr => pw_no h hr
  | true => exact (specPut_yes ht hs h _ (Lib.hid rfl) _ (Lib.hid rfl)).mono fun _ _ hr => pw_ret h hr
theorem implPut_any {ta sa : Option Addr} {tc sc : Nat} {ts ss : List Int} {L P t : Int} {bit : Bool} {w : World} (ht : Rd (Value.int .i64) w ta tc ts) (hs : Rd (Value.int .i64) w sa sc ss) :
    Calls Try.prog 40 #[winV L P ta ts.length tc sa ss.length sc, .int .i64 t, .bool bit] w (RetWinX w (pwL L P ts ss t bit) (pwP L P ts ss t bit) (pwT L P ts ss t bit) (pwS L P ts ss t bit) (putOk L P ts ss t bit)) := by
  cases h : lateB L P ts ss t with
  | false => exact (implPut_no ht hs h).mono fun _ _ hr => pw_no h hr
  | true => exact (implPut_yes ht hs h _ (Lib.hid rfl) _ (Lib.hid rfl)).mono fun _ _ hr => pw_ret h hr

set_option maxRecDepth 100000 in
set_option maxHeartbeats 8000000 in
theorem lawPutWindow_walk {ta sa : Option Addr} {tc sc : Nat} {ts ss : List Int} {L P t : Int} {bit : Bool} {w : World} (ht : Rd (Value.int .i64) w ta tc ts) (hs : Rd (Value.int .i64) w sa sc ss) :
    Calls Try.prog 8 #[winV L P ta ts.length tc sa ss.length sc, .int .i64 t, .bool bit] w fun e w' => e = .returned (.bool true) ∧ Below w.heap.size w w' := by
  have hlt := ht.len
  have hls := hs.len
  have HT := Lib.hid ht
  have HS := Lib.hid hs
  clear ht hs
  have hlen := pw_len L P ts ss t bit
  obtain ⟨PL, hPL⟩ : ∃ z, pwL L P ts ss t bit = z := ⟨_, rfl⟩
  obtain ⟨PP, hPP⟩ : ∃ z, pwP L P ts ss t bit = z := ⟨_, rfl⟩
  obtain ⟨QT, hQT⟩ : ∃ z, pwT L P ts ss t bit = z := ⟨_, rfl⟩
  obtain ⟨QS, hQS⟩ : ∃ z, pwS L P ts ss t bit = z := ⟨_, rfl⟩
  obtain ⟨bb, hbb⟩ : ∃ z, putOk L P ts ss t bit = z := ⟨_, rfl⟩
  rw [hQT, hQS] at hlen
  have q1 := hlen.1
  have q2 := hlen.2
  have HSP : Hid (∀ {ta sa : Option Addr} {tc sc : Nat} {w : World}, Rd (Value.int .i64) w ta tc ts → Rd (Value.int .i64) w sa sc ss → Calls Try.prog 38 #[winV L P ta ts.length tc sa ss.length sc, .int .i64 t, .bool bit] w (RetWinX w PL PP QT QS bb)) := by
    show ∀ {ta sa : Option Addr} {tc sc : Nat} {w : World}, _
    intro ta sa tc sc w h1 h2
    have := specPut_any (L := L) (P := P) (t := t) (bit := bit) h1 h2
    rwa [hPL, hPP, hQT, hQS, hbb] at this
  have HIM : Hid (∀ {ta sa : Option Addr} {tc sc : Nat} {w : World}, Rd (Value.int .i64) w ta tc ts → Rd (Value.int .i64) w sa sc ss → Calls Try.prog 40 #[winV L P ta ts.length tc sa ss.length sc, .int .i64 t, .bool bit] w (RetWinX w PL PP QT QS bb)) := by
    show ∀ {ta sa : Option Addr} {tc sc : Nat} {w : World}, _
    intro ta sa tc sc w h1 h2
    have := implPut_any (L := L) (P := P) (t := t) (bit := bit) h1 h2
    rwa [hPL, hPP, hQT, hQS, hbb] at this
  clear hlen hPL hPP hQT hQS hbb
  have hnb : (bb ^^ bb) = false := by simp
  have hnb2 : (bb != bb) = false := by simp
  have B : Hid (Below w.heap.size w (w.alloc (.cells #[.int .i64 L, .int .i64 P, .slice ta ts.length tc, .slice sa ss.length sc] 63))) := Lib.hid ((Below.refl _ _).alloc (Nat.le_refl _) _)
  have I : Hid (Blk (w.alloc (.cells #[.int .i64 L, .int .i64 P, .slice ta ts.length tc, .slice sa ss.length sc] 63)) w.heap.size #[.int .i64 L, .int .i64 P, .slice ta ts.length tc, .slice sa ss.length sc] 63) := Lib.hid (Blk.new _ _ _)
  have lw0 : w.heap.size < (w.alloc (.cells #[.int .i64 L, .int .i64 P, .slice ta ts.length tc, .slice sa ss.length sc] 63)).heap.size := by simp
  go_enter Try.func8, Try.ntmps8
  go_wp2_with fail
  generalize w.alloc (.cells #[.int .i64 L, .int .i64 P, .slice ta ts.length tc, .slice sa ss.length sc] 63) = w0 at B I lw0 ⊢
  refine (szWindow_any (HT.out.below B.out (Nat.le_refl _)) (HS.out.below B.out (Nat.le_refl _)) (by omega) (by omega)).mono ?_
  rintro e w1 ⟨rfl, hb⟩
  have z1 := hb.size
  replace B := Lib.hid (B.out.trans (hb.mono B.out.size))
  replace I := Lib.hid (I.out.below hb (Nat.le_refl _))
  clear hb
  by_cases hbig : (1048576 : Int) < ts.length + ss.length
  · rw [if_pos hbig]
    go_wp2
    go_ret
    exact ⟨rfl, B.out⟩
  rw [if_neg hbig]
  have n1 : ts.length ≤ 1048576 := by omega
  have n2 : ss.length ≤ 1048576 := by omega
  have c0 := I.out.cell (i := 0) (v := .int .i64 L) rfl
  have c1 := I.out.cell (i := 1) (v := .int .i64 P) rfl
  have c2 := I.out.cell (i := 2) (v := .slice ta ts.length tc) rfl
  have c3 := I.out.cell (i := 3) (v := .slice sa ss.length sc) rfl
  go_wp2_with fail
  refine (toWindow_any2 (HT.out.below B.out (Nat.le_refl _)) (HS.out.below B.out (Nat.le_refl _)) n1 n2).mono ?_
  rintro e w2 ⟨a2, d2, b2, e2, rfl, oT, oS, -, hb⟩
  have z2 := hb.size
  clear c0 c1 c2 c3
  replace B := Lib.hid (B.out.trans (hb.mono B.out.size))
  replace I := Lib.hid (I.out.below hb (Nat.le_refl _))
  clear hb
  have RT2 := Lib.hid oT.rd
  have RS2 := Lib.hid oS.rd
  clear oT oS
  go_wp2_with fail
  refine (HSP.out RT2.out RS2.out).mono ?_
  rintro e w3 ⟨aw, dw, bw, ew, rfl, oT, oS, -, hb⟩
  have z3 := hb.size
  replace B := Lib.hid (B.out.trans (hb.mono B.out.size))
  replace I := Lib.hid (I.out.below hb (Nat.le_refl _))
  clear hb RT2 RS2
  have LWT := Lib.hid oT.blk
  have LWS := Lib.hid oS.blk
  have WT := Lib.hid oT
  have WS := Lib.hid oS
  clear oT oS
  replace B := Lib.hid (B.out.alloc B.out.size (.cells #[.int .i64 PL, .int .i64 PP, .slice aw QT.length dw, .slice bw QS.length ew] 53))
  replace I := Lib.hid (I.out.alloc (.cells #[.int .i64 PL, .int .i64 PP, .slice aw QT.length dw, .slice bw QS.length ew] 53))
  replace WT := Lib.hid (WT.out.alloc (.cells #[.int .i64 PL, .int .i64 PP, .slice aw QT.length dw, .slice bw QS.length ew] 53))
  replace WS := Lib.hid (WS.out.alloc (.cells #[.int .i64 PL, .int .i64 PP, .slice aw QT.length dw, .slice bw QS.length ew] 53))
  have X := Lib.hid (Blk.new w3 #[.int .i64 PL, .int .i64 PP, .slice aw QT.length dw, .slice bw QS.length ew] 53)
  have z3' : w3.heap.size < (w3.alloc (.cells #[.int .i64 PL, .int .i64 PP, .slice aw QT.length dw, .slice bw QS.length ew] 53)).heap.size := by simp
  go_upto_region 6 with (fail)
  generalize w3.alloc (.cells #[.int .i64 PL, .int .i64 PP, .slice aw QT.length dw, .slice bw QS.length ew] 53) = w3' at X z3' B I WT WS ⊢
  have c0 := I.out.cell (i := 0) (v := .int .i64 L) rfl
  have c1 := I.out.cell (i := 1) (v := .int .i64 P) rfl
  have c2 := I.out.cell (i := 2) (v := .slice ta ts.length tc) rfl
  have c3 := I.out.cell (i := 3) (v := .slice sa ss.length sc) rfl
  go_wp2_with fail
  refine (toWindow_any2 (HT.out.below B.out (Nat.le_refl _)) (HS.out.below B.out (Nat.le_refl _)) n1 n2).mono ?_
  rintro e w4 ⟨ax, dx, bx, ex, rfl, oT, oS, hsx, hb⟩
  have z4 := hb.size
  clear c0 c1 c2 c3
  replace B := Lib.hid (B.out.trans (hb.mono B.out.size))
  replace I := Lib.hid (I.out.below hb (Nat.le_refl _))
  replace WT := Lib.hid (WT.out.below hb (Nat.le_refl _))
  replace WS := Lib.hid (WS.out.below hb (Nat.le_refl _))
  replace X := Lib.hid (X.out.below hb (Nat.le_refl _))
  clear hb
  have LXT := Lib.hid oT.blk
  have LXS := Lib.hid oS.blk
  have SX := Lib.hid hsx
  have XT := Lib.hid oT
  have XS := Lib.hid oS
  clear oT oS hsx
  replace B := Lib.hid (B.out.alloc B.out.size (.cells #[.int .i64 L, .int .i64 P, .slice ax ts.length dx, .slice bx ss.length ex] 53))
  replace I := Lib.hid (I.out.alloc (.cells #[.int .i64 L, .int .i64 P, .slice ax ts.length dx, .slice bx ss.length ex] 53))
  replace WT := Lib.hid (WT.out.alloc (.cells #[.int .i64 L, .int .i64 P, .slice ax ts.length dx, .slice bx ss.length ex] 53))
  replace WS := Lib.hid (WS.out.alloc (.cells #[.int .i64 L, .int .i64 P, .slice ax ts.length dx, .slice bx ss.length ex] 53))
  replace X := Lib.hid (X.out.alloc (.cells #[.int .i64 L, .int .i64 P, .slice ax ts.length dx, .slice bx ss.length ex] 53))
  replace XT := Lib.hid (XT.out.alloc (.cells #[.int .i64 L, .int .i64 P, .slice ax ts.length dx, .slice bx ss.length ex] 53))
  replace XS := Lib.hid (XS.out.alloc (.cells #[.int .i64 L, .int .i64 P, .slice ax ts.length dx, .slice bx ss.length ex] 53))
  have Y := Lib.hid (Blk.new w4 #[.int .i64 L, .int .i64 P, .slice ax ts.length dx, .slice bx ss.length ex] 53)
  have z4' : w4.heap.size < (w4.alloc (.cells #[.int .i64 L, .int .i64 P, .slice ax ts.length dx, .slice bx ss.length ex] 53)).heap.size := by simp
  go_upto_region 7 with (fail)
  generalize w4.alloc (.cells #[.int .i64 L, .int .i64 P, .slice ax ts.length dx, .slice bx ss.length ex] 53) = w4' at Y z4' B I WT WS X XT XS ⊢
  have y0 := Y.out.cell (i := 0) (v := .int .i64 L) rfl
  have y1 := Y.out.cell (i := 1) (v := .int .i64 P) rfl
  have y2 := Y.out.cell (i := 2) (v := .slice ax ts.length dx) rfl
  have y3 := Y.out.cell (i := 3) (v := .slice bx ss.length ex) rfl
  go_wp2_with fail
  refine (HIM.out XT.out.rd XS.out.rd).mono ?_
  rintro e w5 ⟨ag, dg, bg, eg, rfl, oT, oS, hsg, hb⟩
  have z5 := hb.size
  clear y0 y1 y2 y3
  replace B := Lib.hid (B.out.trans (hb.mono B.out.size))
  replace I := Lib.hid (I.out.below hb (Nat.le_refl _))
  replace WT := Lib.hid (WT.out.below hb (Nat.le_refl _))
  replace WS := Lib.hid (WS.out.below hb (Nat.le_refl _))
  replace X := Lib.hid (X.out.below hb (Nat.le_refl _))
  replace XT := Lib.hid (XT.out.below hb (Nat.le_refl _))
  replace XS := Lib.hid (XS.out.below hb (Nat.le_refl _))
  replace Y := Lib.hid (Y.out.below hb (Nat.le_refl _))
  clear hb
  have LGT := Lib.hid oT.blk
  have LGS := Lib.hid oS.blk
  have SG := Lib.hid hsg
  have GT := Lib.hid oT
  have GS := Lib.hid oS
  clear oT oS hsg
  replace B := Lib.hid (B.out.alloc B.out.size (.cells #[.int .i64 PL, .int .i64 PP, .slice ag QT.length dg, .slice bg QS.length eg] 53))
  replace I := Lib.hid (I.out.alloc (.cells #[.int .i64 PL, .int .i64 PP, .slice ag QT.length dg, .slice bg QS.length eg] 53))
  replace WT := Lib.hid (WT.out.alloc (.cells #[.int .i64 PL, .int .i64 PP, .slice ag QT.length dg, .slice bg QS.length eg] 53))
  replace WS := Lib.hid (WS.out.alloc (.cells #[.int .i64 PL, .int .i64 PP, .slice ag QT.length dg, .slice bg QS.length eg] 53))
  replace X := Lib.hid (X.out.alloc (.cells #[.int .i64 PL, .int .i64 PP, .slice ag QT.length dg, .slice bg QS.length eg] 53))
  replace XT := Lib.hid (XT.out.alloc (.cells #[.int .i64 PL, .int .i64 PP, .slice ag QT.length dg, .slice bg QS.length eg] 53))
  replace XS := Lib.hid (XS.out.alloc (.cells #[.int .i64 PL, .int .i64 PP, .slice ag QT.length dg, .slice bg QS.length eg] 53))
  replace Y := Lib.hid (Y.out.alloc (.cells #[.int .i64 PL, .int .i64 PP, .slice ag QT.length dg, .slice bg QS.length eg] 53))
  replace GT := Lib.hid (GT.out.alloc (.cells #[.int .i64 PL, .int .i64 PP, .slice ag QT.length dg, .slice bg QS.length eg] 53))
  replace GS := Lib.hid (GS.out.alloc (.cells #[.int .i64 PL, .int .i64 PP, .slice ag QT.length dg, .slice bg QS.length eg] 53))
  have G := Lib.hid (Blk.new w5 #[.int .i64 PL, .int .i64 PP, .slice ag QT.length dg, .slice bg QS.length eg] 53)
  have z5' : w5.heap.size < (w5.alloc (.cells #[.int .i64 PL, .int .i64 PP, .slice ag QT.length dg, .slice bg QS.length eg] 53)).heap.size := by simp
  go_upto_region 8 with (fail)
  generalize w5.alloc (.cells #[.int .i64 PL, .int .i64 PP, .slice ag QT.length dg, .slice bg QS.length eg] 53) = w5' at G z5' B I WT WS X XT XS Y GT GS ⊢
  have g0 := G.out.cell (i := 0) (v := .int .i64 PL) rfl
  have g1 := G.out.cell (i := 1) (v := .int .i64 PP) rfl
  have g2 := G.out.cell (i := 2) (v := .slice ag QT.length dg) rfl
  have g3 := G.out.cell (i := 3) (v := .slice bg QS.length eg) rfl
  have x0 := X.out.cell (i := 0) (v := .int .i64 PL) rfl
  have x1 := X.out.cell (i := 1) (v := .int .i64 PP) rfl
  have x2 := X.out.cell (i := 2) (v := .slice aw QT.length dw) rfl
  have x3 := X.out.cell (i := 3) (v := .slice bw QS.length ew) rfl
  go_wp2_with fail
  refine (eqWindow_same GT.out.rd GS.out.rd WT.out.rd WS.out.rd).mono ?_
  rintro e w6 ⟨rfl, hb⟩
  have z6 := hb.size
  clear g0 g1 g2 g3
  clear x0 x1 x2 x3
  replace B := Lib.hid (B.out.trans (hb.mono B.out.size))
  replace I := Lib.hid (I.out.below hb (Nat.le_refl _))
  replace WT := Lib.hid (WT.out.below hb (Nat.le_refl _))
  replace WS := Lib.hid (WS.out.below hb (Nat.le_refl _))
  replace X := Lib.hid (X.out.below hb (Nat.le_refl _))
  replace XT := Lib.hid (XT.out.below hb (Nat.le_refl _))
  replace XS := Lib.hid (XS.out.below hb (Nat.le_refl _))
  replace Y := Lib.hid (Y.out.below hb (Nat.le_refl _))
  replace GT := Lib.hid (GT.out.below hb (Nat.le_refl _))
  replace GS := Lib.hid (GS.out.below hb (Nat.le_refl _))
  replace G := Lib.hid (G.out.below hb (Nat.le_refl _))
  clear hb
  go_wp2_with fail
  have c0 := I.out.cell (i := 0) (v := .int .i64 L) rfl
  have c1 := I.out.cell (i := 1) (v := .int .i64 P) rfl
  have c2 := I.out.cell (i := 2) (v := .slice ta ts.length tc) rfl
  have c3 := I.out.cell (i := 3) (v := .slice sa ss.length sc) rfl
  have y0 := Y.out.cell (i := 0) (v := .int .i64 L) rfl
  have y1 := Y.out.cell (i := 1) (v := .int .i64 P) rfl
  have y2 := Y.out.cell (i := 2) (v := .slice ax ts.length dx) rfl
  have y3 := Y.out.cell (i := 3) (v := .slice bx ss.length ex) rfl
  have hbd : Below w6.heap.size w6 w6.drew := below_of_drewN w6 1 _
  replace B := Lib.hid (B.out.trans (hbd.mono B.out.size))
  replace I := Lib.hid (I.out.below hbd (Nat.le_refl _))
  replace WT := Lib.hid (WT.out.below hbd (Nat.le_refl _))
  replace WS := Lib.hid (WS.out.below hbd (Nat.le_refl _))
  replace X := Lib.hid (X.out.below hbd (Nat.le_refl _))
  replace XT := Lib.hid (XT.out.below hbd (Nat.le_refl _))
  replace XS := Lib.hid (XS.out.below hbd (Nat.le_refl _))
  replace Y := Lib.hid (Y.out.below hbd (Nat.le_refl _))
  replace GT := Lib.hid (GT.out.below hbd (Nat.le_refl _))
  replace GS := Lib.hid (GS.out.below hbd (Nat.le_refl _))
  replace G := Lib.hid (G.out.below hbd (Nat.le_refl _))
  clear hbd
  go_region_held3 (fun w' => w'.cell? ⟨w.heap.size, 0, none⟩ = some (.int .i64 L) ∧ w'.cell? ⟨w.heap.size, 1, none⟩ = some (.int .i64 P) ∧ w'.cell? ⟨w.heap.size, 2, none⟩ = some (.slice ta ts.length tc) ∧ w'.cell? ⟨w.heap.size, 3, none⟩ = some (.slice sa ss.length sc) ∧ w'.cell? ⟨w4.heap.size, 0, none⟩ = some (.int .i64 L) ∧ w'.cell? ⟨w4.heap.size, 1, none⟩ = some (.int .i64 P) ∧ w'.cell? ⟨w4.heap.size, 2, none⟩ = some (.slice ax ts.length dx) ∧ w'.cell? ⟨w4.heap.size, 3, none⟩ = some (.slice bx ss.length ex))
    (first | (with_reducible exact hk8.out) | (with_reducible exact hk9.out) | exact ⟨c0, c1, c2, c3, y0, y1, y2, y3⟩)
    (first
      | (go_at_call 39; refine (toWindow_any2 (HT.out.below B.out (Nat.le_refl _)) (HS.out.below B.out (Nat.le_refl _)) n1 n2).mono ?_; rintro e w8 ⟨a8, d8, b8, e8, rfl, oT8, oS8, -, hb8⟩; have I8 := I.out.below hb8 (Nat.le_refl _); have Y8 := Y.out.below hb8 (Nat.le_refl _); have hk8 := Lib.hid (And.intro (I8.cell (i := 0) (v := .int .i64 L) rfl) (And.intro (I8.cell (i := 1) (v := .int .i64 P) rfl) (And.intro (I8.cell (i := 2) (v := .slice ta ts.length tc) rfl) (And.intro (I8.cell (i := 3) (v := .slice sa ss.length sc) rfl) (And.intro (Y8.cell (i := 0) (v := .int .i64 L) rfl) (And.intro (Y8.cell (i := 1) (v := .int .i64 P) rfl) (And.intro (Y8.cell (i := 2) (v := .slice ax ts.length dx) rfl) (Y8.cell (i := 3) (v := .slice bx ss.length ex) rfl)))))))); have HI8 := Lib.hid I8; have HY8 := Lib.hid Y8; clear I8 Y8)
      | (go_at_call 41; refine (eqWindow_same (XT.out.rd.below hb8 (Nat.le_refl _)) (XS.out.rd.below hb8 (Nat.le_refl _)) oT8.rd oS8.rd).mono ?_; rintro e w9 ⟨rfl, hb9⟩; have I9 := HI8.out.below hb9 (Nat.le_refl _); have Y9 := HY8.out.below hb9 (Nat.le_refl _); have hk9 := Lib.hid (And.intro (I9.cell (i := 0) (v := .int .i64 L) rfl) (And.intro (I9.cell (i := 1) (v := .int .i64 P) rfl) (And.intro (I9.cell (i := 2) (v := .slice ta ts.length tc) rfl) (And.intro (I9.cell (i := 3) (v := .slice sa ss.length sc) rfl) (And.intro (Y9.cell (i := 0) (v := .int .i64 L) rfl) (And.intro (Y9.cell (i := 1) (v := .int .i64 P) rfl) (And.intro (Y9.cell (i := 2) (v := .slice ax ts.length dx) rfl) (Y9.cell (i := 3) (v := .slice bx ss.length ex) rfl)))))))); clear I9 Y9))
  have hbA : Below w6.drew.heap.size w6.drew w9 := hb8.trans (hb9.mono hb8.size)
  have z9 := hbA.size
  have z6d : w6.drew.heap.size = w6.heap.size := rfl
  clear hb8 hb9 oT8 oS8 hk8 hk9 HI8 HY8 c0 c1 c2 c3 y0 y1 y2 y3
  replace B := Lib.hid (B.out.trans (hbA.mono B.out.size))
  replace I := Lib.hid (I.out.below hbA (Nat.le_refl _))
  replace WT := Lib.hid (WT.out.below hbA (Nat.le_refl _))
  replace WS := Lib.hid (WS.out.below hbA (Nat.le_refl _))
  replace X := Lib.hid (X.out.below hbA (Nat.le_refl _))
  replace XT := Lib.hid (XT.out.below hbA (Nat.le_refl _))
  replace XS := Lib.hid (XS.out.below hbA (Nat.le_refl _))
  replace Y := Lib.hid (Y.out.below hbA (Nat.le_refl _))
  replace GT := Lib.hid (GT.out.below hbA (Nat.le_refl _))
  replace GS := Lib.hid (GS.out.below hbA (Nat.le_refl _))
  replace G := Lib.hid (G.out.below hbA (Nat.le_refl _))
  clear hbA
  have y0 := Y.out.cell (i := 0) (v := .int .i64 L) rfl
  have y1 := Y.out.cell (i := 1) (v := .int .i64 P) rfl
  have y2 := Y.out.cell (i := 2) (v := .slice ax ts.length dx) rfl
  have y3 := Y.out.cell (i := 3) (v := .slice bx ss.length ex) rfl
  go_wp2_with fail
  refine (markWindow_any (k0 := 1) XT.out XS.out SX.out (hi := w4.heap.size) (fun p hp => (LXT.out p hp).2) (fun p hp => (LXS.out p hp).2) (by omega)).mono ?_
  rintro e w10 ⟨rfl, -, -, ht⟩
  have z10 := ht.size
  clear y0 y1 y2 y3
  replace B := Lib.hid (B.out.trans (ht.below (by have := B.out.size; omega) B.out.size))
  replace I := Lib.hid (I.out.turned ht (.inl (by omega)))
  replace WT := Lib.hid (WT.out.turned ht (fun p hp => .inl (by have := (LWT.out p hp).2; omega)))
  replace WS := Lib.hid (WS.out.turned ht (fun p hp => .inl (by have := (LWS.out p hp).2; omega)))
  replace X := Lib.hid (X.out.turned ht (.inl (by omega)))
  clear XT
  clear XS
  replace Y := Lib.hid (Y.out.turned ht (.inr (Nat.le_refl _)))
  replace GT := Lib.hid (GT.out.turned ht (fun p hp => .inr (by have := (LGT.out p hp).1; omega)))
  replace GS := Lib.hid (GS.out.turned ht (fun p hp => .inr (by have := (LGS.out p hp).1; omega)))
  replace G := Lib.hid (G.out.turned ht (.inr (by omega)))
  clear ht
  have g0 := G.out.cell (i := 0) (v := .int .i64 PL) rfl
  have g1 := G.out.cell (i := 1) (v := .int .i64 PP) rfl
  have g2 := G.out.cell (i := 2) (v := .slice ag QT.length dg) rfl
  have g3 := G.out.cell (i := 3) (v := .slice bg QS.length eg) rfl
  have x0 := X.out.cell (i := 0) (v := .int .i64 PL) rfl
  have x1 := X.out.cell (i := 1) (v := .int .i64 PP) rfl
  have x2 := X.out.cell (i := 2) (v := .slice aw QT.length dw) rfl
  have x3 := X.out.cell (i := 3) (v := .slice bw QS.length ew) rfl
  go_wp2_with fail
  refine (eqWindow_same GT.out.rd GS.out.rd WT.out.rd WS.out.rd).mono ?_
  rintro e w11 ⟨rfl, hb⟩
  have z11 := hb.size
  clear g0 g1 g2 g3
  clear x0 x1 x2 x3
  replace B := Lib.hid (B.out.trans (hb.mono B.out.size))
  replace I := Lib.hid (I.out.below hb (Nat.le_refl _))
  replace WT := Lib.hid (WT.out.below hb (Nat.le_refl _))
  replace WS := Lib.hid (WS.out.below hb (Nat.le_refl _))
  replace X := Lib.hid (X.out.below hb (Nat.le_refl _))
  clear Y
  replace GT := Lib.hid (GT.out.below hb (Nat.le_refl _))
  replace GS := Lib.hid (GS.out.below hb (Nat.le_refl _))
  replace G := Lib.hid (G.out.below hb (Nat.le_refl _))
  clear hb
  have g0 := G.out.cell (i := 0) (v := .int .i64 PL) rfl
  have g1 := G.out.cell (i := 1) (v := .int .i64 PP) rfl
  have g2 := G.out.cell (i := 2) (v := .slice ag QT.length dg) rfl
  have g3 := G.out.cell (i := 3) (v := .slice bg QS.length eg) rfl
  go_wp2_with fail
  refine (markWindow_any (k0 := 1) GT.out GS.out SG.out (hi := w5.heap.size) (fun p hp => (LGT.out p hp).2) (fun p hp => (LGS.out p hp).2) (by omega)).mono ?_
  rintro e w12 ⟨rfl, mT, mS, ht⟩
  have z12 := ht.size
  clear g0 g1 g2 g3
  replace B := Lib.hid (B.out.trans (ht.below (by have := B.out.size; omega) B.out.size))
  replace I := Lib.hid (I.out.turned ht (.inl (by omega)))
  replace WT := Lib.hid (WT.out.turned ht (fun p hp => .inl (by have := (LWT.out p hp).2; omega)))
  replace WS := Lib.hid (WS.out.turned ht (fun p hp => .inl (by have := (LWS.out p hp).2; omega)))
  replace X := Lib.hid (X.out.turned ht (.inl (by omega)))
  clear GT
  clear GS
  replace G := Lib.hid (G.out.turned ht (.inr (Nat.le_refl _)))
  have MT := Lib.hid mT.rd
  have MS := Lib.hid mS.rd
  clear ht mT mS
  have g0 := G.out.cell (i := 0) (v := .int .i64 PL) rfl
  have g1 := G.out.cell (i := 1) (v := .int .i64 PP) rfl
  have g2 := G.out.cell (i := 2) (v := .slice ag QT.length dg) rfl
  have g3 := G.out.cell (i := 3) (v := .slice bg QS.length eg) rfl
  go_wp2_with fail
  refine (heldWindow_any (k0 := 1) MT.out MS.out (by omega)).mono ?_
  rintro e w13 ⟨rfl, hb⟩
  have z13 := hb.size
  clear g0 g1 g2 g3
  replace B := Lib.hid (B.out.trans (hb.mono B.out.size))
  replace I := Lib.hid (I.out.below hb (Nat.le_refl _))
  replace WT := Lib.hid (WT.out.below hb (Nat.le_refl _))
  replace WS := Lib.hid (WS.out.below hb (Nat.le_refl _))
  replace X := Lib.hid (X.out.below hb (Nat.le_refl _))
  replace G := Lib.hid (G.out.below hb (Nat.le_refl _))
  replace MT := Lib.hid (MT.out.below hb (Nat.le_refl _))
  replace MS := Lib.hid (MS.out.below hb (Nat.le_refl _))
  clear hb
  have c0 := I.out.cell (i := 0) (v := .int .i64 L) rfl
  have c1 := I.out.cell (i := 1) (v := .int .i64 P) rfl
  have c2 := I.out.cell (i := 2) (v := .slice ta ts.length tc) rfl
  have c3 := I.out.cell (i := 3) (v := .slice sa ss.length sc) rfl
  go_wp2_with fail
  refine (toWindow_any2 (HT.out.below B.out (Nat.le_refl _)) (HS.out.below B.out (Nat.le_refl _)) n1 n2).mono ?_
  rintro e w14 ⟨a14, d14, b14, e14, rfl, oT, oS, -, hb⟩
  have z14 := hb.size
  clear c0 c1 c2 c3
  replace B := Lib.hid (B.out.trans (hb.mono B.out.size))
  clear I
  replace WT := Lib.hid (WT.out.below hb (Nat.le_refl _))
  replace WS := Lib.hid (WS.out.below hb (Nat.le_refl _))
  replace X := Lib.hid (X.out.below hb (Nat.le_refl _))
  replace G := Lib.hid (G.out.below hb (Nat.le_refl _))
  replace MT := Lib.hid (MT.out.below hb (Nat.le_refl _))
  replace MS := Lib.hid (MS.out.below hb (Nat.le_refl _))
  clear hb
  have RT2 := Lib.hid oT.rd
  have RS2 := Lib.hid oS.rd
  clear oT oS
  go_wp2_with fail
  refine (HIM.out RT2.out RS2.out).mono ?_
  rintro e w15 ⟨ah, dh, bh, eh, rfl, oT, oS, -, hb⟩
  have z15 := hb.size
  replace B := Lib.hid (B.out.trans (hb.mono B.out.size))
  replace WT := Lib.hid (WT.out.below hb (Nat.le_refl _))
  replace WS := Lib.hid (WS.out.below hb (Nat.le_refl _))
  replace X := Lib.hid (X.out.below hb (Nat.le_refl _))
  replace G := Lib.hid (G.out.below hb (Nat.le_refl _))
  replace MT := Lib.hid (MT.out.below hb (Nat.le_refl _))
  replace MS := Lib.hid (MS.out.below hb (Nat.le_refl _))
  clear hb RT2 RS2
  have HTT := Lib.hid oT.rd
  have HSS := Lib.hid oS.rd
  clear oT oS
  have hba : Below w15.heap.size w15 (w15.alloc (.cells #[.int .i64 PL, .int .i64 PP, .slice ah QT.length dh, .slice bh QS.length eh] 53)) := (Below.refl _ _).alloc (Nat.le_refl _) _
  replace B := Lib.hid (B.out.trans (hba.mono B.out.size))
  replace WT := Lib.hid (WT.out.below hba (Nat.le_refl _))
  replace WS := Lib.hid (WS.out.below hba (Nat.le_refl _))
  replace X := Lib.hid (X.out.below hba (Nat.le_refl _))
  replace G := Lib.hid (G.out.below hba (Nat.le_refl _))
  replace MT := Lib.hid (MT.out.below hba (Nat.le_refl _))
  replace MS := Lib.hid (MS.out.below hba (Nat.le_refl _))
  replace HTT := Lib.hid (HTT.out.below hba (Nat.le_refl _))
  replace HSS := Lib.hid (HSS.out.below hba (Nat.le_refl _))
  clear hba
  have H := Lib.hid (Blk.new w15 #[.int .i64 PL, .int .i64 PP, .slice ah QT.length dh, .slice bh QS.length eh] 53)
  go_upto_region 25 with (fail)
  generalize w15.alloc (.cells #[.int .i64 PL, .int .i64 PP, .slice ah QT.length dh, .slice bh QS.length eh] 53) = w16 at H B WT WS X G MT MS HTT HSS ⊢
  have h0 := H.out.cell (i := 0) (v := .int .i64 PL) rfl
  have h1 := H.out.cell (i := 1) (v := .int .i64 PP) rfl
  have h2 := H.out.cell (i := 2) (v := .slice ah QT.length dh) rfl
  have h3 := H.out.cell (i := 3) (v := .slice bh QS.length eh) rfl
  have x0 := X.out.cell (i := 0) (v := .int .i64 PL) rfl
  have x1 := X.out.cell (i := 1) (v := .int .i64 PP) rfl
  have x2 := X.out.cell (i := 2) (v := .slice aw QT.length dw) rfl
  have x3 := X.out.cell (i := 3) (v := .slice bw QS.length ew) rfl
  go_wp2_with fail
  refine (eqWindow_same HTT.out HSS.out WT.out.rd WS.out.rd).mono ?_
  rintro e w17 ⟨rfl, hb⟩
  clear h0 h1 h2 h3
  clear x0 x1 x2 x3
  replace B := Lib.hid (B.out.trans (hb.mono B.out.size))
  clear WT
  clear WS
  clear X
  replace G := Lib.hid (G.out.below hb (Nat.le_refl _))
  replace MT := Lib.hid (MT.out.below hb (Nat.le_refl _))
  replace MS := Lib.hid (MS.out.below hb (Nat.le_refl _))
  clear HTT
  clear HSS
  clear H
  clear hb
  have g0 := G.out.cell (i := 0) (v := .int .i64 PL) rfl
  have g1 := G.out.cell (i := 1) (v := .int .i64 PP) rfl
  have g2 := G.out.cell (i := 2) (v := .slice ag QT.length dg) rfl
  have g3 := G.out.cell (i := 3) (v := .slice bg QS.length eg) rfl
  go_wp2_with fail
  refine (heldWindow_any (k0 := 1) MT.out MS.out (by omega)).mono ?_
  rintro e w18 ⟨rfl, hb⟩
  have BB := Lib.hid (B.out.trans (hb.mono B.out.size))
  clear hb
  clear g0 g1 g2 g3
  go_wp2
  go_ret
  exact ⟨rfl, BB.out⟩

end Go.Proofs.Ytofbnddmahjanaa
