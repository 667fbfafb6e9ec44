/- The walk of the law FnExactNearPairs. -/
import Derived.Test.YtofbnddmahjanaaNearR
namespace Go.Proofs.Ytofbnddmahjanaa
open Go.RowKit

set_option maxRecDepth 100000 in
set_option maxHeartbeats 4000000 in
theorem lawNearPairs_walk {a : Option Addr} {c : Nat} {hs : List Hd} {xss : List (List Nat)} {v : Nat} {w : World} (hr : Rd2 (Value.float .f32) w a c hs xss) :
    Calls Try.prog 9 #[.slice a xss.length c, .float .f32 v] w fun e w' => e = .returned (.bool true) ∧ Below w.heap.size w w' := by
  obtain ⟨L, hL⟩ : ∃ L, nearR xss v = L := ⟨_, rfl⟩
  obtain ⟨bb, hbb⟩ : ∃ b, nearOk xss v = b := ⟨_, rfl⟩
  have hll : L.length ≤ 2048 := by rw [← hL]; exact nearR_len xss v
  have HSP : Hid (∀ {a : Option Addr} {c : Nat} {hs : List Hd} {w : World}, Rd2 (Value.float .f32) w a c hs xss → Calls Try.prog 45 #[.slice a xss.length c, .float .f32 v] w (RetSB (Value.int .i64) 2 w L bb)) := by
    show ∀ {a : Option Addr} {c : Nat} {hs : List Hd} {w : World}, _
    intro a c hs w h
    have := specNear_any (far := v) h
    rwa [hL, hbb] at this
  have HIM : Hid (∀ {a : Option Addr} {c : Nat} {hs : List Hd} {w : World}, Rd2 (Value.float .f32) w a c hs xss → Calls Try.prog 47 #[.slice a xss.length c, .float .f32 v] w (RetSB (Value.int .i64) 2 w L bb)) := by
    show ∀ {a : Option Addr} {c : Nat} {hs : List Hd} {w : World}, _
    intro a c hs w h
    have := implNear_any (far := v) h
    rwa [hL, hbb] at this
  have HR := Lib.hid hr
  have hnb : (bb ^^ bb) = false := by simp
  have hnb2 : (bb != bb) = false := by simp
  clear hL hbb hr
  go_enter Try.func9, Try.ntmps9
  go_wp2_with fail
  refine (szFF_any HR.out).mono ?_
  rintro e w1 ⟨hsz, rfl⟩
  rcases hsz with rfl | ⟨hsz, r, hr0, rfl⟩
  · go_wp2
    go_ret
    exact ⟨rfl, Below.refl _ _⟩
  have HSZ := Lib.hid hsz
  clear hsz
  go_wp2_with fail
  refine (toFF_any HR.out HSZ.out).mono ?_
  rintro e w2 ⟨a2, c2, hs2, rfl, o2, b2⟩
  have B2 := Lib.hid b2
  have s2 := b2.size
  have R2 := Lib.hid o2.rd
  clear b2 o2
  go_wp2_with fail
  refine (HSP.out R2.out).mono ?_
  rintro e w3 ⟨aw, cw, rfl, ow, b3⟩
  have B3 := Lib.hid (B2.out.trans (b3.mono s2))
  have s3 := b3.size
  have LW := Lib.hid ow.blk
  have OW := Lib.hid ow
  clear b3 ow B2 R2
  go_wp2_with fail
  refine (toFF_any (HR.out.below B3.out (Nat.le_refl _)) HSZ.out).mono ?_
  rintro e w4 ⟨ax, cx, hsx, rfl, ox, b4⟩
  have B4 := Lib.hid (B3.out.trans (b4.mono B3.out.size))
  have s4 := b4.size
  have OW4 := Lib.hid (OW.out.below b4 (Nat.le_refl _))
  have OX := Lib.hid ox
  have KX := Lib.hid ox.blks
  have LX := Lib.hid ox.top.blk
  clear b4 ox OW B3
  go_wp2_with fail
  refine (HIM.out OX.out.rd).mono ?_
  rintro e w5 ⟨ag, cg, rfl, og, b5⟩
  have B5 := Lib.hid (B4.out.trans (b5.mono B4.out.size))
  have s5 := b5.size
  have OW5 := Lib.hid (OW4.out.below b5 (Nat.le_refl _))
  have OX5 := Lib.hid (OX.out.below b5 (Nat.le_refl _))
  have LG := Lib.hid og.blk
  have OG := Lib.hid og
  clear b5 og OW4 OX B4
  go_wp2_with fail
  refine (eqI_any OG.out.rd OW5.out.rd).mono ?_
  rintro e w6 ⟨rfl, b6⟩
  have B6 := Lib.hid (B5.out.trans (b6.mono B5.out.size))
  have s6 := b6.size
  have OW6 := Lib.hid (OW5.out.below b6 (Nat.le_refl _))
  have OX6 := Lib.hid (OX5.out.below b6 (Nat.le_refl _))
  have OG6 := Lib.hid (OG.out.below b6 (Nat.le_refl _))
  clear b6 OW5 OX5 OG B5
  go_wp2_with fail
  refine (toFF_any (HR.out.below B6.out (Nat.le_refl _)) HSZ.out).mono ?_
  rintro e w7 ⟨a7, c7, hs7, rfl, o7, b7⟩
  have B7 := Lib.hid (B6.out.trans (b7.mono B6.out.size))
  have s7 := b7.size
  have OW7 := Lib.hid (OW6.out.below b7 (Nat.le_refl _))
  have OX7 := Lib.hid (OX6.out.below b7 (Nat.le_refl _))
  have OG7 := Lib.hid (OG6.out.below b7 (Nat.le_refl _))
  have R7 := Lib.hid o7.rd
  clear b7 o7 OW6 OX6 OG6 B6
  go_wp2_with fail
  refine (eqFF_same OX7.out.rd R7.out).mono ?_
  rintro e w8 ⟨rfl, b8⟩
  have B8 := Lib.hid (B7.out.trans (b8.mono B7.out.size))
  have s8 := b8.size
  have OW8 := Lib.hid (OW7.out.below b8 (Nat.le_refl _))
  have OX8 := Lib.hid (OX7.out.below b8 (Nat.le_refl _))
  have OG8 := Lib.hid (OG7.out.below b8 (Nat.le_refl _))
  clear b8 R7 OW7 OX7 OG7 B7
  go_wp2_with fail
  refine (markFF_any OX8.out HSZ.out (hi := w4.heap.size) KX.out).mono ?_
  rintro e w9 ⟨k, k0, k1, rfl, ht⟩
  have B9 := Lib.hid (B8.out.trans (ht.below (B8.out.size |> fun _ => by have := B8.out.size; omega) (B8.out.size)))
  have s9 := ht.size
  have OW9 := Lib.hid (OW8.out.turned ht (fun p hp => .inl (LW.out p hp).2))
  have OG9 := Lib.hid (OG8.out.turned ht (fun p hp => .inr (LG.out p hp).1))
  clear ht OW8 OX8 OG8 B8
  go_wp2_with fail
  refine (eqI_any OG9.out.rd OW9.out.rd).mono ?_
  rintro e w10 ⟨rfl, b10⟩
  have B10 := Lib.hid (B9.out.trans (b10.mono B9.out.size))
  have s10 := b10.size
  have OW10 := Lib.hid (OW9.out.below b10 (Nat.le_refl _))
  have OG10 := Lib.hid (OG9.out.below b10 (Nat.le_refl _))
  clear b10 OW9 OG9 B9
  go_wp2_with fail
  refine (markI_any (k0 := 1) OG10.out (by omega)).mono ?_
  rintro e w11 ⟨rfl, om, hg⟩
  have B11 := Lib.hid (B10.out.trans (grown_belowOwn OG10.out hg (by have := B10.out.size; omega) B10.out.size))
  have s11 := hg.size
  have OW11 := Lib.hid (OW10.out.keptBlk hg LW.out LG.out (by omega))
  have OG11 := Lib.hid om
  clear om hg OW10 OG10 B10
  go_wp2_with fail
  refine (heldI_any (k0 := 1) OG11.out.rd (by omega)).mono ?_
  rintro e w12 ⟨rfl, b12⟩
  have B12 := Lib.hid (B11.out.trans (b12.mono B11.out.size))
  have OW12 := Lib.hid (OW11.out.below b12 (Nat.le_refl _))
  have OG12 := Lib.hid (OG11.out.below b12 (Nat.le_refl _))
  clear b12 OW11 OG11 B11
  go_wp2_with fail
  refine (toFF_any (HR.out.below B12.out (Nat.le_refl _)) HSZ.out).mono ?_
  rintro e w13 ⟨a13, c13, hs13, rfl, o13, b13⟩
  have B13 := Lib.hid (B12.out.trans (b13.mono B12.out.size))
  have OW13 := Lib.hid (OW12.out.below b13 (Nat.le_refl _))
  have OG13 := Lib.hid (OG12.out.below b13 (Nat.le_refl _))
  have R13 := Lib.hid o13.rd
  clear b13 o13 OW12 OG12 B12
  go_wp2_with fail
  refine (HIM.out R13.out).mono ?_
  rintro e w14 ⟨ah, ch, rfl, oh, b14⟩
  have B14 := Lib.hid (B13.out.trans (b14.mono B13.out.size))
  have OW14 := Lib.hid (OW13.out.below b14 (Nat.le_refl _))
  have OG14 := Lib.hid (OG13.out.below b14 (Nat.le_refl _))
  have OH := Lib.hid oh
  clear b14 oh R13 OW13 OG13 B13
  go_wp2_with fail
  refine (eqI_any OH.out.rd OW14.out.rd).mono ?_
  rintro e w15 ⟨rfl, b15⟩
  have B15 := Lib.hid (B14.out.trans (b15.mono B14.out.size))
  have OG15 := Lib.hid (OG14.out.below b15 (Nat.le_refl _))
  clear b15 OH OW14 OG14 B14
  go_wp2_with fail
  refine (heldI_any (k0 := 1) OG15.out.rd (by omega)).mono ?_
  rintro e w16 ⟨rfl, b16⟩
  have B16 := Lib.hid (B15.out.trans (b16.mono B15.out.size))
  clear b16 OG15 B15
  go_wp2
  go_ret
  exact ⟨rfl, B16.out⟩

end Go.Proofs.Ytofbnddmahjanaa
