/- FnForests behind the call of ForestsShared: a lone walk. (Printed by mkFoF.py.). -/
import Derived.Test.YtfecdmenliohhaaQFo45
import Derived.Test.YtfecdmenliohhaaQFo10
import Derived.Deep.Cut
import Derived.Deep.CutRange
import Derived.Deep.CutBlock
set_option linter.unusedVariables false
set_option linter.unusedSimpArgs false
set_option linter.unusedSimpArgs false
set_option linter.unusedVariables false
namespace Go.Proofs.Ytfecdmenliohhaa
open Go Go.RowKit
/-- Behind the call: the answer read. -/
structure FoT (bV : Option Addr) (m c2 N : Nat) (ys : List Int) (a6 a7 a10 a13 : Option Addr) (c6 c7 c10 c13 : Nat) (T : Array Value) (w : World) : Prop where
  size : T.size = 264
  t1 : T[1]? = some (.slice bV m c2)
  t5 : T[5]? = some (.int .i64 N)
  t6 : T[6]? = some (.slice a6 ys.length c6)
  t7 : T[7]? = some (.slice a7 (forestR N ys).length c7)
  t8 : T[8]? = some (.int .i64 (forestN N ys))
  t9 : T[9]? = some (.bool true)
  t10 : T[10]? = some (.slice a10 (forestR N ys).length c10)
  t11 : T[11]? = some (.int .i64 (forestN N ys))
  t12 : T[12]? = some (.bool true)
  t13 : T[13]? = some (.slice a13 2 c13)
  t14 : T[14]? = some (.bool true)
  o6 : Rd (Value.int .i64) w a6 c6 ys
  o7 : Rd (Value.int .i64) w a7 c7 (forestR N ys)
  o10 : Rd (Value.int .i64) w a10 c10 (forestR N ys)
  o13 : Rd (Value.int .i64) w a13 c13 [forestN N ys, (N : Int)]
/-- At the end. -/
def FoEnd (e : Exit) (a : Act) (_ : World) : Prop := e = .ret ∧ a.defers = [] ∧ a.tmps.size = 264 ∧ a.tmps[4]? = some (.bool true)
theorem rd_two {w : World} {x y : Int} (e : TypeId) : Rd (Value.int .i64) (w.alloc (.cells #[.int .i64 x, .int .i64 y] e)) (some ⟨w.heap.size, 0, none⟩) 2 [x, y] := by
  have hs : (w.alloc (.cells #[.int .i64 x, .int .i64 y] e)).heap = w.heap.push (.cells #[.int .i64 x, .int .i64 y] e) := rfl
  have hsz : (w.alloc (.cells #[.int .i64 x, .int .i64 y] e)).heap.size = w.heap.size + 1 := Array.size_push _
  refine ⟨by simp, by simp, (fun e => by cases e), fun _ => ⟨_, _, rfl, by omega⟩, fun k hk => ?_⟩
  rw [elt_some, Nat.zero_add]
  unfold World.cell?
  simp only [hs, Array.getElem?_push_size]
  match k, hk with
  | 0, _ => rfl
  | 1, _ => rfl
attribute [local go_sem ↓] Go.wp_at_zero Go.wp_at_succ
set_option maxRecDepth 100000 in
set_option maxHeartbeats 16000000 in
theorem fo_tail {bV : Option Addr} {c2 N k : Nat} {ys zs : List Int} {a6 a7 a10 a13 : Option Addr} {c6 c7 c10 c13 : Nat} {T : Array Value} {w : World} (hN1 : 2 ≤ N) (hN2 : N ≤ 8) (hk : k ≤ 9) (hE : EdgesOk N ys k) (hT : FoT bV zs.length c2 N ys a6 a7 a10 a13 c6 c7 c10 c13 T w) (h2 : Rd (Value.int .u8) w bV c2 zs) (b2 : ∀ x ∈ zs, 0 ≤ x ∧ x < 256) :
    restF8.wp Try.prog FoEnd ⟨T, []⟩ w := by
  obtain ⟨hsz, t1, t5, t6, t7, t8, t9, t10, t11, t12, t13, t14, o6, o7, o10, o13⟩ := hT
  obtain ⟨f, rfl⟩ := array264 T hsz
  clear hsz
  simp only [List.getElem?_toArray, List.getElem?_cons_zero, List.getElem?_cons_succ, Option.some.injEq] at t1 t5 t6 t7 t8 t9 t10 t11 t12 t13 t14
  rw [t1, t5, t6, t7, t8, t9, t10, t11, t12, t13, t14]
  clear t1 t5 t6 t7 t8 t9 t10 t11 t12 t13 t14
  have HE := Lib.hid hE
  have H2 := Lib.hid h2
  have B2 := Lib.hid b2
  have H6 := Lib.hid o6
  have H13 := Lib.hid o13
  have hR7 : forestN N ys = (N : Int) - ((forestR N ys).length : Int) := by unfold forestN; rw [if_pos (hE.edgesB hN1 hN2 hk)]
  have hRl : ((forestR N ys).length : Int) ≤ 9 := by
    have : (forestR N ys).length ≤ 9 := by
      unfold forestR
      rw [if_pos (hE.edgesB hN1 hN2 hk)]
      have := (forestK_len ys ((N : Int).toNat) (ys.length / 2)).2
      have := hE.1
      omega
    omega
  clear hE h2 b2 o6 o13
  generalize forestR N ys = R at *
  obtain ⟨P, hP⟩ : ∃ P, P = forestN N ys := ⟨_, rfl⟩
  rw [← hP] at hR7 H13
  rw [← hP]
  have ewP : IntKind.i64.wrap ((N : Int) - (R.length : Int)) = P := by rw [IntWalk.i64_in _ (by omega)]; omega
  have hPP : (P != P) = false := by simp
  have H7 := Lib.hid o7
  have H10 := Lib.hid o10
  clear o7 o10 hP hR7
  simp only [restF8, bodyF, dropC, Try.f3, Option.getD_some]
  go_wp2_with fail
  refine (b10Ints_same H7.out H10.out).mono ?_
  rintro e w1 ⟨rfl, hb1⟩
  have HB1 := Lib.hid hb1
  clear hb1 H7 H10
  go_wp2_with fail
  have hb2 := HB1.out.alloc HB1.out.size (.cells #[.int .i64 P, .int .i64 (N : Int)] 2)
  refine (b10Ints_same (xs := [P, (N : Int)]) (H13.out.below hb2 (Nat.le_refl _)) (rd_two (w := w1) 2)).mono ?_
  rintro e w2 ⟨rfl, hb3⟩
  have HB2 := Lib.hid (hb2.trans (hb3.mono hb2.size))
  clear hb2 hb3 HB1 H13 ewP hPP hRl
  go_wp2_with fail
  refine (b10At_any (i := 2) (n := 256) (H2.out.below HB2.out (Nat.le_refl _)) B2.out (by omega) (by omega) (by omega)).mono ?_
  rintro e _ ⟨⟨s, rfl, hs⟩, rfl⟩
  clear H2 B2
  go_wp2_with (at_make; refine wpl_make (f := Value.int .i64) (d := 0) und_ise info_i rfl 48 rfl _ _ rfl rfl rfl (by omega) (by omega) ?_; intro w3 ho0 hb0; revert ho0; generalize (some (⟨w2.heap.size, 0, none⟩ : Addr)) = A0; intro ho0)
  have HB3 := Lib.hid (HB2.out.trans (hb0.mono HB2.out.size))
  have HA0 := Lib.hid ho0.rd
  clear ho0 hb0 HB2
  have hky : ys.length / 2 = k := by rw [HE.out.1]; omega
  have HKY := Lib.hid hky
  have hAl := allS_len (N : Int) (s : Int) ys k
  have HAL := Lib.hid hAl
  clear hky hAl
  go_loopw [16, 17] (fun av nv wr => ∃ (v : Nat) (b : Option Addr) (c : Nat), v ≤ N ∧ nv = .int .i64 (v : Int) ∧ av = .slice b 48 c ∧ Hid (Rd (Value.int .i64) wr b c (allS N s ys k v)) ∧ Hid (Below w.heap.size w wr)) (fun _ nv _ => N - (intOf nv).toNat)
  case atStart => exact ⟨0, A0, 48, by omega, rfl, rfl, HA0, HB3⟩
  case round =>
    clear HA0 HB3
    obtain ⟨v, bA, cA, hv, rfl, rfl, HA, HB⟩ := hrel
    obtain ⟨w0, rfl⟩ : ∃ z, z = wr := ⟨_, rfl⟩
    by_cases hlt : v < N
    · have z1 : (v : Int) < (N : Int) := by omega
      have hH6 := H6.out.below HB.out (Nat.le_refl _)
      have hkb : eskB (N : Int) ys (v : Int) (s : Int) = true := by
        unfold eskB
        rw [HE.out.edgesB hN1 hN2 hk, show inR (v : Int) 0 ((N : Int) - 1) = true by rw [inR_eq]; omega, show isKey (s : Int) = true by unfold isKey; rw [inR_eq]; omega]
        rfl
      have hkr : eskR (N : Int) ys (v : Int) (s : Int) = esk N v s ys k := by unfold eskR; rw [hkb, HKY.out]; rfl
      have HC := implSketch_any (n := (N : Int)) (v := (v : Int)) (s := (s : Int)) hH6
      rw [hkr, hkb] at HC
      obtain ⟨L, hL⟩ : ∃ L, L = esk N v s ys k := ⟨_, rfl⟩
      have hLl : L.length = 48 := by rw [hL, esk_length]
      rw [← hL] at HC
      have HL := Lib.hid hL
      have HLL := Lib.hid hLl
      clear hkb hkr hL hLl
      go_wp2_with fail
      refine HC.mono ?_
      rintro e w4 ⟨a18, c18, rfl, ho18, hb18⟩
      rw [HLL.out]
      have HB4 := Lib.hid (HB.out.trans (hb18.mono HB.out.size))
      have H64 := Lib.hid (hH6.below hb18 (Nat.le_refl _))
      have HA4 := Lib.hid (HA.out.below hb18 (Nat.le_refl _))
      have HL4 := Lib.hid ho18.rd
      clear ho18 hb18 HB hH6 HA HC
      have HC := implEdgeIn_t (n := (N : Int)) HL4.out
      have HD : ∀ w', Rd (Value.int .i64) w' a18 c18 L → _ := fun w' h => specEdgeIn_t (n := (N : Int)) (w := w') h
      rw [HLL.out] at HC HD
      obtain ⟨p, hp⟩ : ∃ p, p = ((edgeIn L (N : Int)).getD (0, 0)).1 := ⟨_, rfl⟩
      obtain ⟨q, hq⟩ : ∃ q, q = ((edgeIn L (N : Int)).getD (0, 0)).2 := ⟨_, rfl⟩
      obtain ⟨b, hb⟩ : ∃ b, b = (edgeIn L (N : Int)).isSome := ⟨_, rfl⟩
      rw [← hp, ← hq, ← hb] at HC HD
      have HPQ := Lib.hid (And.intro hp (And.intro hq hb))
      clear hp hq hb
      go_wp2_with fail
      refine HC.mono ?_
      rintro e w5 ⟨rfl, hb5⟩
      have HB5 := Lib.hid (HB4.out.trans (hb5.mono HB4.out.size))
      have H65 := Lib.hid (H64.out.below hb5 (Nat.le_refl _))
      have HA5 := Lib.hid (HA4.out.below hb5 (Nat.le_refl _))
      have HL5 := Lib.hid (HL4.out.below hb5 (Nat.le_refl _))
      clear hb5 HB4 H64 HA4 HL4 HC
      go_wp2_with fail
      refine (HD w5 HL5.out).mono ?_
      rintro e w6 ⟨rfl, hb6⟩
      have HB6 := Lib.hid (HB5.out.trans (hb6.mono HB5.out.size))
      have H66 := Lib.hid (H65.out.below hb6 (Nat.le_refl _))
      have HA6 := Lib.hid (HA5.out.below hb6 (Nat.le_refl _))
      have HL6 := Lib.hid (HL5.out.below hb6 (Nat.le_refl _))
      clear hb6 HB5 H65 HA5 HL5 HD
      go_upto_region 20 with (fail)
      go_cut [157] from 108 to 243 (fun s157 wx => s157 = .bool false ∧ w6 = wx)
      case first =>
        have e1 : (p != p) = false := by simp
        have e2 : (q != q) = false := by simp
        cases b with
        | true =>
          go_wp2
          go_meet
          case rel => exact ⟨rfl, rfl⟩
        | false =>
          go_wp2
          go_meet
          case rel => exact ⟨rfl, rfl⟩
      case rest =>
        obtain ⟨rfl, rfl⟩ := hcut
        go_wp2_with fail
        go_loopw [26, 27, 28] (fun dv fv iv wr => ∃ j : Nat, j ≤ k ∧ iv = .int .i64 ((2 * j : Nat) : Int) ∧ dv = .int .i64 ((degC ys (v : Int) j : Nat) : Int) ∧ fv = .bool (fnd ys p q j) ∧ Hid (Below w6.heap.size w6 wr)) (fun _ _ iv _ => 2 * k + 1 - (intOf iv).toNat)
        case atStart => exact ⟨0, by omega, rfl, rfl, rfl, Lib.hid (Below.refl _ _)⟩
        case round =>
          obtain ⟨j, hj, rfl, rfl, rfl, HBJ⟩ := hrel
          have hdeg := degC_le ys (v : Int) j
          have hxr := H66.out.below HBJ.out (Nat.le_refl _)
          by_cases hjk : j < k
          · have hyl := HE.out.1
            have hl1 : 2 * (j : Int) < (ys.length : Int) := by omega
            have hl2 : (ys.length : Int) ≤ 20 := by omega
            have hi0 := rd_idxAt hxr und_is siz_is (2 * j) (by omega) (2 * (j : Int)) (by omega)
            have hi1 := rd_idxAt hxr und_is siz_is (2 * j + 1) (by omega) (2 * (j : Int) + 1) (by omega)
            have hc0 := hxr.cell (2 * j) (by omega)
            have hc1 := hxr.cell (2 * j + 1) (by omega)
            have ew : IntKind.i64.wrap (2 * (j : Int) + 1) = 2 * (j : Int) + 1 := IntWalk.i64_in _ (by omega)
            have ew2 : IntKind.i64.wrap (2 * (j : Int) + 2) = 2 * (j : Int) + 2 := IntWalk.i64_in _ (by omega)
            have ewd : IntKind.i64.wrap (((degC ys (v : Int) j : Nat) : Int) + 1) = ((degC ys (v : Int) j : Nat) : Int) + 1 := IntWalk.i64_in _ (by omega)
            clear hyl
            obtain ⟨x, hx⟩ : ∃ s, ys[2 * j]?.getD 0 = s := ⟨_, rfl⟩
            obtain ⟨y, hy⟩ : ∃ s, ys[2 * j + 1]?.getD 0 = s := ⟨_, rfl⟩
            have hd : (default : Int) = 0 := rfl
            rw [hd, hx] at hc0
            rw [hd, hy] at hc1
            have hdS : degC ys (v : Int) (j + 1) = degC ys (v : Int) j + (if x = (v : Int) ∨ y = (v : Int) then 1 else 0) := by simp only [degC, hx, hy]
            have hfS : fnd ys p q (j + 1) = (fnd ys p q j || (min x y == p && max x y == q)) := by simp only [fnd, eA, eB, hx, hy]
            have HDS := Lib.hid hdS
            have HFS := Lib.hid hfS
            clear hd hx hy hdS hfS
            obtain ⟨D, hD⟩ : ∃ D, D = degC ys (v : Int) j := ⟨_, rfl⟩
            obtain ⟨F, hF⟩ : ∃ F, F = fnd ys p q j := ⟨_, rfl⟩
            rw [← hD] at HDS ewd hdeg ⊢
            rw [← hF] at HFS ⊢
            clear hD hF
            obtain ⟨wi, rfl⟩ : ∃ z, z = wr := ⟨_, rfl⟩
            go_upto_region 27 with (fail)
            go_cut [178] from 158 to 209 (fun s178 wx => s178 = .bool (x == (v : Int) || y == (v : Int)) ∧ wi = wx)
            case first =>
              cases e1 : (x == (v : Int)) with
              | true =>
                go_wp2
                go_meet
                case rel => exact ⟨by rw [e1]; rfl, rfl⟩
              | false =>
                cases e2 : (y == (v : Int)) with
                | true =>
                  go_wp2
                  go_meet
                  case rel => exact ⟨by rw [e1, e2]; rfl, rfl⟩
                | false =>
                  go_wp2
                  go_meet
                  case rel => exact ⟨by rw [e1, e2]; rfl, rfl⟩
            case rest =>
              obtain ⟨rfl, rfl⟩ := hcut
              obtain ⟨D', hD'⟩ : ∃ D', D' = degC ys (v : Int) (j + 1) := ⟨_, rfl⟩
              have HD' := Lib.hid (hD'.trans HDS.out)
              have HDE := Lib.hid hD'
              clear hD' HDS
              go_upto_if 178 with (fail)
              go_cut [26] from 158 to 209 (fun s26 wx => s26 = .int .i64 ((D' : Nat) : Int) ∧ wi = wx)
              case first =>
                cases hxy : (x == (v : Int) || y == (v : Int)) with
                | true =>
                  have hc : x = (v : Int) ∨ y = (v : Int) := by simpa using hxy
                  have hD1 : D' = D + 1 := by rw [HD'.out, if_pos hc]
                  subst hD1
                  clear hc
                  go_wp2
                  go_meet
                  case rel => exact ⟨rfl, rfl⟩
                | false =>
                  have hc : ¬ (x = (v : Int) ∨ y = (v : Int)) := by simpa using hxy
                  have hD1 : D' = D := by rw [HD'.out, if_neg hc]; rfl
                  subst hD1
                  clear hc
                  go_wp2
                  go_meet
                  case rel => exact ⟨rfl, rfl⟩
              case rest =>
                obtain ⟨rfl, rfl⟩ := hcut
                clear HD' ewd
                obtain ⟨F', hF'⟩ : ∃ F', F' = fnd ys p q (j + 1) := ⟨_, rfl⟩
                have hF'' := hF'.trans HFS.out
                have HFE := Lib.hid hF'
                clear hF' HFS
                obtain ⟨mn, hmn⟩ : ∃ mn, (if y < x then y else x) = mn := ⟨_, rfl⟩
                obtain ⟨mx, hmx⟩ : ∃ mx, (if x < y then y else x) = mx := ⟨_, rfl⟩
                have hmn' : min x y = mn := by rw [← hmn]; split <;> omega
                have hmx' : max x y = mx := by rw [← hmx]; split <;> omega
                rw [hmn', hmx'] at hF''
                clear hmn' hmx'
                have HF := Lib.hid hF''
                clear hF''
                cases F with
                | true =>
                  have hF1 : F' = true := by rw [HF.out]; rfl
                  subst hF1
                  go_wp2_with fail
                  go_quiet (fail)
                  go_wp2
                  exact ⟨⟨j + 1, by omega, by first | rfl | (congr 1), by rw [HDE.out], by rw [← HFE.out], Lib.hid (HBJ.out.trans (below_of_drewN _ _ _))⟩, by simp [intOf]; omega⟩
                | false =>
                  cases e1 : (mn == p) with
                  | false =>
                    have hF1 : F' = false := by rw [HF.out, e1]; rfl
                    subst hF1
                    go_wp2_with fail
                    go_quiet (fail)
                    go_wp2
                    exact ⟨⟨j + 1, by omega, by first | rfl | (congr 1), by rw [HDE.out], by rw [← HFE.out], Lib.hid (HBJ.out.trans (below_of_drewN _ _ _))⟩, by simp [intOf]; omega⟩
                  | true =>
                    cases e2 : (mx == q) with
                    | false =>
                      have hF1 : F' = false := by rw [HF.out, e1, e2]; rfl
                      subst hF1
                      go_wp2_with fail
                      go_quiet (fail)
                      go_wp2
                      exact ⟨⟨j + 1, by omega, by first | rfl | (congr 1), by rw [HDE.out], by rw [← HFE.out], Lib.hid (HBJ.out.trans (below_of_drewN _ _ _))⟩, by simp [intOf]; omega⟩
                    | true =>
                      have hF1 : F' = true := by rw [HF.out, e1, e2]; rfl
                      subst hF1
                      go_wp2_with fail
                      go_quiet (fail)
                      go_wp2
                      exact ⟨⟨j + 1, by omega, by first | rfl | (congr 1), by rw [HDE.out], by rw [← HFE.out], Lib.hid (HBJ.out.trans (below_of_drewN _ _ _))⟩, by simp [intOf]; omega⟩
          · obtain rfl : j = k := by omega
            have hyl := HE.out.1
            have hl1 : ¬ 2 * (j : Int) < (ys.length : Int) := by omega
            have hl2 : (ys.length : Int) ≤ 20 := by omega
            clear hyl
            have hq : degC ys (v : Int) j = 1 → b = true ∧ fnd ys p q j = true ∧ (p = (v : Int) ∨ q = (v : Int)) := by
              intro h1
              obtain ⟨a', b', g1, g2, g3⟩ := deg_one (salt := (s : Int)) HE.out hN1 hN2 hk h1
              obtain ⟨hp, hq, hb⟩ := HPQ.out
              rw [HL.out, g1] at hp hq hb
              subst hp hq hb
              exact ⟨rfl, g2, g3⟩
            generalize degC ys (v : Int) j = D at hq hdeg ⊢
            generalize fnd ys p q j = F at hq ⊢
            have HQ := Lib.hid hq
            clear hq
            go_upto_region 30 with (fail)
            go_cut [229] from 108 to 243 (fun s229 wx => s229 = .bool false ∧ wr = wx)
            case first =>
              by_cases hD : D = 1
              · obtain ⟨h1, h2, h3⟩ := HQ.out hD
                subst hD h1 h2
                clear HQ
                by_cases hpv : p = (v : Int)
                · have e1 : (p != (v : Int)) = false := by simpa using hpv
                  clear hpv h3
                  go_wp2
                  go_meet
                  case rel => exact ⟨rfl, rfl⟩
                · have e1 : (p != (v : Int)) = true := by simpa using hpv
                  have e2 : (q != (v : Int)) = false := by simpa using h3.resolve_left hpv
                  clear hpv h3
                  go_wp2
                  go_meet
                  case rel => exact ⟨rfl, rfl⟩
              · have e1 : ((D : Int) == 1) = false := by simp; omega
                clear hD HQ
                go_wp2
                go_meet
                case rel => exact ⟨rfl, rfl⟩
            case rest =>
              obtain ⟨rfl, rfl⟩ := hcut
              clear HQ
              have HB7 := Lib.hid (HB6.out.trans (HBJ.out.mono HB6.out.size))
              have HA7 := Lib.hid (HA6.out.below HBJ.out (Nat.le_refl _))
              have HL7 := Lib.hid (HL6.out.below HBJ.out (Nat.le_refl _))
              clear HB6 HA6 HL6 H66 hxr HBJ HPQ
              have hs1 : sums (allS (N : Int) s ys j v) = true := sums_allS (HE.out.eM hN2) (by omega) (by omega)
              have hs2 : sums L = true := by rw [HL.out]; exact sums_esk (HE.out.eM hN2) (by omega)
              have hjn : joinR (allS (N : Int) s ys j v) L = allS (N : Int) s ys j (v + 1) := by
                unfold joinR
                rw [hs1, hs2, HL.out]
                rfl
              have HC := implJoin_any HA7.out HL7.out
              rw [hs1, hs2, hjn, HAL.out, HLL.out] at HC
              have hv1 := HAL.out (v + 1)
              have HV1 := Lib.hid hv1
              clear hs1 hs2 hjn hv1
              go_wp2_with fail
              refine HC.mono ?_
              rintro e w8 ⟨a29, c29, rfl, ho29, hb8⟩
              rw [HV1.out]
              have HB8 := Lib.hid (HB7.out.trans (hb8.mono HB7.out.size))
              have HA8 := Lib.hid ho29.rd
              clear ho29 hb8 HC
              go_wp2_with fail
              exact ⟨⟨v + 1, a29, c29, by omega, by first | rfl | (congr 1), rfl, HA8, HB8⟩, by simp [intOf]; omega⟩
    · obtain rfl : v = N := by omega
      have z1 : ¬ (v : Int) < (v : Int) := by omega
      have hz := all_zero (salt := (s : Int)) HE.out hN2 hk
      have hlA := HAL.out v
      generalize allS (v : Int) s ys k v = L at HA hz hlA
      have HLA := Lib.hid hlA
      have HZ := Lib.hid hz
      clear hlA hz HAL HKY H6 HE
      go_wp2_with fail
      go_loopw [246] (fun iv wr => ∃ j : Nat, j ≤ 48 ∧ iv = .int .i64 (j : Int) ∧ w0 = wr) (fun iv _ => 48 - (intOf iv).toNat)
      case atStart => exact ⟨0, by omega, rfl, rfl⟩
      case round =>
        obtain ⟨j, hj, rfl, rfl⟩ := hrel
        by_cases hjk : j < 48
        · have hl1 : (j : Int) < 48 := by omega
          have hi0 := rd_idxAt HA.out und_is siz_is j (by rw [HLA.out]; exact hjk) (j : Int) rfl
          have hc0 := HA.out.cell j (by rw [HLA.out]; exact hjk)
          have hd : (default : Int) = 0 := rfl
          rw [hd, HZ.out j] at hc0
          rw [HLA.out] at hi0
          have ew : IntKind.i64.wrap ((j : Int) + 1) = (j : Int) + 1 := IntWalk.i64_in _ (by omega)
          clear hd
          go_wp2_with fail
          exact ⟨⟨j + 1, by omega, by first | rfl | (congr 1), by first | rfl | trivial⟩, by simp [intOf]; omega⟩
        · obtain rfl : j = 48 := by omega
          have hl1 : ¬ ((48 : Nat) : Int) < 48 := by omega
          have HC := implEdgeIn_t (n := (v : Int)) HA.out
          rw [edgeIn_zero HZ.out, HLA.out] at HC
          go_wp2_with fail
          refine HC.mono ?_
          rintro e w5 ⟨rfl, hb5⟩
          clear hb5 HC
          go_wp2_with fail
          exact ⟨rfl, rfl, rfl, rfl⟩
end Go.Proofs.Ytfecdmenliohhaa
