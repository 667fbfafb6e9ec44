/- The laws' helpers on lists of lists of float32. -/
import Derived.Test.YtofbnddmahjanaaNest
import Derived.Test.YtofbnddmahjanaaEqF
import Derived.Test.YtofbnddmahjanaaMkF
import Derived.Test.YtofbnddmahjanaaCalm
namespace Go.Proofs.Ytofbnddmahjanaa
open Go.RowKit

theorem und_ffs : Try.prog.underlying 71 = some (.slice (Try.prog.elem 71)) := by kernel_rfl
theorem siz_ffs (w : World) : (sizeOf (Try.prog.elem 71)).run Try.prog w = .ok 1 w := by kernel_rfl
theorem und_ffse : Try.prog.underlying 71 = some (.slice 130) := by kernel_rfl
theorem info_ff : (Try.prog.info? 130).map (fun i => (i.zero, i.size, i.bytes)) = some (some (hdV (none, 0, 0)), 1, 24) := by kernel_rfl

theorem szF_any {a : Option Addr} {c : Nat} {xs : List Nat} {l : Int} {w : World} (hr : Rd (Value.float .f32) w a c xs) (l0 : 0 ≤ l) (l1 : l ≤ 1048576) :
    Calls Try.prog 101 #[.slice a xs.length c, .int .i64 l] w fun e w' => e = .returned (.int .i64 (if l < xs.length then -1 else l - xs.length)) ∧ w = w' := by
  have hln := hr.len
  by_cases h : l < xs.length
  · have e : (if l < (xs.length : Int) then -1 else l - (xs.length : Int)) = -1 := if_pos h
    rw [e]
    clear e
    go_enter Try.func101, Try.ntmps101
    go_wp2
    go_ret
    exact ⟨rfl, rfl⟩
  · have e : (if l < (xs.length : Int) then -1 else l - (xs.length : Int)) = l - xs.length := if_neg h
    rw [e]
    clear e
    go_enter Try.func101, Try.ntmps101
    go_wp2
    go_ret
    exact ⟨rfl, rfl⟩

set_option maxHeartbeats 800000 in
theorem szFF_any {a : Option Addr} {c : Nat} {hs : List Hd} {xss : List (List Nat)} {w : World} (hr : Rd2 (Value.float .f32) w a c hs xss) :
    Calls Try.prog 44 #[.slice a xss.length c, .int .i64 1048576] w fun e w' => SzOk (size2 xss) e ∧ w = w' := by
  have hln := hr.lens
  by_cases hbig : 1048576 < xss.length
  · go_enter Try.func44, Try.ntmps44
    go_wp2
    go_ret
    exact ⟨.inl rfl, rfl⟩
  · go_enter Try.func44, Try.ntmps44
    go_wp2
    go_loop [1, 5] (fun l i => ∃ (k : Nat) (r : Int), k ≤ xss.length ∧ i = .int .i64 k ∧ l = .int .i64 r ∧ 0 ≤ r ∧ r ≤ 1048576 ∧ Hid (r = 1048576 - xss.length - ((((xss.take k).map List.length).foldl (· + ·) 0 : Nat) : Int))) (fun _ i => xss.length - (intOf i).toNat)
    case atStart => exact ⟨0, _, Nat.zero_le _, rfl, rfl, by omega, by omega, by show _ = _; simp⟩
    case round =>
      obtain ⟨k, r, hk, rfl, rfl, hr0, hr1, HR⟩ := hrel
      by_cases hlt : k < xss.length
      · obtain ⟨a2, c2, hcx, hrow⟩ := hr.at hlt
        have hts := sum_take_succ hlt
        have HTS := Lib.hid hts
        have hix := hr.top.idx und_ffs siz_ffs
        rw [hr.len] at hix
        obtain ⟨n, hn⟩ : ∃ n, xss[k].length = n := ⟨_, rfl⟩
        have hc := szF_any (l := r) hrow hr0 hr1
        rw [hn] at hcx hc
        have HC := Lib.hid hc
        have HN := Lib.hid hn
        clear hts hc hn hrow
        by_cases hs : r < n
        · go_wp2_with fail
          refine HC.out.mono ?_
          rintro e w1 ⟨rfl, rfl⟩
          rw [if_pos hs]
          go_wp2
          go_ret
          exact ⟨.inl rfl, rfl⟩
        · go_wp2_with fail
          refine HC.out.mono ?_
          rintro e w1 ⟨rfl, rfl⟩
          rw [if_neg (by omega)]
          go_wp2
          go_round
          case rel => exact ⟨k + 1, r - n, by omega, by go_num, rfl, by omega, by omega, by show _ = _; rw [HTS.out, HR.out, HN.out]; omega⟩
          case measure => simp [intOf]; omega
      · obtain rfl : k = xss.length := by omega
        go_wp2
        go_ret
        refine ⟨.inr ⟨?_, r, hr0, rfl⟩, rfl⟩
        have h := HR.out
        rw [List.take_length] at h
        unfold size2
        omega

set_option maxHeartbeats 800000 in
theorem toFF_any {a : Option Addr} {c : Nat} {hs : List Hd} {xss : List (List Nat)} {w : World} (hr : Rd2 (Value.float .f32) w a c hs xss) (hn : size2 xss ≤ 1048576) :
    Calls Try.prog 46 #[.slice a xss.length c] w (RetSS (Value.float .f32) 22 130 w xss) := by
  have hl : xss.length ≤ 1048576 := by unfold size2 at hn; omega
  have HN := Lib.hid hn
  clear hn
  go_enter Try.func46, Try.ntmps46
  go_wp2_with (at_make; refine wpl_make (f := hdV) (d := (none, 0, 0)) und_ffse info_ff rfl xss.length rfl _ _ rfl rfl rfl (by omega) (by omega) ?_; intro w1 ho0 hb0)
  go_loopw [4] (fun i wr => ∃ (k : Nat) (hs' : List Hd), k ≤ xss.length ∧ i = .int .i64 k ∧ Mk2 (Value.float .f32) 22 130 w wr xss.length hs' xss k) (fun i _ => xss.length - (intOf i).toNat)
  case atStart => exact ⟨0, [], Nat.zero_le _, rfl, ⟨by simpa using ho0, rfl, fun i hi => by omega, fun i j hd hd' _ h => by simp at h, hb0⟩⟩
  case round =>
    obtain ⟨k, hs', hk, rfl, hM⟩ := hrel
    clear ho0 hb0
    by_cases hlt : k < xss.length
    · have hr2 := hr.below hM.B (Nat.le_refl _)
      obtain ⟨a2, c2, hcx, hrow⟩ := hr2.at hlt
      have hix := hr2.top.idx und_ffs siz_ffs
      rw [hr2.len] at hix
      have hln : (hs' ++ List.replicate (xss.length - k) ((none, 0, 0) : Hd)).length = xss.length := by simp [hM.len]; omega
      have hio := hM.top.idx und_ffs siz_ffs
      rw [hln] at hio
      obtain ⟨v1, hcs⟩ : ∃ v, wr.cell? (elt (some ⟨w.heap.size, 0, none⟩) k) = some v := ⟨_, hM.top.cell k (by rw [hln]; exact hlt)⟩
      have hfz := hM.top.free k (by rw [hln]; exact hlt)
      have hxs : xss[k]? = some xss[k] := List.getElem?_eq_getElem hlt
      have hsz := size2_row hlt HN.out
      have HROW := Lib.hid hrow
      have HM := Lib.hid hM
      have HX := Lib.hid hxs
      generalize xss[k] = row at hcx HROW hsz HX
      clear hln hM hxs hr2 hrow
      go_wp2_with fail
      refine (toF_any HROW.out hsz).mono ?_
      rintro e w2 ⟨a3, c3, rfl, ho3, hb3⟩
      have hst := HM.out.step hlt HX.out hb3 ho3
      have hcs2 : w2.cell? (elt (some ⟨w.heap.size, 0, none⟩) k) = some v1 := k_below hb3 (Nat.le_refl _) hcs
      have hfz2 : w2.frozen? (elt (some ⟨w.heap.size, 0, none⟩) k) = false := by
        have htb := HM.out.top.blk ⟨w.heap.size, 0, none⟩ rfl
        rw [← hfz]
        exact hb3.frozen (p := elt (some ⟨w.heap.size, 0, none⟩) k) htb.2
      have HST := Lib.hid hst
      clear hst hb3 ho3 hcs hfz hcx
      go_wp2
      go_roundw
      case rel => exact ⟨k + 1, _, by omega, by go_num, HST.out⟩
      case measure => simp [intOf]; omega
    · obtain rfl : k = xss.length := by omega
      have HM := Lib.hid hM
      clear hM
      go_wp2
      go_ret
      exact ⟨_, _, _, rfl, HM.out.done rfl, HM.out.B⟩

set_option maxHeartbeats 800000 in
theorem eqFF_same {a1 a2 : Option Addr} {c1 c2 : Nat} {hs1 hs2 : List Hd} {xss : List (List Nat)} {w : World} (hx : Rd2 (Value.float .f32) w a1 c1 hs1 xss) (hy : Rd2 (Value.float .f32) w a2 c2 hs2 xss) :
    Calls Try.prog 48 #[.slice a1 xss.length c1, .slice a2 xss.length c2] w fun e w' => e = .returned (.bool true) ∧ Below w.heap.size w w' := by
  have hln := hx.lens
  have hd : ((xss.length : Int) != (xss.length : Int)) = false := by simp
  go_enter Try.func48, Try.ntmps48
  go_wp2
  go_loopw [5] (fun i wr => ∃ k : Nat, k ≤ xss.length ∧ i = .int .i64 k ∧ Below w.heap.size w wr) (fun i _ => xss.length - (intOf i).toNat)
  case atStart => exact ⟨0, Nat.zero_le _, rfl, Below.refl _ _⟩
  case round =>
    obtain ⟨k, hk, rfl, hb⟩ := hrel
    clear hd
    by_cases hlt : k < xss.length
    · obtain ⟨ι, hne, G, hG, hS⟩ := calm_family wr
      have hxr := hx.below hb (Nat.le_refl _)
      have hyr := hy.below hb (Nat.le_refl _)
      obtain ⟨b1, d1, hcx, hrx⟩ := hxr.at hlt
      obtain ⟨b2, d2, hcy, hry⟩ := hyr.at hlt
      have hcx' := fun i => k_at (hG i) hcx
      have hcy' := fun i => k_at (hG i) hcy
      have hix := hxr.top.idx und_ffs siz_ffs
      rw [hxr.len] at hix
      have hiy := hyr.top.idx und_ffs siz_ffs
      rw [hyr.len] at hiy
      have HC := Lib.hid (fun i => eqF_any (hrx.below (hG i) (Nat.le_refl _)) (hry.below (hG i) (Nat.le_refl _)) rfl)
      have HG := Lib.hid hG
      have HSU := Lib.hid hS
      generalize xss[k] = row at hcx' hcy' HC
      clear hG hS hcx hcy hrx hry hxr hyr
      go_wp2_with fail
      refine wp_region_calm (G := G) (by kernel_rfl) (by kernel_rfl) HSU.out ?_
      repeat (go_big_quiet_step ((go_at_call 111; exact calm_call HG.out HSU.out (HC.out _))))
      refine wpQuiet_nil ?_
      intro _ hw'
      obtain ⟨i, hw''⟩ := hw'
      subst hw''
      have hb2 := hb.trans ((HG.out i).mono hb.size)
      clear hcx' hcy' HC
      generalize G i = w2 at hb2 ⊢
      go_wp2
      go_roundw
      case rel => exact ⟨k + 1, by omega, by go_num, hb2⟩
      case measure => simp [intOf]; omega
    · go_wp2
      go_ret
      exact ⟨rfl, hb⟩

set_option maxHeartbeats 800000 in
theorem markFF_any {a : Option Addr} {c base : Nat} {hs : List Hd} {xss : List (List Nat)} {w : World} (ho : Own2 (Value.float .f32) 22 130 w base a c hs xss) (hn : size2 xss ≤ 1048576) {hi : Nat} (kh : ∀ (i : Nat) (hd : Hd) (p : Addr), hs[i]? = some hd → hd.1 = some p → p.block < hi) :
    Calls Try.prog 49 #[.slice a xss.length c, .int .i64 1] w (RetMM base hi w) := by
  have hln := ho.rd.lens
  have HN := Lib.hid hn
  have HO := Lib.hid ho
  have HL := Lib.hid ho.len
  have KH := Lib.hid kh
  clear ho hn kh
  go_enter Try.func49, Try.ntmps49
  go_wp2
  go_loopw [1, 5] (fun kk i wr => ∃ (k : Nat) (s : Nat) (yss : List (List Nat)), k ≤ xss.length ∧ i = .int .i64 k ∧ kk = .int .i64 (s : Int) ∧ s ≤ 1048577 ∧ Hid (s = 1 + ((xss.take k).map List.length).foldl (· + ·) 0) ∧ Hid (yss.map List.length = xss.map List.length) ∧ Own2 (Value.float .f32) 22 130 wr base a c hs yss ∧ Turned base hi w wr) (fun _ i _ => xss.length - (intOf i).toNat)
  case atStart => exact ⟨0, 1, xss, Nat.zero_le _, rfl, rfl, by omega, by show _ = _; simp, by show _ = _; rfl, HO.out, Turned.refl _ _ _⟩
  case round =>
    obtain ⟨k, s, yss, hk, rfl, rfl, hs1, HS, HY, hO, hT⟩ := hrel
    by_cases hlt : k < xss.length
    · have hyl : yss.length = xss.length := by have := congrArg List.length HY.out; simpa using this
      obtain ⟨hd, ys, h1, h2, h3, h4, _⟩ := hO.row k (by rw [hyl]; exact hlt)
      have h5 : ys.length = xss[k].length := by
        have : (yss.map List.length)[k]? = (xss.map List.length)[k]? := by rw [HY.out]
        simpa [h2, hlt] using this
      have hsum := sum_take_succ hlt
      have hle := sum_take_le xss (k + 1)
      have hn := HN.out
      unfold size2 at hn
      have hbd : s + ys.length ≤ 1048577 := by rw [h5, HS.out]; omega
      have HSUM := Lib.hid hsum
      have H5 := Lib.hid h5
      have H1 := Lib.hid h1
      have H2 := Lib.hid h2
      have H3 := Lib.hid h3
      have HOO := Lib.hid hO
      have HHL := Lib.hid (hO.len)
      have hcx : wr.cell? (elt a k) = some (.slice hd.1 ys.length hd.2.2) := by
        rw [hO.top.rd.cell k (by rw [hO.len, hyl]; exact hlt), h1, Option.getD_some]
        show some (hdV hd) = _
        rw [hdV, h3]
      have hix := hO.top.idx und_ffs siz_ffs
      rw [HL.out] at hix
      have hbk : ∀ p, hd.1 = some p → base ≤ p.block ∧ p.block < hi := fun p hp => by
        obtain ⟨hd2, xs2, g1, _, _, g4, _⟩ := HO.out.row k hlt
        rw [H1.out] at g1
        have : hd = hd2 := by simpa using g1
        subst this
        exact ⟨(g4.blk p hp).1, KH.out k hd p H1.out hp⟩
      have HBK := Lib.hid hbk
      have HM := Lib.hid (markF_any (k0 := s) h4 (by omega))
      have HT := Lib.hid hT
      clear hbk hsum hle hn h5 h1 h2 h3 hyl hO h4 hT
      go_wp2_with fail
      refine HM.out.mono ?_
      rintro e w2 ⟨rfl, ho2, hg2⟩
      have hO2 := Lib.hid (HOO.out.turned H1.out hg2 ho2 (by rw [marks_length]; exact H3.out))
      have hT2 := Lib.hid (HT.out.trans (Turned.of_grown hg2 HBK.out))
      clear hg2 ho2 hcx hix
      go_wp2
      go_roundw
      case rel =>
        refine ⟨k + 1, s + ys.length, _, by omega, by go_num, by go_num, by omega, ?_, ?_, hO2.out, hT2.out⟩
        · show _ = _
          rw [HSUM.out, HS.out, H5.out]; omega
        · show _ = _
          rw [List.map_set, marks_length, HY.out, H5.out]
          apply List.ext_getElem
          · simp
          · intro i hi hi2
            rw [List.getElem_set]
            split
            · rename_i he; subst he; simp
            · rfl
      case measure => simp [intOf]; omega
    · go_wp2
      go_ret
      exact ⟨_, by omega, by omega, rfl, hT⟩

end Go.Proofs.Ytofbnddmahjanaa
