/- The median of equal numbers; the median of the means of products; NormAbout, DotAbout of a sketch of one number. The median of the means of products, NormAbout, DotAbout: of a sketch of one number. -/
import Derived.Test.YtfclkbppmkjkeaaQFq42
import Derived.Test.YtfclkbppmkjkeaaQFq4
import Derived.Test.YtfclkbppmkjkeaaQFq5
import Derived.Test.YtfclkbppmkjkeaaQFq2
import Derived.StillTailTactics
import Derived.Deep.Cut
import Derived.Deep.CutBlock
import Derived.Deep.RegionLaw
namespace Go.Proofs.Ytfclkbppmkjkeaa
open Go.RowKit
attribute [local go_sem ↓] Go.wp_at_zero Go.wp_at_succ

theorem quietQ {P : Program} {f : FuncId} {args : Array Value} {w : World} {n : Nat} {v : Value} (h : Calls P f args (w.drewN n) fun e w' => e = .returned v ∧ w.drewN n = w') : Calls P f args (w.drewN n) fun e w'' => e = .returned v ∧ ∃ m, w'' = w.drewN m :=
  h.mono fun _ _ ⟨he, hm⟩ => ⟨he, n, hm.symm⟩

/-- The sum of squares, when all of its parts are numbers. -/
def dotS (xs : List Nat) (k : Nat) : Nat := (dotC (xs.take k) (xs.take k)).getD 0
def DotOk (xs : List Nat) : Prop := ∀ k, k < xs.length → fbin .mul .f32 (some (xs[k]?.getD default)) (some (xs[k]?.getD default)) = some (fo3 .mul (xs[k]?.getD default) (xs[k]?.getD default)) ∧ fbin .add .f32 (some (dotS xs k)) (some (fo3 .mul (xs[k]?.getD default) (xs[k]?.getD default))) = some (dotS xs (k + 1))
theorem dotOk_dy {xs : List Nat} {zs : List Int} (h : DyL 2 xs zs) (hb : ∀ i, (at0 zs i).natAbs ≤ 16) (hn : xs.length ≤ 32) : DotOk xs ∧ Dy 4 (dotS xs xs.length) (sqZ zs xs.length) := by
  have hS : ∀ k, k ≤ xs.length → dotC (xs.take k) (xs.take k) = some (dotS xs k) ∧ Dy 4 (dotS xs k) (sqZ zs k) := by
    intro k hk
    obtain ⟨b, e, d⟩ := dotC_dyK h hb hn k hk
    have : dotS xs k = b := by unfold dotS; rw [e]; rfl
    rw [this]; exact ⟨e, d⟩
  refine ⟨fun k hk => ?_, (hS _ (Nat.le_refl _)).2⟩
  have hx := h.get hk
  obtain ⟨q1, q2⟩ := sqBd (hb k)
  have hm := dy_mul hx hx (by omega) (by omega) (by omega)
  have e := dotC_snoc xs xs k hk hk
  rw [(hS k (by omega)).1, (hS (k + 1) (by omega)).1, cn_isN hx.N, hm.1] at e
  rw [List.getElem?_eq_getElem hk, Option.getD_some]
  exact ⟨hm.1, e.symm⟩

set_option maxHeartbeats 800000 in
theorem dotSame_any {a1 a2 : Option Addr} {c1 c2 : Nat} {xs : List Nat} {w : World} (hx : Rd (Value.float .f32) w a1 c1 xs) (hy : Rd (Value.float .f32) w a2 c2 xs) (h : DotOk xs) :
    Calls Try.prog 98 #[.slice a1 xs.length c1, .slice a2 xs.length c2] w fun e w' => e = .returned (.float .f32 (dotS xs xs.length)) ∧ w = w' := by
  have hlx := hx.len
  have HX := Lib.hid (And.intro hx hy)
  have H := Lib.hid h
  have H0 : Hid (dotS xs 0 = 0) := Lib.hid rfl
  clear hx hy h
  generalize hS : dotS xs = S at *
  have HS := Lib.hid hS
  clear hS
  go_enter Try.func98, Try.ntmps98
  go_wp2
  go_loopw [5, 6, 7, 10] (fun s _ _ i wr => ∃ (k : Nat), k ≤ xs.length ∧ i = .int .i64 k ∧ s = .float .f32 (S k) ∧ wr = w) (fun _ _ _ i _ => xs.length - (intOf i).toNat)
  case atStart => exact ⟨0, Nat.zero_le _, rfl, by rw [H0.out], rfl⟩
  case round =>
    obtain ⟨k, hk, rfl, rfl, rfl⟩ := hrel
    by_cases hlt : k < xs.length
    · obtain ⟨wi, rfl⟩ : ∃ z : World, z = wr := ⟨_, rfl⟩
      have hlz : (k : Int) < (xs.length : Int) := by omega
      have hcx := HX.out.1.cell k hlt
      have hcy := HX.out.2.cell k hlt
      have hix := HX.out.1.idx und_fs siz_fs
      have hiy := HX.out.2.idx und_fs siz_fs
      obtain ⟨g1, g2⟩ := H.out k hlt
      rw [HS.out] at g2
      have am := ar3 g1 28
      have aa := ar3 g2 28
      have ewk : IntKind.i64.wrap ((k : Int) + 1) = (k : Int) + 1 := IntWalk.i64_in _ (by omega)
      generalize fo3 .mul (xs[k]?.getD default) (xs[k]?.getD default) = m at am aa
      generalize xs[k]?.getD default = x at am hcx hcy
      clear g1 g2
      go_wp2
      go_roundw
      case rel => exact ⟨k + 1, by omega, by go_num, rfl, by first | rfl | trivial⟩
      case measure => simp [intOf]; omega
    · obtain rfl : k = xs.length := by omega
      have hlz : ¬ (xs.length : Int) < (xs.length : Int) := by omega
      go_wp2
      go_ret
      exact ⟨rfl, rfl⟩

/-! ### The median of numbers that are equal -/
def AllEq (xs : List Nat) : Prop := ∀ i j, i < xs.length → j < xs.length → FloatKind.f32.format.order (xs[i]?.getD default) (xs[j]?.getD default) = some .eq
theorem medF1_any {x y : Nat} {w : World} (h : FloatKind.f32.format.order x y = some .eq) : Calls Try.prog 182 #[.float .f32 x, .float .f32 y] w fun e w' => e = .returned (.int .i64 0) ∧ w = w' := by
  go_enter Try.func182, Try.ntmps182
  go_wp2
  go_ret
  exact ⟨rfl, rfl⟩

set_option maxRecDepth 8000 in
set_option maxHeartbeats 2000000 in
theorem insEqF_any {a : Option Addr} {c n : Nat} {xs : List Nat} {w : World} (hr : Rd (Value.float .f32) w a c xs) (hl : xs.length = n) (hn : n ≤ 19) (he : AllEq xs) :
    Calls Try.prog 203 #[.slice a n c, .int .i64 0, .int .i64 n, .func (.func 182) #[] #[]] w fun e w' => e = .returned (.tuple #[]) ∧ ∃ q, w' = w.drewN q := by
  have HL := Lib.hid hl
  have HR := Lib.hid hr
  have HE := Lib.hid he
  clear hl hr he
  go_enter Try.func203, Try.ntmps203
  go_wp2
  go_loopw [8] (fun vi wr => ∃ i q : Nat, vi = .int .i64 (i : Int) ∧ 1 ≤ i ∧ (i ≤ n ∨ i = 1) ∧ wr = w.drewN q) (fun vi _ => n - (intOf vi).toNat)
  case atStart => exact ⟨1, 0, by go_num, by omega, .inr rfl, rfl⟩
  case round =>
    obtain ⟨i, q, rfl, hi0, hi1, hw⟩ := hrel
    by_cases hlt : i < n
    · have hltz : (i : Int) < (n : Int) := by omega
      obtain ⟨wi, rfl⟩ : ∃ z : World, z = wr := ⟨_, rfl⟩
      have HWI := Lib.hid hw
      clear hw
      go_wp2
      go_loopw [9] (fun vj wr => vj = .int .i64 (i : Int) ∧ Hid (∃ q, wr = w.drewN q)) (fun _ _ => 0)
      case atStart => exact ⟨rfl, Lib.hid ⟨q, HWI.out⟩⟩
      case round =>
        obtain ⟨rfl, HQ⟩ := hrel
        obtain ⟨wk, rfl⟩ : ∃ z : World, z = wr := ⟨_, rfl⟩
        have hd1 : decide ((i : Int) > 0) = true := decide_eq_true (by omega)
        have hd2 : decide (0 < i) = true := decide_eq_true (by omega)
        have hrk : Rd (Value.float .f32) wk a c xs := by obtain ⟨q, e⟩ := HQ.out; rw [e]; exact HR.out.drewN q
        have hii := fun w' : World => hrk.idx und_fs siz_fs w' i (by rw [HL.out]; exact hlt)
        have hip := fun w' : World => hrk.idx und_fs siz_fs w' (i - 1) (by rw [HL.out]; omega)
        rw [HL.out] at hii hip
        have hci := hrk.cell i (by rw [HL.out]; exact hlt)
        have hcp := hrk.cell (i - 1) (by rw [HL.out]; omega)
        have HO := Lib.hid (HE.out i (i - 1) (by rw [HL.out]; exact hlt) (by rw [HL.out]; omega))
        have ew : IntKind.i64.wrap ((i : Int) - 1) = ((i - 1 : Nat) : Int) := by rw [IntWalk.i64_in _ (by omega)]; omega
        have ewi : IntKind.i64.wrap ((i : Int) + 1) = (i : Int) + 1 := IntWalk.i64_in _ (by omega)
        generalize xs[i]?.getD default = x at hci HO
        generalize xs[i - 1]?.getD default = y at hcp HO
        clear hrk
        go_wp2_with fail
        go_quiet ((go_at_call 182; exact quietQ (medF1_any HO.out)))
        go_wp2
        go_roundw
        case rel => exact ⟨i + 1, (HQ.out.choose + nq), by go_num, by omega, .inl (by omega), by have := HQ.out.choose_spec; rw [← World.drewN_drewN, ← this]⟩
        case measure => simp [intOf]; omega
    · have hltz : ¬ (i : Int) < (n : Int) := by omega
      have HW := Lib.hid hw
      clear hw
      go_wp2
      go_end0
      exact ⟨rfl, q, HW.out⟩

set_option maxRecDepth 8000 in
set_option maxHeartbeats 2000000 in
theorem stableEqF_any {a : Option Addr} {c n : Nat} {xs : List Nat} {w : World} (hr : Rd (Value.float .f32) w a c xs) (hl : xs.length = n) (hn : n ≤ 19) (he : AllEq xs) :
    Calls Try.prog 199 #[.slice a n c, .int .i64 n, .func (.func 182) #[] #[]] w fun e w' => e = .returned (.tuple #[]) ∧ ∃ q, w' = w.drewN q := by
  have HC := Lib.hid (insEqF_any hr hl hn he)
  have h20 : ¬ (20 : Int) ≤ (n : Int) := by omega
  have h21 : ¬ (20 : Int) < (n : Int) := by omega
  clear hl hr he
  go_enter Try.func199, Try.ntmps199
  go_wp2
  go_loopw [7, 8] (fun va vb wr => va = .int .i64 0 ∧ vb = .int .i64 20 ∧ wr = w) (fun _ _ _ => 0)
  case atStart => exact ⟨rfl, rfl, rfl⟩
  case round =>
    obtain ⟨rfl, rfl, rfl⟩ := hrel
    go_wp2_with fail
    refine HC.out.mono ?_
    rintro e w1 ⟨rfl, q, rfl⟩
    go_wp2
    obtain ⟨wi, hwi⟩ : ∃ z : World, z = wr := ⟨_, rfl⟩
    rw [← hwi]
    go_loopw [6] (fun vb w2 => vb = .int .i64 20 ∧ w2 = wi.drewN q) (fun _ _ => 0)
    case atStart => exact ⟨rfl, rfl⟩
    case round =>
      obtain ⟨rfl, rfl⟩ := hrel
      go_wp2
      go_end0
      exact ⟨rfl, q, rfl⟩

theorem sortEqF_any {a : Option Addr} {c n : Nat} {xs : List Nat} {w : World} (hr : Rd (Value.float .f32) w a c xs) (hl : xs.length = n) (hn : n ≤ 19) (he : AllEq xs) :
    Calls Try.prog 181 #[.slice a n c, .func (.func 182) #[] #[]] w fun e w' => e = .returned (.tuple #[]) ∧ ∃ q, w' = w.drewN q := by
  have HC := Lib.hid (stableEqF_any hr hl hn he)
  clear hl hr he
  go_enter Try.func181, Try.ntmps181
  go_wp2_with fail
  refine HC.out.mono ?_
  rintro e w1 ⟨rfl, q, rfl⟩
  go_wp2
  go_end0
  exact ⟨rfl, q, rfl⟩

theorem medianF_any {a : Option Addr} {c : Nat} {xs : List Nat} {w : World} (hr : Rd (Value.float .f32) w a c xs) (h1 : 1 ≤ xs.length) (hn : xs.length ≤ 19) (he : AllEq xs) :
    Calls Try.prog 141 #[.slice a xs.length c] w fun e w' => e = .returned (.float .f32 (xs[(xs.length - 1) / 2]?.getD default)) ∧ Below w.heap.size w w' := by
  obtain ⟨m, hm⟩ : ∃ m, xs[(xs.length - 1) / 2]?.getD default = m := ⟨_, rfl⟩
  rw [hm]
  have HM := Lib.hid hm
  clear hm
  go_enter Try.func141, Try.ntmps141
  go_wp2_with fail
  refine (clonef_any _ _ _ _ hr (by omega)).mono ?_
  rintro e w1 ⟨a1, c1, rfl, ho1, hb1⟩
  have HO1 := Lib.hid ho1
  have HB1 := Lib.hid hb1
  have HC := Lib.hid (sortEqF_any ho1.rd rfl hn he)
  clear ho1 hb1 hr he
  go_wp2_with fail
  refine HC.out.mono ?_
  rintro e w2 ⟨rfl, q, rfl⟩
  have hr2 := HO1.out.rd.drewN q
  have hix := rd_idxAt hr2 und_fs siz_fs ((xs.length - 1) / 2) (by omega) (((xs.length - 1 : Nat) : Int) / 2) (by omega)
  have hcm := hr2.cell ((xs.length - 1) / 2) (by omega)
  rw [HM.out] at hcm
  have ew1 : IntKind.i64.wrap ((xs.length : Int) - 1) = ((xs.length - 1 : Nat) : Int) := by rw [IntWalk.i64_in _ (by omega)]; omega
  have HB := Lib.hid (HB1.out.trans (below_of_drewN w1 q _))
  clear HO1 HB1 HC hr2
  go_wp2
  go_ret
  exact ⟨rfl, HB.out⟩

end Go.Proofs.Ytfclkbppmkjkeaa

namespace Go.Proofs.Ytfclkbppmkjkeaa
open Go.RowKit
attribute [local go_sem ↓] Go.wp_at_zero Go.wp_at_succ

theorem DyL.mid {s : Nat} {xs : List Nat} {zs : List Int} (h : DyL s xs zs) {lo hi : Nat} (h1 : lo ≤ hi) (h2 : hi ≤ xs.length) : DyL s ((xs.take hi).drop lo) ((zs.take hi).drop lo) := by
  have hl := h.len
  refine ⟨by simp [hl], fun i hi' => ?_⟩
  simp only [List.length_drop, List.length_take] at hi'
  have := h.at' (lo + i) (by omega)
  unfold at0 at this ⊢
  rw [List.getElem?_drop, List.getElem?_drop, List.getElem?_take, List.getElem?_take, if_pos (by omega), if_pos (by omega)]
  exact this
/-- A list of k and -k. -/
def Pm (k : Int) (zs : List Int) : Prop := ∀ z ∈ zs, z = k ∨ z = -k
theorem Pm.at {k : Int} {zs : List Int} (h : Pm k zs) {i : Nat} (hi : i < zs.length) : at0 zs i = k ∨ at0 zs i = -k := h _ (by unfold at0; rw [List.getElem?_eq_getElem hi]; exact List.getElem_mem _)
theorem Pm.bd {k : Int} {zs : List Int} (h : Pm k zs) (h1 : k.natAbs ≤ 16) (i : Nat) : (at0 zs i).natAbs ≤ 16 := by
  by_cases hi : i < zs.length
  · rcases h.at hi with e | e <;> rw [e] <;> omega
  · unfold at0; rw [List.getElem?_eq_none (by omega)]; decide
theorem Pm.mid {k : Int} {zs : List Int} (h : Pm k zs) (lo hi : Nat) : Pm k ((zs.take hi).drop lo) := fun z hz => h z (List.mem_of_mem_take (List.mem_of_mem_drop hz))
theorem Pm.sq {k : Int} {zs : List Int} (h : Pm k zs) : ∀ j, j ≤ zs.length → sqZ zs j = k * k * (j : Int)
  | 0, _ => by simp [sqZ]
  | j + 1, hj => by
    have e : sqZ zs (j + 1) = sqZ zs j + at0 zs j * at0 zs j := rfl
    have e2 : at0 zs j * at0 zs j = k * k := by rcases h.at (i := j) (by omega) with g | g <;> rw [g]; exact Int.neg_mul_neg k k
    rw [e, e2, h.sq j (by omega)]
    have : ((j + 1 : Nat) : Int) = (j : Int) + 1 := rfl
    rw [this, Int.mul_add, Int.mul_one]
/-- The mean of a group. -/
theorem group_dy {xs : List Nat} {zs : List Int} {k : Int} (h : DyL 2 xs zs) (hz : Pm k zs) (h1 : 1 ≤ k) (h2 : k ≤ 16) (hl : 1 ≤ xs.length) (hl2 : xs.length ≤ 16) :
    DotOk xs ∧ fbin .quo .f32 (some (dotS xs xs.length)) (some (floatOfInt .f32 (xs.length : Int))) = some (fo3 .quo (dotS xs xs.length) (floatOfInt .f32 (xs.length : Int))) ∧ Dy 4 (fo3 .quo (dotS xs xs.length) (floatOfInt .f32 (xs.length : Int))) (k * k) := by
  obtain ⟨g1, g2⟩ := dotOk_dy h (hz.bd (by omega)) (by omega)
  rw [hz.sq _ (by rw [h.len]; exact Nat.le_refl _)] at g2
  have hkk : (k * k).natAbs ≤ 256 := by obtain ⟨a, b⟩ := sqBd (z := k) (B := 16) (by omega); omega
  have q := dy_quo g2 (dy_int (z := (xs.length : Int)) (by omega)) (by omega) (by omega) (by omega) (by omega)
  exact ⟨g1, q.1, q.2⟩
theorem ord_same3 {a b : Nat} (ha : isN .f32 a) (hb : isN .f32 b) (h : val .f32 a = val .f32 b) : FloatKind.f32.format.order a b = some .eq := by
  have h1 : FloatKind.f32.format.order a b = _ := order_val ha hb
  rw [h1, if_neg (by rw [h]; exact Rat.lt_irrefl), if_pos h]
theorem allEq_dy {s : Nat} {ms : List Nat} {n : Int} (h : ∀ m ∈ ms, Dy s m n) : AllEq ms := by
  have g : ∀ i, i < ms.length → Dy s (ms[i]?.getD default) n := fun i hi => h _ (by rw [List.getElem?_eq_getElem hi]; exact List.getElem_mem hi)
  intro i j hi hj
  exact ord_same3 (g i hi).N (g j hj).N (by rw [(g i hi).v, (g j hj).v])
theorem grp_div {g s : Nat} (hg : 1 ≤ g) : ((g * s : Nat) : Int).tdiv (g : Int) = (s : Int) := by
  rw [Int.natCast_mul]
  exact Int.mul_tdiv_cancel_left _ (by omega)

set_option maxRecDepth 8000 in
set_option maxHeartbeats 4000000 in
theorem mom_any {a1 : Option Addr} {c1 g s : Nat} {xs : List Nat} {zs : List Int} {k : Int} {w : World} (hr : Rd (Value.float .f32) w a1 c1 xs) (hd : DyL 2 xs zs) (hz : Pm k zs) (h1 : 1 ≤ k) (h2 : k ≤ 16) (hl : xs.length = g * s) (hg : 1 ≤ g) (hs : 1 ≤ s) (hn : xs.length ≤ 16) :
    Calls Try.prog 97 #[.slice a1 xs.length c1, .slice a1 xs.length c1, .int .i64 (g : Int)] w fun e w' => ∃ b, e = .returned (.float .f32 b) ∧ Dy 4 b (k * k) ∧ Below w.heap.size w w' := by
  have hg16 : g ≤ 16 := by have := Nat.mul_le_mul_left g hs; omega
  have hs16 : s ≤ 16 := by have := Nat.mul_le_mul_right s hg; omega
  have hq : (xs.length : Int).tdiv (g : Int) = (s : Int) := by rw [hl]; exact grp_div hg
  have hg0 : ((g : Int) == 0) = false := by simp; omega
  have hgn : ¬ (g : Int) = 0 := by omega
  have ews : IntKind.i64.wrap (s : Int) = (s : Int) := IntWalk.i64_in _ (by omega)
  have HR := Lib.hid hr
  have HL := Lib.hid hl
  have HD := Lib.hid (And.intro hd hz)
  have HE := Lib.hid (own_empty (f := Value.float .f32) (e := 28) (α := Nat) w (by_ := 0) w.heap.size (Nat.le_refl _) rfl)
  have HB1 := Lib.hid ((Below.refl w.heap.size w).alloc (Nat.le_refl _) (.cells #[] 28))
  clear hr hd hz hl
  go_enter Try.func97, Try.ntmps97
  go_wp2_with fail
  clear hq hg0 hgn ews
  go_loopw [8, 9] (fun o iv wr => ∃ (j p : Nat) (ms : List Nat) (b : Option Addr) (cc : Nat), j ≤ g ∧ iv = .int .i64 (p : Int) ∧ o = .slice b ms.length cc ∧ ms.length ≤ 16 ∧ Hid (p = j * s) ∧ Hid (ms.length = j) ∧ Hid (∀ m ∈ ms, Dy 4 m (k * k)) ∧ Hid (Own (Value.float .f32) 28 wr w.heap.size b cc ms) ∧ Hid (Below w.heap.size w wr)) (fun _ iv _ => xs.length - (intOf iv).toNat)
  case atStart => exact ⟨0, 0, [], _, _, Nat.zero_le _, rfl, rfl, by simp, Lib.hid (by rw [Nat.zero_mul]), Lib.hid rfl, Lib.hid (by simp), HE, HB1⟩
  case round =>
    clear HE HB1
    obtain ⟨j, p, ms, b, cc, hj, rfl, rfl, hm16, HP, HML, HM, HO, HB⟩ := hrel
    by_cases hlt : p < xs.length
    · have hjg : j < g := by
        refine Nat.lt_of_not_le fun hle => ?_
        have := Nat.mul_le_mul_right s hle
        have h3 := HP.out
        have h4 := HL.out
        omega
      have hps : p + s ≤ xs.length := by
        have := Nat.mul_le_mul_right s (show j + 1 ≤ g from hjg)
        have h3 := HP.out
        have h4 := HL.out
        have h5 : (j + 1) * s = j * s + s := by rw [Nat.add_mul, Nat.one_mul]
        omega
      obtain ⟨wi, rfl⟩ : ∃ z : World, z = wr := ⟨_, rfl⟩
      have hlz : (p : Int) < (xs.length : Int) := by omega
      obtain ⟨a2, c2, hrun, hrd⟩ := HR.out.midRun (P := Try.prog) und_fs siz_fs (lo := p) (hi := p + s) (by omega) hps
      have hr2 := hrd wi (HR.out.below HB.out (Nat.le_refl _))
      have hml : ((xs.take (p + s)).drop p).length = s := by simp; omega
      have hG := group_dy (HD.out.1.mid (lo := p) (hi := p + s) (by omega) hps) (HD.out.2.mid p (p + s)) h1 h2 (by omega) (by omega)
      have eps : p + s - p = s := by omega
      rw [eps] at hrun
      have eis : IntKind.i64.wrap ((p : Int) + (s : Int)) = (p : Int) + (s : Int) := IntWalk.i64_in _ (by omega)
      have hrun2 : ∀ w' : World, (Instr.sliceAt 27 (.slice a1 xs.length c1) (some (.int .i64 (p : Int))) (some (.int .i64 ((p : Int) + (s : Int)))) none).run Try.prog w' = .ok (.slice a2 s c2) w' := hrun
      rw [hml] at hG
      generalize hsub : (xs.take (p + s)).drop p = ys at hr2 hG hml
      have HDT := fun n : Nat => Lib.hid (dotSame_any (hr2.drewN n) (hr2.drewN n) hG.1)
      simp only [hml] at HDT
      have ha := ar3 hG.2.1 28
      have HNX := Lib.hid hG.2.2
      generalize dotS ys s = ds at HDT ha HNX
      have hcv : ∀ w' : World, (convert 3 28 (.int .i64 (s : Int))).run Try.prog w' = .ok (.float .f32 (floatOfInt .f32 (s : Int))) w' := fun w' => run_convert_int_float w' _ _ _ _ _ (by kernel_rfl) und_f32k
      generalize fo3 .quo ds (floatOfInt .f32 (s : Int)) = y at ha HNX
      generalize floatOfInt .f32 (s : Int) = fs at ha hcv
      have HSB := Lib.hid hsub
      clear hsub hrd hr2 hG hml hrun
      have hz3 := HB.out.size
      have HO2 : Hid (Own (Value.float .f32) 28 wi.drew w.heap.size b cc ms) := Lib.hid (HO.out.drewN 1)
      have HB2 : Hid (Below w.heap.size w wi.drew) := Lib.hid (HB.out.trans (below_of_drewN wi 1 _))
      have HDT1 : Hid (Calls Try.prog 98 #[.slice a2 s c2, .slice a2 s c2] wi.drew fun e w' => e = .returned (.float .f32 ds) ∧ wi.drew = w') := HDT 1
      have hzd := HB2.out.size
      clear HDT
      go_wp2_with fail
      go_region_law (first
        | (go_simp; go_at_call 98; refine HDT1.out.mono ?_; rintro e w8 ⟨rfl, rfl⟩)
        | (refine step_append1 (f := Value.float .f32) (d := 0) (base := w.heap.size) und_fse info_f (fun _ => rfl) y (HO2.out.alloc _) rfl _ _ rfl wi.drew.heap.size rfl rfl (heap_alloc_new _ _) (by omega) (by omega) (by simp; omega) ?_; intro a4 c4 w4 ho4 hg4))
      have HB4 := Lib.hid ((HB2.out.alloc hzd _).trans (grown_belowOwn (HO2.out.alloc _) hg4 (Nat.le_refl _) (by simp; omega)))
      have HO4 := Lib.hid ho4
      clear hg4 ho4
      go_wp2
      go_roundw
      case rel => exact ⟨j + 1, p + s, ms ++ [y], a4, c4, by omega, by first | rfl | go_num, by simp, by have := HML.out; simp; omega, Lib.hid (by rw [HP.out, Nat.add_mul, Nat.one_mul]), Lib.hid (by simp [HML.out]), Lib.hid (fun m hm => by
        rcases List.mem_append.1 hm with h | h
        · exact HM.out m h
        · rw [List.mem_singleton.1 h]; exact HNX.out), HO4, HB4⟩
      case measure => simp [intOf]; omega
    · have hjg : j = g := by
        have h3 := HP.out
        have h4 := HL.out
        rcases Nat.lt_or_ge j g with h5 | h5
        · have h6 : j * s < g * s := Nat.mul_lt_mul_of_pos_right h5 hs
          omega
        · omega
      have hlz : ¬ (p : Int) < (xs.length : Int) := by omega
      have HMD := Lib.hid (medianF_any HO.out.rd (by rw [HML.out]; omega) (by rw [HML.out]; omega) (allEq_dy HM.out))
      have HDM : Hid (Dy 4 (ms[(ms.length - 1) / 2]?.getD default) (k * k)) := Lib.hid (HM.out _ (by
        have := HML.out
        rw [List.getElem?_eq_getElem (show (ms.length - 1) / 2 < ms.length by omega)]
        exact List.getElem_mem _))
      generalize ms[(ms.length - 1) / 2]?.getD default = m at HMD HDM
      go_wp2_with fail
      refine HMD.out.mono ?_
      rintro e w2 ⟨rfl, hb2⟩
      go_wp2
      go_ret
      exact ⟨m, rfl, HDM.out, HB.out.trans (hb2.mono HB.out.size)⟩

/-! ### NormAbout, DotAbout -/
theorem isSketch_any {a : Option Addr} {c : Nat} {xs : List Nat} {w : World} (hr : Rd (Value.float .f32) w a c xs) (h1 : 1 ≤ xs.length) (h2 : xs.length ≤ 32) (hf : fins xs = true) :
    Calls Try.prog 94 #[.slice a xs.length c] w fun e w' => e = .returned (.bool true) ∧ Below w.heap.size w w' := by
  have HF := Lib.hid (areFinite_any hr)
  rw [hf] at HF
  have z1 : decide ((xs.length : Int) ≥ 1) = true := decide_eq_true (by omega)
  have z2 : decide ((xs.length : Int) ≤ 32) = true := decide_eq_true (by omega)
  have z3 : decide (1 ≤ xs.length) = true := decide_eq_true h1
  have z4 : decide (xs.length ≤ 32) = true := decide_eq_true h2
  have z5 : (1 : Int) ≤ (xs.length : Int) := by omega
  have z6 : (xs.length : Int) ≤ 32 := by omega
  clear hr hf h1 h2
  go_enter Try.func94, Try.ntmps94
  go_wp2_with fail
  refine HF.out.mono ?_
  rintro e w1 ⟨rfl, hb⟩
  go_wp2
  go_ret
  exact ⟨rfl, hb⟩

theorem divB_of {g s n : Nat} (h : n = g * s) (hg : 1 ≤ g) (hs : 1 ≤ s) : divB (g : Int) (n : Int) = true := by
  have h1 : g ≤ n := by rw [h]; exact Nat.le_mul_of_pos_right _ hs
  have h2 : (n : Int) % (g : Int) = 0 := by rw [h, Int.natCast_mul]; exact Int.mul_emod_right _ _
  unfold divB
  rw [h2]
  simp [inR_eq]
  omega

set_option maxHeartbeats 800000 in
theorem implNormAbout_dy {a1 : Option Addr} {c1 g s : Nat} {xs : List Nat} {zs : List Int} {k : Int} {w : World} (hr : Rd (Value.float .f32) w a1 c1 xs) (hd : DyL 2 xs zs) (hz : Pm k zs) (h1 : 1 ≤ k) (h2 : k ≤ 16) (hl : xs.length = g * s) (hg : 1 ≤ g) (hs : 1 ≤ s) (hn : xs.length ≤ 16) :
    Calls Try.prog 35 #[.slice a1 xs.length c1, .int .i64 (g : Int)] w fun e w' => ∃ b, e = .returned (.tuple #[.float .f32 b, .bool true]) ∧ Dy 2 b k ∧ Below w.heap.size w w' := by
  have hp : 1 ≤ xs.length := by rw [hl]; exact Nat.le_trans hg (Nat.le_mul_of_pos_right _ hs)
  have HK := Lib.hid (isSketch_any hr hp (by omega) hd.fins)
  have HDV := Lib.hid (fun w : World => divides_any (W := (g : Int)) (n := (xs.length : Int)) (w := w) (by omega) (by omega))
  rw [divB_of hl hg hs] at HDV
  have HR := Lib.hid hr
  have HMM : Hid (∀ w' : World, Rd (Value.float .f32) w' a1 c1 xs → Calls Try.prog 97 #[.slice a1 xs.length c1, .slice a1 xs.length c1, .int .i64 (g : Int)] w' fun e w'' => ∃ b, e = .returned (.float .f32 b) ∧ Dy 4 b (k * k) ∧ Below w'.heap.size w' w'') := Lib.hid (fun w' h => mom_any h hd hz h1 h2 hl hg hs hn)
  have HK2 := Lib.hid (And.intro h1 h2)
  clear hr hd hz hl hg hs h1 h2 hp
  go_enter Try.func35, Try.ntmps35
  go_wp2_with fail
  refine HK.out.mono ?_
  rintro e w1 ⟨rfl, hb1⟩
  go_wp2_with fail
  refine (HDV.out _).mono ?_
  rintro e w2 ⟨rfl, rfl⟩
  go_wp2_with fail
  refine (HMM.out _ (HR.out.below hb1 (Nat.le_refl _))).mono ?_
  rintro e w2 ⟨m, rfl, hm, hb2⟩
  obtain ⟨r, hr1, hr2⟩ := root_sq hm (by have := HK2.out; omega) (by have := HK2.out; omega)
  have HR2 := Lib.hid hr2
  have hro := rootNumber_any (x := m) (w := w2)
  rw [cn_isN hm.N, hr1] at hro
  have HRO := Lib.hid hro
  have HB2 := Lib.hid (hb1.trans (hb2.mono hb1.size))
  clear hro hr1 hr2 hm hb1 hb2
  go_wp2_with fail
  refine HRO.out.mono ?_
  rintro e w3 ⟨r1, rfl, hc, hb3⟩
  obtain rfl := (cn_some hc).1
  have hif := ifFinite_any (x := r1) (w := w3)
  rw [hc, finIsN HR2.out.N] at hif
  unfold ifFin at hif
  rw [finIsN HR2.out.N, if_pos rfl] at hif
  have HIF := Lib.hid hif
  have HB3 := Lib.hid (HB2.out.trans (hb3.mono HB2.out.size))
  clear hif hc hb3
  go_wp2_with fail
  refine HIF.out.mono ?_
  rintro e w4 ⟨r2, rfl, hc2, hb4⟩
  obtain rfl := (cn_some hc2).1
  go_wp2
  go_ret2
  exact ⟨_, rfl, HR2.out, HB3.out.trans (hb4.mono HB3.out.size)⟩

set_option maxHeartbeats 800000 in
theorem implDotAbout_dy {a1 : Option Addr} {c1 g s : Nat} {xs : List Nat} {zs : List Int} {k : Int} {w : World} (hr : Rd (Value.float .f32) w a1 c1 xs) (hd : DyL 2 xs zs) (hz : Pm k zs) (h1 : 1 ≤ k) (h2 : k ≤ 16) (hl : xs.length = g * s) (hg : 1 ≤ g) (hs : 1 ≤ s) (hn : xs.length ≤ 16) :
    Calls Try.prog 36 #[.slice a1 xs.length c1, .slice a1 xs.length c1, .int .i64 (g : Int)] w fun e w' => ∃ b, e = .returned (.tuple #[.float .f32 b, .bool true]) ∧ Dy 4 b (k * k) ∧ Below w.heap.size w w' := by
  have hp : 1 ≤ xs.length := by rw [hl]; exact Nat.le_trans hg (Nat.le_mul_of_pos_right _ hs)
  have HK := Lib.hid (fun (w' : World) (h : Rd (Value.float .f32) w' a1 c1 xs) => isSketch_any h hp (by omega) hd.fins)
  have HDV := Lib.hid (fun w : World => divides_any (W := (g : Int)) (n := (xs.length : Int)) (w := w) (by omega) (by omega))
  rw [divB_of hl hg hs] at HDV
  have HR := Lib.hid hr
  have hne : ((xs.length : Int) != (xs.length : Int)) = false := by simp
  have HMM : Hid (∀ w' : World, Rd (Value.float .f32) w' a1 c1 xs → Calls Try.prog 97 #[.slice a1 xs.length c1, .slice a1 xs.length c1, .int .i64 (g : Int)] w' fun e w'' => ∃ b, e = .returned (.float .f32 b) ∧ Dy 4 b (k * k) ∧ Below w'.heap.size w' w'') := Lib.hid (fun w' h => mom_any h hd hz h1 h2 hl hg hs hn)
  clear hr hd hz hl hg hs h1 h2 hp
  go_enter Try.func36, Try.ntmps36
  go_wp2_with fail
  refine (HK.out _ HR.out).mono ?_
  rintro e w1 ⟨rfl, hb1⟩
  have HR1 := Lib.hid (HR.out.below hb1 (Nat.le_refl _))
  go_wp2_with fail
  refine (HK.out _ HR1.out).mono ?_
  rintro e w2 ⟨rfl, hb2⟩
  have HR2 := Lib.hid (HR1.out.below hb2 (Nat.le_refl _))
  have HB2 := Lib.hid (hb1.trans (hb2.mono hb1.size))
  clear hb1 hb2
  go_wp2_with fail
  refine (HDV.out _).mono ?_
  rintro e w3 ⟨rfl, rfl⟩
  go_wp2_with fail
  refine (HMM.out _ HR2.out).mono ?_
  rintro e w3 ⟨m, rfl, hm, hb3⟩
  have hif := ifFinite_any (x := m) (w := w3)
  rw [cn_isN hm.N, finIsN hm.N] at hif
  unfold ifFin at hif
  rw [finIsN hm.N, if_pos rfl] at hif
  have HIF := Lib.hid hif
  have HM := Lib.hid hm
  have HB3 := Lib.hid (HB2.out.trans (hb3.mono HB2.out.size))
  clear hif hm hb3
  go_wp2_with fail
  refine HIF.out.mono ?_
  rintro e w4 ⟨r2, rfl, hc2, hb4⟩
  obtain rfl := (cn_some hc2).1
  go_wp2
  go_ret2
  exact ⟨_, rfl, HM.out, HB3.out.trans (hb4.mono HB3.out.size)⟩

end Go.Proofs.Ytfclkbppmkjkeaa
