/- Near pairs: what both texts say, in plain words; the program's closure. -/
import Derived.Test.YtofbnddmahjanaaIdxFF
import Derived.Test.YtofbnddmahjanaaPairs
import Derived.Test.YtofbnddmahjanaaRoot
import Derived.Test.YtofbnddmahjanaaBlk
import Derived.Test.YtofbnddmahjanaaWith
import Derived.IntWalk
namespace Go.Proofs.Ytofbnddmahjanaa
open Go.RowKit

def qnan : Nat := 2143289344
def rep (o : Option Nat) : Nat := o.getD qnan
theorem cn_qnan : cn .f32 qnan = none := by decide +kernel
theorem cn_rep {x y : Option Nat} {bop : BinOp} : cn .f32 (rep (fbin bop .f32 x y)) = fbin bop .f32 x y := by
  cases h : fbin bop .f32 x y with
  | none => exact cn_qnan
  | some r =>
    unfold fbin at h
    cases x with
    | none => simp at h
    | some a =>
      cases y with
      | none => simp at h
      | some b =>
        have h3 : (FloatKind.f32.decode r).isNaN = false := (floatBits_nan (by simpa using h)).2.2
        simp [rep, cn, h3]

def subC (x y : Nat) : Option Nat := fbin .sub .f32 (cn .f32 x) (cn .f32 y)
def diffC (X Y : List Nat) : List (Option Nat) := List.zipWith subC X Y
def diffN (X Y : List Nat) : List Nat := (diffC X Y).map rep
theorem diffN_cn (X Y : List Nat) : (diffN X Y).map (cn .f32) = diffC X Y := by
  unfold diffN diffC
  induction X generalizing Y with
  | nil => rfl
  | cons x X ih =>
    cases Y with
    | nil => rfl
    | cons y Y =>
      simp only [List.zipWith_cons_cons, List.map_cons, ih]
      unfold subC; rw [cn_rep]
theorem diffC_len {X Y : List Nat} {n : Nat} (h1 : X.length = n) (h2 : Y.length = n) : (diffC X Y).length = n := by simp [diffC, h1, h2]
theorem diffC_succ {X Y : List Nat} {n k : Nat} (h1 : X.length = n) (h2 : Y.length = n) (h : k < n) : (diffC X Y).take (k + 1) = (diffC X Y).take k ++ [subC (X[k]?.getD 0) (Y[k]?.getD 0)] := by
  have hl : k < (diffC X Y).length := by rw [diffC_len h1 h2]; exact h
  rw [List.take_add_one, List.getElem?_eq_getElem hl]
  simp [diffC, List.getElem?_eq_getElem (show k < X.length by omega), List.getElem?_eq_getElem (show k < Y.length by omega)]

theorem dotC_map (xs ys : List Nat) : dotC xs ys = (List.zip (xs.map (cn .f32)) (ys.map (cn .f32))).foldl (fun s p => fbin .add .f32 s (fbin .mul .f32 p.1 p.2)) (some 0) := by
  unfold dotC
  rw [List.zip_map, List.foldl_map]; rfl
theorem fins_map (xs : List Nat) : fins xs = (xs.map (cn .f32)).all (fin .f32) := by
  unfold fins; rw [List.all_map]; rfl
theorem isVec_congr {xs ys : List Nat} (h : xs.map (cn .f32) = ys.map (cn .f32)) : isVec xs = isVec ys := by
  have hl : xs.length = ys.length := by have := congrArg List.length h; simpa using this
  unfold isVec
  rw [fins_map, fins_map, h, hl]
theorem norm_congr {xs ys : List Nat} (h : xs.map (cn .f32) = ys.map (cn .f32)) : normR xs = normR ys ∧ normB xs = normB ys := by
  have hd : dotC xs xs = dotC ys ys := by rw [dotC_map, dotC_map, h]
  unfold normR normB
  rw [isVec_congr h, hd]
  exact ⟨rfl, rfl⟩

theorem fin_num {x : Nat} (h : fin .f32 (cn .f32 x) = true) : ∃ s m e, FloatKind.f32.decode x = .number s m e := by
  unfold cn at h
  cases hd : FloatKind.f32.decode x with
  | number s m e => exact ⟨s, m, e, rfl⟩
  | infinity s => rw [hd] at h; simp [Ieee.Datum.isNaN, fin, hd, Ieee.Datum.isInfinity] at h
  | nan s t => rw [hd] at h; simp [Ieee.Datum.isNaN, fin] at h
/-- The difference of two finite numbers does not draw. -/
theorem sub_fin {x y : Nat} (hx : fin .f32 (cn .f32 x) = true) (hy : fin .f32 (cn .f32 y) = true) : ∃ r, floatBits .sub .f32 x y = some r ∧ cn .f32 r = subC x y := by
  obtain ⟨s, m, e, h1⟩ := fin_num hx
  obtain ⟨s2, m2, e2, h2⟩ := fin_num hy
  have : ∃ r, floatBits .sub .f32 x y = some r := by
    show ∃ r, FloatKind.f32.format.sub x y = some r
    unfold Ieee.Format.sub
    have h1' : FloatKind.f32.format.read x = .number s m e := h1
    have h2' : FloatKind.f32.format.read y = .number s2 m2 e2 := h2
    rw [h1', h2']
    exact ⟨_, rfl⟩
  obtain ⟨r, hr⟩ := this
  have hn := floatBits_nan hr
  exact ⟨r, hr, by simp [cn, subC, fbin, hn.1, hn.2.1, hn.2.2, hr]⟩
theorem vec_fin {X : List Nat} (h : isVec X = true) {k : Nat} (hk : k < X.length) : fin .f32 (cn .f32 (X[k]?.getD 0)) = true := by
  simp only [isVec, fins, Bool.and_eq_true, List.all_eq_true] at h
  rw [List.getElem?_eq_getElem hk]
  exact h.2 _ (List.getElem_mem hk)

/-- The norm of a difference, and whether it is finite. -/
def normT (X Y : List Nat) : Option Nat := normR (diffN X Y)
def normK (X Y : List Nat) : Bool := normB (diffN X Y)
theorem norm_of {ds X Y : List Nat} (h : ds.map (cn .f32) = diffC X Y) : normR ds = normT X Y ∧ normB ds = normK X Y := norm_congr (by rw [h, diffN_cn])

def leqC (x y : Option Nat) : Bool := ford .f32 x y == some .lt || ford .f32 x y == some .eq
theorem leq_cn (a b : Nat) : (FloatKind.f32.format.order a b == some .lt || FloatKind.f32.format.order a b == some .eq) = leqC (cn .f32 a) (cn .f32 b) := by
  unfold leqC; rw [order_cn]
def least0 (far : Nat) : Bool := FloatKind.f32.format.order far 0 == some .gt || FloatKind.f32.format.order far 0 == some .eq
def farOk (far : Nat) : Bool := fin .f32 (cn .f32 far) && least0 far

/-- Which rows are none, or are of another length than the first. -/
def bads (xss : List (List Nat)) (n : Int) : List Bool := xss.map fun r => !isVec r || ((r.length : Int) != n)
def pairsAll (ok : Nat → Nat → Bool) (n : Nat) : Bool := (List.range n).all fun i => (List.range n).all fun k => decide (k ≤ i) || ok i k
theorem pairsAll_iff {ok : Nat → Nat → Bool} {n : Nat} : pairsAll ok n = true ↔ ∀ i k, i < k → k < n → ok i k = true := by
  unfold pairsAll
  simp only [List.all_eq_true, List.mem_range, Bool.or_eq_true, decide_eq_true_eq]
  constructor
  · intro h i k hik hk
    rcases h i (by omega) k hk with h1 | h1
    · omega
    · exact h1
  · intro h i hi k hk
    by_cases hik : k ≤ i
    · exact .inl hik
    · exact .inr (h i k (by omega) hk)

def nearT (xss : List (List Nat)) (far : Nat) (i k : Nat) : Bool := leqC (normT (rowAt xss i) (rowAt xss k)) (cn .f32 far)
def nearK (xss : List (List Nat)) (i k : Nat) : Bool := normK (rowAt xss i) (rowAt xss k)
def rowsOk (xss : List (List Nat)) (far : Nat) : Bool := decide (1 ≤ xss.length) && decide (xss.length ≤ 32) && farOk far && !(bads xss ((rowAt xss 0).length : Int)).any id
def nearOk (xss : List (List Nat)) (far : Nat) : Bool := rowsOk xss far && pairsAll (nearK xss) xss.length
def nearR (xss : List (List Nat)) (far : Nat) : List Int := if nearOk xss far then pairsR (nearT xss far) xss.length else []
theorem nearR_len (xss : List (List Nat)) (far : Nat) : (nearR xss far).length ≤ 2048 := by
  unfold nearR
  split
  · rename_i h
    simp only [nearOk, rowsOk, Bool.and_eq_true, decide_eq_true_eq] at h
    unfold pairsR
    have h1 := prows_len (nearT xss far) xss.length xss.length
    have h2 : 2 * xss.length * xss.length ≤ 2 * 32 * 32 := Nat.mul_le_mul (by omega) (by omega)
    omega
  · simp

theorem rows_good {xss : List (List Nat)} {far : Nat} (h : rowsOk xss far = true) :
    ∃ n, 1 ≤ xss.length ∧ xss.length ≤ 32 ∧ fin .f32 (cn .f32 far) = true ∧ least0 far = true ∧ 1 ≤ n ∧ n ≤ 32 ∧ (rowAt xss 0).length = n ∧ (∀ i (h : i < xss.length), xss[i].length = n ∧ isVec xss[i] = true) := by
  simp only [rowsOk, farOk, Bool.and_eq_true, decide_eq_true_eq, Bool.not_eq_true', List.any_eq_false] at h
  obtain ⟨⟨⟨h1, h2⟩, h3, h4⟩, h5⟩ := h
  have hall : ∀ i (h : i < xss.length), xss[i].length = (rowAt xss 0).length ∧ isVec xss[i] = true := by
    intro i hi
    have := h5 (!isVec xss[i] || ((xss[i].length : Int) != ((rowAt xss 0).length : Int))) (by simp only [bads, List.mem_map]; exact ⟨xss[i], List.getElem_mem hi, rfl⟩)
    simp only [id, Bool.or_eq_true, Bool.not_eq_true', not_or, Bool.not_eq_false] at this
    refine ⟨?_, this.1⟩
    have e : (xss[i].length : Int) = ((rowAt xss 0).length : Int) := by simpa using this.2
    omega
  have hv := (hall 0 (by omega)).2
  have hl := (hall 0 (by omega)).1
  simp only [isVec, Bool.and_eq_true, decide_eq_true_eq] at hv
  exact ⟨(rowAt xss 0).length, h1, h2, h3, h4, by omega, by omega, rfl, hall⟩

set_option maxHeartbeats 800000 in
theorem near1_any {a al a0 : Option Addr} {c cl c0 N n0 b : Nat} {xs : List Nat} {w : World} (hx : Rd (Value.float .f32) w a c xs) (hbox : w.cell? ⟨b, 0, none⟩ = some (.slice al N cl))
    (hi0 : ∀ w', (Instr.indexAt 71 (.slice al N cl) (.int .i64 0)).run Try.prog w' = .ok (.pointer (some (elt al 0))) w') (hc0 : w.cell? (elt al 0) = some (.slice a0 n0 c0)) :
    Calls Try.prog 108 #[.slice a xs.length c, .pointer (some ⟨b, 0, none⟩)] w fun e w' => e = .returned (.bool (!isVec xs || ((xs.length : Int) != (n0 : Int)))) ∧ Below w.heap.size w w' := by
  obtain ⟨v, hv⟩ : ∃ v, isVec xs = v := ⟨_, rfl⟩
  have hc := isVector_any hx
  rw [hv] at hc ⊢
  have HC := Lib.hid hc
  clear hv hc
  cases v with
  | false =>
    go_enter Try.func108, Try.ntmps108
    go_wp2_with fail
    refine HC.out.mono ?_
    rintro e w1 ⟨rfl, hb⟩
    go_wp2
    go_ret
    exact ⟨rfl, hb⟩
  | true =>
    go_enter Try.func108, Try.ntmps108
    go_wp2_with fail
    refine HC.out.mono ?_
    rintro e w1 ⟨rfl, hb⟩
    have hbox1 := k_at hb hbox
    have hc1 := k_at hb hc0
    go_wp2
    go_ret
    exact ⟨ret_bool (by simp), hb⟩
theorem call_near1 (vs : Array Value) (w : World) : (callFunc 108 vs).run Try.prog w = .ok (.enter 108 vs) w := by kernel_rfl

theorem nearBads_any {a : Option Addr} {c : Nat} {hs : List Hd} {xss : List (List Nat)} {n b : Nat} {w : World} (hr : Rd2 (Value.float .f32) w a c hs xss) (hN : 0 < xss.length) (hn : (rowAt xss 0).length = n) (h : w.cell? ⟨b, 0, none⟩ = some (.slice a xss.length c)) :
    Calls Try.prog 107 #[.slice a xss.length c, .func (.func 108) #[] #[.pointer (some ⟨b, 0, none⟩)]] w fun e w' => e = .returned (.bool ((bads xss (n : Int)).any id)) ∧ Below w.heap.size w w' := by
  have hl : (bads xss (n : Int)).length = xss.length := by simp [bads]
  have hi0 := rd_idxAt hr.top und_ffs siz_ffs 0 (by rw [hr.len]; omega) 0 rfl
  rw [hr.len] at hi0
  obtain ⟨a0, c0, hc0, -⟩ := hr.at hN
  rw [← rowAt_get hN, hn] at hc0
  have := containsFuncff_any a c hs (bads xss (n : Int)) w 108 #[.pointer (some ⟨b, 0, none⟩)] call_near1 (by rw [hl, hr.len]) hr.top (by
    intro k hk wr hb
    rw [hl] at hk
    obtain ⟨hd, xs, h1, h2, h3, h4⟩ := hr.row k hk
    rw [h1, Option.getD_some]
    have hx : (bads xss (n : Int))[k] = (!isVec xs || ((xs.length : Int) != (n : Int))) := by
      have : xss[k] = xs := by rw [List.getElem?_eq_getElem hk] at h2; simpa using h2
      simp [bads, this]
    rw [hx]
    have hh := near1_any (h4.below hb (Nat.le_refl _)) (k_below hb (Nat.le_refl _) h) hi0 (k_at hb hc0)
    rw [← h3] at hh ⊢
    exact hh)
  rw [hl] at this
  exact this

end Go.Proofs.Ytofbnddmahjanaa
