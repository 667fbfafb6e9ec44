/- FnPicks: no key below 65536 has a hash of 0 with a salt below 256: many keys are mixed at once, each in 128 binary digits of one number (plain). -/
import Derived.Test.YtncbkbfkdgggkaaDoorQPk5
import Derived.Laws.BitsAllLaws
set_option linter.unusedVariables false
set_option linter.unusedSimpArgs false
namespace Go.Proofs.YtncbkbfkdgggkaaDoor
open Go.RowKit

/-- The mixing of one number. -/
def mxM (s c x : Nat) : Nat := ((x ^^^ (x >>> s)) * c) % 2 ^ 64
def mxC (x : Nat) : Nat := (x ^^^ (x >>> 31)) >>> 32
def mxG (c d x : Nat) : Nat := mxC (mxM 27 d (mxM 30 c x))
theorem mxM_lt (s c x : Nat) : mxM s c x < 2 ^ 64 := Nat.mod_lt _ (Nat.two_pow_pos 64)

/-! ### Numbers side by side -/
def pk : List Nat → Nat
  | [] => 0
  | a :: l => 2 ^ 128 * pk l + a
theorem pk_app (l m : List Nat) : pk (l ++ m) = 2 ^ (128 * l.length) * pk m + pk l := by
  induction l with
  | nil => simp [pk]
  | cons a l ih =>
    show 2 ^ 128 * pk (l ++ m) + a = 2 ^ (128 * (l.length + 1)) * pk m + (2 ^ 128 * pk l + a)
    rw [ih, Nat.mul_add, show 128 * (l.length + 1) = 128 * l.length + 128 by omega, Nat.pow_add, Nat.mul_comm (2 ^ (128 * l.length)) (2 ^ 128), Nat.mul_assoc, Nat.add_assoc]
theorem pk_mul (c : Nat) (l : List Nat) : pk l * c = pk (l.map (· * c)) := by
  induction l with
  | nil => simp [pk]
  | cons a l ih =>
    show (2 ^ 128 * pk l + a) * c = 2 ^ 128 * pk (l.map (· * c)) + a * c
    rw [← ih, Nat.add_mul, Nat.mul_assoc]
theorem pk_addc (c : Nat) (l : List Nat) : pk l + c * pk (l.map fun _ => 1) = pk (l.map (· + c)) := by
  induction l with
  | nil => simp [pk]
  | cons a l ih =>
    show (2 ^ 128 * pk l + a) + c * (2 ^ 128 * pk (l.map fun _ => 1) + 1) = 2 ^ 128 * pk (l.map (· + c)) + (a + c)
    rw [← ih, Nat.mul_add, Nat.mul_add, Nat.mul_left_comm c]
    omega
theorem pk_xor {a b p q : Nat} (ha : a < 2 ^ 128) (hb : b < 2 ^ 128) : (2 ^ 128 * p + a) ^^^ (2 ^ 128 * q + b) = 2 ^ 128 * (p ^^^ q) + (a ^^^ b) := by
  apply Nat.eq_of_testBit_eq
  intro j
  rw [Nat.testBit_xor, Nat.testBit_two_pow_mul_add _ ha, Nat.testBit_two_pow_mul_add _ hb, Nat.testBit_two_pow_mul_add _ (Nat.xor_lt_two_pow ha hb)]
  split <;> rw [Nat.testBit_xor]
/-- Each shifted, under a mask. -/
theorem pk_shift {s m a p q : Nat} (ha : a < 2 ^ 128) (hm : m < 2 ^ (128 - s)) (hs : s ≤ 128) : ((2 ^ 128 * p + a) >>> s) &&& (2 ^ 128 * q + m) = 2 ^ 128 * ((p >>> s) &&& q) + ((a >>> s) &&& m) := by
  have hm2 : m < 2 ^ 128 := Nat.lt_of_lt_of_le hm (Nat.pow_le_pow_right (by decide) (by omega))
  apply Nat.eq_of_testBit_eq
  intro j
  rw [Nat.testBit_and, Nat.testBit_shiftRight, Nat.testBit_two_pow_mul_add _ ha, Nat.testBit_two_pow_mul_add _ hm2, Nat.testBit_two_pow_mul_add _ (Nat.and_lt_two_pow _ hm2)]
  by_cases hj : j < 128
  · rw [if_pos hj, if_pos hj, Nat.testBit_and, Nat.testBit_shiftRight]
    by_cases h2 : s + j < 128
    · rw [if_pos h2]
    · rw [if_neg h2, Nat.testBit_lt_two_pow (x := m) (i := j) (Nat.lt_of_lt_of_le hm (Nat.pow_le_pow_right (by decide) (by omega))), Bool.and_false, Bool.and_false]
  · rw [if_neg hj, if_neg hj, if_neg (by omega), Nat.testBit_and, Nat.testBit_shiftRight, show s + j - 128 = s + (j - 128) by omega]
theorem pk_shiftL {s m : Nat} (hs : s ≤ 128) (hm : m < 2 ^ (128 - s)) : ∀ l : List Nat, (∀ x ∈ l, x < 2 ^ 128) → (pk l >>> s) &&& pk (l.map fun _ => m) = pk (l.map fun x => (x >>> s) &&& m)
  | [], _ => by simp [pk]
  | a :: l, h => by
    show ((2 ^ 128 * pk l + a) >>> s) &&& (2 ^ 128 * pk (l.map fun _ => m) + m) = 2 ^ 128 * pk (l.map fun x => (x >>> s) &&& m) + ((a >>> s) &&& m)
    rw [pk_shift (h a List.mem_cons_self) hm hs, pk_shiftL hs hm l (fun x hx => h x (List.mem_cons_of_mem _ hx))]
theorem pk_xorL (f g : Nat → Nat) : ∀ l : List Nat, (∀ x ∈ l, f x < 2 ^ 128 ∧ g x < 2 ^ 128) → pk (l.map f) ^^^ pk (l.map g) = pk (l.map fun x => f x ^^^ g x)
  | [], _ => by simp [pk]
  | a :: l, h => by
    show (2 ^ 128 * pk (l.map f) + f a) ^^^ (2 ^ 128 * pk (l.map g) + g a) = 2 ^ 128 * pk (l.map fun x => f x ^^^ g x) + (f a ^^^ g a)
    rw [pk_xor (h a List.mem_cons_self).1 (h a List.mem_cons_self).2, pk_xorL f g l (fun x hx => h x (List.mem_cons_of_mem _ hx))]
theorem pk_inj : ∀ l m : List Nat, (∀ x ∈ l, x < 2 ^ 128) → (∀ x ∈ m, x < 2 ^ 128) → l.length = m.length → pk l = pk m → l = m
  | [], [], _, _, _, _ => rfl
  | a :: l, b :: m, h1, h2, hl, h => by
    have ha := h1 a List.mem_cons_self
    have hb := h2 b List.mem_cons_self
    have h' : 2 ^ 128 * pk l + a = 2 ^ 128 * pk m + b := h
    have hab : a = b := by
      have : (2 ^ 128 * pk l + a) % 2 ^ 128 = (2 ^ 128 * pk m + b) % 2 ^ 128 := by rw [h']
      rwa [Nat.mul_add_mod, Nat.mul_add_mod, Nat.mod_eq_of_lt ha, Nat.mod_eq_of_lt hb] at this
    subst hab
    have : pk l = pk m := Nat.eq_of_mul_eq_mul_left (Nat.two_pow_pos 128) (by omega)
    rw [pk_inj l m (fun x hx => h1 x (List.mem_cons_of_mem _ hx)) (fun x hx => h2 x (List.mem_cons_of_mem _ hx)) (by simpa using hl) this]

/-! ### The mixing, all at once -/
def xsP (m o s x : Nat) : Nat := x ^^^ ((x >>> s) &&& (m * o))
def mulP (m o c x : Nat) : Nat := (x * c) &&& (m * o)
def mixP (m c d o x : Nat) : Nat := (xsP m o 31 (mulP m o d (xsP m o 27 (mulP m o c (xsP m o 30 x)))) >>> 32) &&& (m * o)
/-- The mask of 64 digits. -/
structure MaskOk (m : Nat) : Prop where
  and : ∀ x, x &&& m = x % 2 ^ 64
  lt : m < 2 ^ 64
theorem ones_c (c : Nat) (l : List Nat) : c * pk (l.map fun _ => 1) = pk (l.map fun _ => c) := by
  rw [Nat.mul_comm, pk_mul, List.map_map]
  exact congrArg pk (List.map_congr_left fun _ _ => Nat.one_mul c)
theorem xsP_ok {m s : Nat} (M : MaskOk m) (hs : s ≤ 64) (l : List Nat) (f : Nat → Nat) (h : ∀ x ∈ l, f x < 2 ^ 64) : xsP m (pk (l.map fun _ => 1)) s (pk (l.map f)) = pk (l.map fun x => f x ^^^ (f x >>> s)) := by
  have h64 : (2 : Nat) ^ 64 < 2 ^ 128 := by decide
  have hm1 := M.lt
  unfold xsP
  rw [ones_c]
  have e : (l.map fun _ => m) = ((l.map f).map fun _ => m) := by rw [List.map_map]; rfl
  have hm : m < 2 ^ (128 - s) := Nat.lt_of_lt_of_le M.lt (Nat.pow_le_pow_right (by decide) (by omega))
  rw [e, pk_shiftL (by omega) hm (l.map f) (fun x hx => by obtain ⟨y, hy, rfl⟩ := List.mem_map.1 hx; have := h y hy; omega), List.map_map]
  have hx := pk_xorL f (fun x => (f x >>> s) &&& m) l (fun x hx => ⟨by have := h x hx; omega, Nat.lt_of_le_of_lt Nat.and_le_right (by omega)⟩)
  refine Eq.trans hx ?_
  refine congrArg pk (List.map_congr_left fun x hx => ?_)
  show f x ^^^ ((f x >>> s) &&& m) = _
  rw [M.and, Nat.mod_eq_of_lt]
  exact Nat.lt_of_le_of_lt (Nat.shiftRight_le _ _) (h x hx)
theorem mulP_ok {m : Nat} (M : MaskOk m) (c : Nat) (hc : c < 2 ^ 64) (l : List Nat) (f : Nat → Nat) (h : ∀ x ∈ l, f x < 2 ^ 64) : mulP m (pk (l.map fun _ => 1)) c (pk (l.map f)) = pk (l.map fun x => (f x * c) % 2 ^ 64) := by
  have hm1 := M.lt
  unfold mulP
  rw [ones_c, pk_mul, List.map_map]
  have e : (l.map fun _ => m) = ((l.map fun x => f x * c).map fun _ => m) := by rw [List.map_map]; rfl
  have h0 := pk_shiftL (s := 0) (m := m) (by omega) (by omega) (l.map fun x => f x * c) (fun x hx => by
    obtain ⟨y, hy, rfl⟩ := List.mem_map.1 hx
    have := Nat.mul_lt_mul'' (h y hy) hc
    rwa [← Nat.pow_add] at this)
  rw [Nat.shiftRight_zero, ← e, List.map_map] at h0
  show pk (l.map fun x => f x * c) &&& pk (l.map fun _ => m) = _
  rw [h0]
  refine congrArg pk (List.map_congr_left fun x hx => ?_)
  show (f x * c) >>> 0 &&& m = _
  rw [Nat.shiftRight_zero, M.and]
theorem xs_lt {x s : Nat} (h : x < 2 ^ 64) : x ^^^ (x >>> s) < 2 ^ 64 := Nat.xor_lt_two_pow h (Nat.lt_of_le_of_lt (Nat.shiftRight_le _ _) h)
theorem mixP_ok {m c d : Nat} (M : MaskOk m) (hc : c < 2 ^ 64) (hd : d < 2 ^ 64) (l : List Nat) (f : Nat → Nat) (h : ∀ x ∈ l, f x < 2 ^ 64) : mixP m c d (pk (l.map fun _ => 1)) (pk (l.map f)) = pk (l.map fun x => mxG c d (f x)) := by
  have h64 : (2 : Nat) ^ 64 < 2 ^ 128 := by decide
  have hm1 := M.lt
  have hm : m < 2 ^ (128 - 32) := Nat.lt_of_lt_of_le M.lt (Nat.pow_le_pow_right (by decide) (by omega))
  obtain ⟨gA, hA⟩ : ∃ g : Nat → Nat, ∀ x, g x = mxM 30 c (f x) := ⟨_, fun _ => rfl⟩
  obtain ⟨gB, hB⟩ : ∃ g : Nat → Nat, ∀ x, g x = mxM 27 d (gA x) := ⟨_, fun _ => rfl⟩
  have lA : ∀ x, gA x < 2 ^ 64 := fun x => by rw [hA]; exact mxM_lt _ _ _
  have lB : ∀ x, gB x < 2 ^ 64 := fun x => by rw [hB]; exact mxM_lt _ _ _
  have a1 : mulP m (pk (l.map fun _ => 1)) c (pk (l.map fun x => f x ^^^ (f x >>> 30))) = pk (l.map gA) := by
    rw [mulP_ok M c hc l (fun x => f x ^^^ (f x >>> 30)) (fun x hx => xs_lt (h x hx))]
    exact congrArg pk (List.map_congr_left fun x _ => by rw [hA]; unfold mxM; rfl)
  have a2 : mulP m (pk (l.map fun _ => 1)) d (pk (l.map fun x => gA x ^^^ (gA x >>> 27))) = pk (l.map gB) := by
    rw [mulP_ok M d hd l (fun x => gA x ^^^ (gA x >>> 27)) (fun x _ => xs_lt (lA x))]
    exact congrArg pk (List.map_congr_left fun x _ => by rw [hB]; unfold mxM; rfl)
  unfold mixP
  rw [xsP_ok M (by omega) l f h, a1, xsP_ok M (by omega) l gA (fun x _ => lA x), a2, xsP_ok M (by omega) l gB (fun x _ => lB x), ones_c]
  have e : (l.map fun _ => m) = ((l.map fun x => gB x ^^^ (gB x >>> 31)).map fun _ => m) := by rw [List.map_map]; rfl
  rw [e, pk_shiftL (by omega) hm _ (fun x hx => by
    obtain ⟨y, hy, rfl⟩ := List.mem_map.1 hx
    have := xs_lt (s := 31) (lB y)
    omega), List.map_map]
  refine congrArg pk (List.map_congr_left fun x hx => ?_)
  show ((gB x ^^^ (gB x >>> 31)) >>> 32) &&& m = mxG c d (f x)
  rw [M.and, Nat.mod_eq_of_lt (Nat.lt_of_le_of_lt (Nat.shiftRight_le _ _) (xs_lt (lB x))), hB, hA]
  rfl

/-! ### The keys, by doubling -/
def pkO : Nat → Nat
  | 0 => 1
  | e + 1 => 2 ^ (128 * 2 ^ e) * pkO e + pkO e
def pkI : Nat → Nat
  | 0 => 0
  | e + 1 => 2 ^ (128 * 2 ^ e) * (pkI e + 2 ^ e * pkO e) + pkI e
theorem range_dbl (e : Nat) : List.range (2 ^ (e + 1)) = List.range (2 ^ e) ++ (List.range (2 ^ e)).map (2 ^ e + ·) := by rw [Nat.pow_succ, Nat.mul_two, List.range_add]
theorem pkO_ok : ∀ e, pkO e = pk ((List.range (2 ^ e)).map fun _ => 1)
  | 0 => rfl
  | e + 1 => by
    rw [range_dbl, List.map_append, pk_app, List.map_map, List.length_map, List.length_range]
    show 2 ^ (128 * 2 ^ e) * pkO e + pkO e = _
    rw [pkO_ok e]
    rfl
theorem pkI_ok : ∀ e, pkI e = pk (List.range (2 ^ e))
  | 0 => rfl
  | e + 1 => by
    rw [range_dbl, pk_app, List.length_range]
    show 2 ^ (128 * 2 ^ e) * (pkI e + 2 ^ e * pkO e) + pkI e = _
    rw [pkI_ok e, pkO_ok e, pk_addc]
    rw [show (List.range (2 ^ e)).map (· + 2 ^ e) = (List.range (2 ^ e)).map (2 ^ e + ·) from List.map_congr_left fun x _ => Nat.add_comm _ _]
theorem mxG_lt (c d x : Nat) : mxG c d x < 2 ^ 32 := by
  have h := xs_lt (s := 31) (mxM_lt 27 d (mxM 30 c x))
  show (mxM 27 d (mxM 30 c x) ^^^ (mxM 27 d (mxM 30 c x) >>> 31)) >>> 32 < 2 ^ 32
  rw [Nat.shiftRight_eq_div_pow]
  omega
/-- None of 2^e numbers behind a base is mixed to 0. -/
theorem none_zero {m c d B U : Nat} (M : MaskOk m) (hc : c < 2 ^ 64) (hd : d < 2 ^ 64) (hU : U = 4294967295) (e base : Nat) (hb : base + 2 ^ e ≤ 2 ^ 64) (hB : B = 4294967296)
    (h : (mixP m c d (pkO e) (pkI e + base * pkO e) + U * pkO e) &&& (B * pkO e) = B * pkO e) {k : Nat} (hk : k < 2 ^ e) : mxG c d (k + base) ≠ 0 := by
  have e0 : mixP m c d (pkO e) (pkI e + base * pkO e) = pk ((List.range (2 ^ e)).map fun k => mxG c d (k + base)) := by
    rw [pkO_ok, pkI_ok, pk_addc, mixP_ok M hc hd _ (fun k => k + base)]
    intro x hx
    have := List.mem_range.1 hx
    omega
  rw [e0, pkO_ok] at h
  have hm : k ∈ List.range (2 ^ e) := List.mem_range.2 hk
  generalize List.range (2 ^ e) = L at h hm
  have e1 : pk (L.map fun k => mxG c d (k + base)) + U * pk (L.map fun _ => 1) = pk (L.map fun k => mxG c d (k + base) + U) := by
    have := pk_addc U (L.map fun k => mxG c d (k + base))
    rw [List.map_map, List.map_map] at this
    exact this
  rw [e1, ones_c] at h
  have e3 := pk_shiftL (s := 0) (m := B) (by omega) (by omega) (L.map fun k => mxG c d (k + base) + U) (fun x hx => by
    obtain ⟨y, _, rfl⟩ := List.mem_map.1 hx
    have := mxG_lt c d (y + base)
    omega)
  rw [Nat.shiftRight_zero, List.map_map, List.map_map] at e3
  have e4 : pk (L.map fun k => ((mxG c d (k + base) + U) >>> 0) &&& B) = pk (L.map fun _ => B) := e3.symm.trans h
  have e5 := pk_inj _ _ (fun x hx => by
    obtain ⟨y, _, rfl⟩ := List.mem_map.1 hx
    exact Nat.lt_of_le_of_lt Nat.and_le_right (by omega)) (fun x hx => by
    obtain ⟨y, _, rfl⟩ := List.mem_map.1 hx
    omega) (by rw [List.length_map, List.length_map]) e4
  have e6 := List.map_inj_left.1 e5 k hm
  intro h0
  rw [h0, hU, hB] at e6
  exact absurd e6 (by decide)

/-! ### The check -/
def saltB (s : Nat) : Bool := Nat.beq ((mixP 18446744073709551615 13787848793156543929 10723151780598845931 (pkO 16) (pkI 16 + (4294967296 * s + 11400714819323198485) * pkO 16) + 4294967295 * pkO 16) &&& (4294967296 * pkO 16)) (4294967296 * pkO 16)
theorem mask_ok : MaskOk 18446744073709551615 := ⟨fun x => Nat.and_two_pow_sub_one_eq_mod x 64, by decide⟩
theorem salt_ok {s k : Nat} (hs : s < 256) (hk : k < 65536) (h : saltB s = true) : mxG 13787848793156543929 10723151780598845931 (k + (4294967296 * s + 11400714819323198485)) ≠ 0 :=
  none_zero mask_ok (by decide) (by decide) rfl 16 _ (by omega) rfl (Nat.eq_of_beq_eq_true h) hk
theorem salts_all : (List.range 256).all saltB = true := by decide +kernel

/-! ### The program's hash -/
theorem stepZ {x c s : Nat} {P C : Int} (hx : x < 18446744073709551616) (hP : P = ((2 ^ s : Nat) : Int)) (hC : C = (c : Int)) : IntKind.u64.wrap (bits .xor .u64 (x : Int) ((x : Int) / P) * C) = (mxM s c x : Int) := by
  have e1 : (x : Int) / P = ((x >>> s : Nat) : Int) := by rw [hP, Nat.shiftRight_eq_div_pow]; exact (Int.natCast_ediv x (2 ^ s)).symm
  rw [e1, u64_xor_nat x (x >>> s) hx (Nat.lt_of_le_of_lt (Nat.shiftRight_le _ _) hx), hC, IntKind.wrap_u64, ← Int.natCast_mul]
  unfold mxM
  generalize (x ^^^ x >>> s) * c = y
  omega
theorem lastZ {x : Nat} {P Q : Int} (hx : x < 18446744073709551616) (hP : P = ((2 ^ 31 : Nat) : Int)) (hQ : Q = ((2 ^ 32 : Nat) : Int)) : bits .xor .u64 (x : Int) ((x : Int) / P) / Q = (mxC x : Int) := by
  have e1 : (x : Int) / P = ((x >>> 31 : Nat) : Int) := by rw [hP, Nat.shiftRight_eq_div_pow]; exact (Int.natCast_ediv x (2 ^ 31)).symm
  rw [e1, u64_xor_nat x (x >>> 31) hx (Nat.lt_of_le_of_lt (Nat.shiftRight_le _ _) hx), hQ]
  unfold mxC
  rw [Nat.shiftRight_eq_div_pow (x ^^^ x >>> 31)]
  exact (Int.natCast_ediv _ (2 ^ 32)).symm
theorem hash_nat {k s : Nat} (hk : k < 65536) (hs : s < 256) : hashZ (k : Int) (s : Int) = (mxG 13787848793156543929 10723151780598845931 (k + (4294967296 * s + 11400714819323198485)) : Int) := by
  obtain ⟨x, hx⟩ : ∃ x, k + (4294967296 * s + 11400714819323198485) = x := ⟨_, rfl⟩
  have hx2 : x < 18446744073709551616 := by omega
  have ea : argZ (k : Int) (s : Int) = (x : Int) := by
    unfold argZ
    rw [IntKind.wrap_u64]
    omega
  unfold hashZ mixZ
  rw [ea, hx, stepZ (s := 30) (c := 13787848793156543929) hx2 (by decide) (by decide)]
  have l1 : mxM 30 13787848793156543929 x < 18446744073709551616 := mxM_lt _ _ _
  unfold mxG
  generalize mxM 30 13787848793156543929 x = y at l1 ⊢
  rw [stepZ (s := 27) (c := 10723151780598845931) l1 (by decide) (by decide)]
  have l2 : mxM 27 10723151780598845931 y < 18446744073709551616 := mxM_lt _ _ _
  generalize mxM 27 10723151780598845931 y = z at l2 ⊢
  exact lastZ l2 (by decide) (by decide)
/-- No key below 65536 has the hash 0 with a salt below 256. -/
theorem hash_pos {k s : Int} (h0 : 0 ≤ k) (hk : k < 65536) (h1 : 0 ≤ s) (hs : s < 256) : hashZ k s ≠ 0 := by
  obtain ⟨k, rfl⟩ := Int.eq_ofNat_of_zero_le h0
  obtain ⟨s, rfl⟩ := Int.eq_ofNat_of_zero_le h1
  have hk' : k < 65536 := by omega
  have hs' : s < 256 := by omega
  have h := salt_ok hs' hk' (List.all_eq_true.1 salts_all s (List.mem_range.2 hs'))
  rw [hash_nat hk' hs']
  intro h2
  exact h (Int.ofNat_eq_zero.1 h2)

end Go.Proofs.YtncbkbfkdgggkaaDoor
