/- Lists of bytes: appends of several, of a text's bytes; a text of bytes. -/
import Derived.Test.YtmmpemfhbnkomaaDoorQRj0
import Derived.Test.YtmmpemfhbnkomaaDoorQRj2
import Derived.Lib.AppendStr
import Derived.Laws.IdiomStrings
import Derived.Lib.SlBytesConst
import Derived.ArgAppend
set_option linter.unusedVariables false
set_option linter.unusedSimpArgs false
namespace Go.Proofs.YtmmpemfhbnkomaaDoor
open Go.RowKit

theorem und_y : Tryd.prog.underlying 74 = some (.slice (Tryd.prog.elem 74)) := by kernel_rfl
theorem und_ye : Tryd.prog.underlying 74 = some (.slice 5) := by kernel_rfl
theorem siz_y (w : World) : (sizeOf (Tryd.prog.elem 74)).run Tryd.prog w = .ok 1 w := by kernel_rfl
theorem info_y : (Tryd.prog.info? 5).map (fun i => (i.zero, i.size, i.bytes)) = some (some (Value.int .u8 0), 1, 1) := by kernel_rfl
theorem und_y1 : Tryd.prog.underlying 5 = some (.int .u8) := by kernel_rfl
theorem und_str : Tryd.prog.underlying 9 = some .string := by kernel_rfl

/-- 'out = append(out, x, y, ..)' at elements of one cell, out a slice of the call's own. -/
theorem wpl_appendL {P : Program} {w : World} {ops : Array Oper} {rest : List Oper} {o : Oper} {ac : Act} {Q : Exit → Act → World → Prop} {t e : TypeId}
    {α : Type} {f : α → Value} {d : α} {by_ : Nat} (hT : P.underlying t = some (.slice e)) (hI : (P.info? e).map (fun i => (i.zero, i.size, i.bytes)) = some (some (f d), 1, by_))
    (h1 : ∀ x, (f x).oneCell' = true) {base : Nat} {a : Option Addr} {c : Nat} {xs : List α} (ys : List α) (hown : Own f e w base a c xs)
    (hg : o.guard = none) (s y : Operand) (hop : o.op = .call { callee := .builtin .append, args := #[s, y], argTypes := #[t, t] })
    (hs : ac.eval s = .slice a xs.length c) (hy : ac.eval y = .slice (some ⟨w.heap.size, 0, none⟩) ys.length ys.length)
    (hn : xs.length + ys.length ≤ 1048576 * 1024) (hby : by_ ≤ 65536) (hbase : base ≤ w.heap.size)
    (hK : ∀ a' c' w', Own f e w' base a' c' (xs ++ ys) → w.grownBy w' (a.map (·.block)) → wpList P ops Q rest (ac.put o.dst (.slice a' (xs.length + ys.length) c')) w') :
    wpList P ops Q (o :: rest) ac (w.alloc (.cells (ys.map f).toArray e)) := by
  obtain ⟨i0, hi, hz0, hz1, hz2⟩ := info_parts hI
  have hcells : ∀ x, (f x).cells = #[f x] := by
    intro x
    have := h1 x
    revert this; cases f x <;> simp [Value.oneCell', Value.cells]
  refine wpList_append_own _ hg s y t hop base e i0 (f d) 1 by_ hT hi hz0 hz1 hz2 (by rw [hcells]; rfl) (by decide) (.slice a xs.length c) xs.length (xs.map f) hs (World.ownsRow.alloc hown _) ⟨w.heap.size, 0, none⟩ ys.length ys.length (ys.map f) hy (by simp) ?_ ?_ ?_ ?_ ?_ ?_
  · intro j u hu
    rw [add_elt]
    exact (Blk.new w (ys.map f).toArray e).cell (i := 0 + j) (by rw [Nat.zero_add]; simpa using hu)
  · intro u hu
    obtain ⟨x, _, rfl⟩ := List.mem_map.1 hu
    exact h1 x
  · unfold maxLen; omega
  · calc (xs.length + ys.length) * by_ ≤ (1048576 * 1024) * 65536 := Nat.mul_le_mul (by omega) hby
      _ ≤ _ := by omega
  · simp; omega
  · intro v' w' ho hgr _
    have ho' : w'.ownsRow base e 1 v' (xs.length + ys.length) ((xs ++ ys).map f) := by simpa using ho
    obtain ⟨a', c', rfl, hO⟩ := own_of_row ho' rfl
    rw [List.length_append]
    refine hK a' c' w' hO ?_
    have hga : w.grownBy (w.alloc (.cells (ys.map f).toArray e)) (a.map (·.block)) := World.grownBy_alloc w _ _
    refine grown_trans hga ?_
    have : (Value.slice a xs.length c).ownBlock = a.map (·.block) := by cases a <;> rfl
    rw [this] at hgr
    exact hgr

/-- 'append(out, x, y, ..)' within a region that draws its order. -/
theorem step_appendL {P : Program} {w : World} {ops : Array Oper} {o : Oper} {ac : Act} {K : Act → World → Prop} {Q : Exit → Act → World → Prop} {E : Prop} {t e : TypeId}
    {α : Type} {f : α → Value} {d : α} {by_ : Nat} (hT : P.underlying t = some (.slice e)) (hI : (P.info? e).map (fun i => (i.zero, i.size, i.bytes)) = some (some (f d), 1, by_))
    (h1 : ∀ x, (f x).oneCell' = true) {base : Nat} {a : Option Addr} {c : Nat} {xs : List α} (ys : List α) (h0 : 0 < ys.length) (hown : Own f e w base a c xs)
    (hg : o.guard = none) (s y : Operand) (hop : o.op = .call { callee := .builtin .append, args := #[s, y], argTypes := #[t, t] }) (B : Nat)
    (hs : ac.eval s = .slice a xs.length c) (hy : ac.eval y = .slice (some ⟨B, 0, none⟩) ys.length ys.length) (hB : w.heap[B]? = some (.cells (ys.map f).toArray e (0, 0)))
    (hn : xs.length + ys.length ≤ 1048576 * 1024) (hby : by_ ≤ 65536) (hbase : base ≤ w.heap.size)
    (hK : ∀ a' c' w', Own f e w' base a' c' (xs ++ ys) → w.grownBy w' (a.map (·.block)) → K (ac.put o.dst (.slice a' (xs.length + ys.length) c')) w') :
    if Region.wanted o (yielded ops ac.tmps) = true then Oper.wp P o ac w K Q else E := by
  obtain ⟨i0, hi, hz0, hz1, hz2⟩ := info_parts hI
  have hcells : ∀ x, (f x).cells = #[f x] := by
    intro x
    have := h1 x
    revert this; cases f x <;> simp [Value.oneCell', Value.cells]
  refine step_append_lies _ hg s y t hop base e i0 (f d) 1 by_ hT hi hz0 hz1 hz2 (by rw [hcells]; rfl) (by decide) (.slice a xs.length c) xs.length (xs.map f) hs hown ⟨B, 0, none⟩ ys.length ys.length (ys.map f) hy (by simp) (World.news_of_block (cs := (ys.map f).toArray) hB) ?_ h0 ?_ ?_ hbase _ rfl ?_
  · intro u hu
    obtain ⟨x, _, rfl⟩ := List.mem_map.1 hu
    exact h1 x
  · unfold maxLen; omega
  · calc (xs.length + ys.length) * by_ ≤ (1048576 * 1024) * 65536 := Nat.mul_le_mul (by omega) hby
      _ ≤ _ := by omega
  · intro g cap w' ho hgr _ _
    have ho' : Own f e w' base (some ⟨g, 0, none⟩) cap (xs ++ ys) := by unfold Own; simpa using ho
    refine hK _ _ w' ho' ?_
    have : (Value.slice a xs.length c).ownBlock = a.map (·.block) := by cases a <;> rfl
    rw [this] at hgr
    exact hgr

/-- A text's bytes. -/
def bytesI (s : ByteArray) : List Int := s.data.toList.map fun b => (b.toNat : Int)
theorem bytesI_len (s : ByteArray) : (bytesI s).length = s.size := by unfold bytesI; rw [List.length_map, Array.length_toList]; rfl
theorem bytesI_cells (s : ByteArray) : (bytesI s).map (Value.int .u8) = Go.Lib.strCells s := by unfold bytesI Go.Lib.strCells; rw [List.map_map]; rfl

/-- 'out = append(out, s..)', s a text. -/
theorem wpl_appendS {P : Program} {w : World} {ops : Array Oper} {rest : List Oper} {o : Oper} {ac : Act} {Q : Exit → Act → World → Prop} {t u e : TypeId}
    (hT : P.underlying t = some (.slice e)) (hU : P.underlying u = some .string) (hI : (P.info? e).map (fun i => (i.zero, i.size, i.bytes)) = some (some (Value.int .u8 0), 1, 1))
    {base : Nat} {a : Option Addr} {c : Nat} {xs : List Int} (s : ByteArray) (hown : Own (Value.int .u8) e w base a c xs)
    (hg : o.guard = none) (sl x : Operand) (hop : o.op = .call { callee := .builtin .append, args := #[sl, x], argTypes := #[t, u] })
    (hs : ac.eval sl = .slice a xs.length c) (hx : ac.eval x = .string s)
    (hn : xs.length + s.size ≤ 1048576 * 1024) (hbase : base ≤ w.heap.size)
    (hK : ∀ a' c' w', Own (Value.int .u8) e w' base a' c' (xs ++ bytesI s) → w.grownBy w' (a.map (·.block)) → wpList P ops Q rest (ac.put o.dst (.slice a' (xs.length + s.size) c')) w') :
    wpList P ops Q (o :: rest) ac w := by
  obtain ⟨i0, hi, hz0, hz1, hz2⟩ := info_parts hI
  refine Go.Lib.wpList_append_own_string w hg sl x t u hop base e i0 hT hU hi hz0 hz1 hz2 (.slice a xs.length c) xs.length (xs.map (Value.int .u8)) hs hown s hx (by unfold maxLen; omega) (by omega) hbase ?_
  intro v' w' ho hgr _
  have ho' : w'.ownsRow base e 1 v' (xs.length + s.size) ((xs ++ bytesI s).map (Value.int .u8)) := by rw [List.map_append, bytesI_cells]; exact ho
  obtain ⟨a', c', rfl, hO⟩ := own_of_row ho' rfl
  rw [List.length_append, bytesI_len]
  have : (Value.slice a xs.length c).ownBlock = a.map (·.block) := by cases a <;> rfl
  rw [this] at hgr
  exact hK a' c' w' hO hgr

/-- 'append' to a whole block that may not be written behind its end. -/
theorem wpl_appendF {P : Program} {w : World} {ops : Array Oper} {rest : List Oper} {o : Oper} {ac : Act} {Q : Exit → Act → World → Prop} {t e : TypeId}
    (hT : P.underlying t = some (.slice e)) (hI : (P.info? e).map (fun i => (i.zero, i.size, i.bytes)) = some (some (Value.int .u8 0), 1, 1))
    {base B : Nat} {fz : Nat × Nat} (xs ys : List Int) (hB : w.heap[B]? = some (.cells (xs.map (Value.int .u8)).toArray e fz)) (h0 : 0 < ys.length)
    (hg : o.guard = none) (s y : Operand) (hop : o.op = .call { callee := .builtin .append, args := #[s, y], argTypes := #[t, t] })
    (hs : ac.eval s = .slice (some ⟨B, 0, none⟩) xs.length xs.length) {N : Nat} (hy : ac.eval y = .slice (some ⟨N, 0, none⟩) ys.length ys.length) (hN : N = w.heap.size)
    (hn : xs.length + ys.length ≤ 1048576 * 1024) (hbase : base ≤ w.heap.size)
    (hK : ∀ a' c' w', Own (Value.int .u8) e w' base a' c' (xs ++ ys) → Below base w w' → wpList P ops Q rest (ac.put o.dst (.slice a' (xs.length + ys.length) c')) w') :
    wpList P ops Q (o :: rest) ac (w.alloc (.cells (ys.map (Value.int .u8)).toArray e)) := by
  subst hN
  obtain ⟨i0, hi, hz0, hz1, hz2⟩ := info_parts hI
  have hBlt : B < w.heap.size := (Array.getElem?_eq_some_iff.1 hB).1
  refine wpList_append_grows _ hg s y t hop e i0 (.int .u8 0) 1 1 hT hi hz0 hz1 hz2 rfl (by decide) (some ⟨B, 0, none⟩) xs.length xs.length (xs.map (Value.int .u8)) hs (by simp) (by simp) ?_ ⟨w.heap.size, 0, none⟩ ys.length ys.length (ys.map (Value.int .u8)) hy (by simp) ?_ ?_ (by omega) (by unfold maxLen; omega) (by omega) ?_
  · intro b hb j u hu
    obtain rfl : ⟨B, 0, none⟩ = b := by simpa using hb
    rw [add_elt, cell_of_row _ B (0 + j) (xs.map (Value.int .u8)).toArray e fz (heap_old' hBlt hB), Nat.zero_add]
    simpa using hu
  · intro j u hu
    rw [add_elt]
    exact (Blk.new w (ys.map (Value.int .u8)).toArray e).cell (i := 0 + j) (by rw [Nat.zero_add]; simpa using hu)
  · intro u hu
    obtain ⟨x, _, rfl⟩ := List.mem_map.1 hu
    rfl
  · intro v' w' ho hgr
    have ho' : w'.ownsRow (w.alloc (.cells (ys.map (Value.int .u8)).toArray e)).heap.size e 1 v' (xs.length + ys.length) ((xs ++ ys).map (Value.int .u8)) := by simpa using ho
    obtain ⟨a', c', rfl, hO⟩ := own_of_row ho' rfl
    rw [List.length_append]
    refine hK a' c' w' (hO.mono (by simp; omega)) ?_
    exact ((Below.refl base w).alloc hbase _).trans ((grown_below hgr).mono (by simp; omega))

/-- The text of bytes. -/
def strOf (xs : List Int) : ByteArray := xs.foldl (fun r n => r.push (UInt8.ofNat n.toNat)) ByteArray.empty
theorem strOf_size (xs : List Int) : (strOf xs).size = xs.length := by
  have key : ∀ (l : List Int) (r : ByteArray), (l.foldl (fun r n => r.push (UInt8.ofNat n.toNat)) r).size = r.size + l.length := by
    intro l
    induction l with
    | nil => intro r; rfl
    | cons x l ih =>
      intro r
      rw [List.foldl_cons, ih]
      have : (r.push (UInt8.ofNat x.toNat)).size = r.size + 1 := by unfold ByteArray.push ByteArray.size; simp
      rw [this, List.length_cons]; omega
  unfold strOf
  rw [key]
  have : ByteArray.empty.size = 0 := rfl
  omega
theorem conv_own {w : World} {base : Nat} {a : Option Addr} {c : Nat} {xs : List Int} (h : Own (Value.int .u8) 5 w base a c xs) (h0 : 0 < xs.length) :
    (convert 74 9 (.slice a xs.length c)).run Tryd.prog w = .ok (.string (strOf xs)) w := by
  have hrd := h.rd
  rcases h.shape with ⟨_, _, rfl⟩ | ⟨g, rfl, _⟩
  · simp at h0
  · rw [run_convert_bytes_string w _ _ _ _ _ _ und_ye und_y1 und_str]
    have hl := run_loadCells_list (P := Tryd.prog) w ⟨g, 0, none⟩ (xs.map (Value.int .u8)) (fun j v hj => by
      have hj' : j < xs.length := by
        have := (List.getElem?_eq_some_iff.1 hj).1
        simpa using this
      have := hrd.cell j hj'
      rw [elt_some] at this
      rw [add_elt, this]
      simp [List.getElem?_eq_getElem hj'] at hj ⊢
      exact hj)
    simp only [List.length_map] at hl
    rw [run_bytesToString w _ _ _ xs hl]
    rfl

/-- The bytes of a text, as a slice. -/
theorem conv_bytes (w : World) (s : ByteArray) (hs : s.size ≤ 1048576) : ∃ cp X, (convert 9 74 (.string s)).run Tryd.prog w = .ok (.slice (some ⟨w.heap.size, 0, none⟩) (bytesI s).length cp) ((w.alloc X).drew) ∧ Rd (Value.int .u8) ((w.alloc X).drew) (some ⟨w.heap.size, 0, none⟩) cp (bytesI s) := by
  refine ⟨_, _, by rw [run_bytes_of_string w _ _ _ s und_str und_ye und_y1, bytesI_len]; rfl, ?_, ?_, by simp, fun _ => ⟨_, 0, rfl, by simp⟩, fun k hk => ?_⟩
  · rw [bytesI_len]; exact grownCap_ge _ _ _ _
  · have := grownCap_le_maxLen w s.size 0 5 (by unfold maxLen; omega)
    unfold maxLen at this
    omega
  · rw [elt_some, Nat.zero_add]
    show (w.alloc _).cell? _ = _
    rw [cell_of_row _ w.heap.size k _ _ _ (heap_alloc_new w _)]
    have hk2 : k < s.data.size := by rw [bytesI_len] at hk; exact hk
    unfold bytesRow bytesI
    rw [Array.getElem?_append_left (by simpa using hk2)]
    simp
    rw [Array.getElem?_eq_getElem hk2]
    exact ⟨_, rfl, rfl⟩

/-- A number's low bytes, the least one first. -/
def shrK (n : Int) : Nat → Int
  | 0 => n
  | k + 1 => shrK n k / 256
def le (n : Int) : Nat → List Int
  | 0 => []
  | k + 1 => le n k ++ [shrK n k % 256]
theorem le_len (n : Int) (k : Nat) : (le n k).length = k := by
  induction k with
  | zero => rfl
  | succ k ih => unfold le; simp [ih]
theorem le_4 (n : Int) : le n 4 = [n % 256, n / 256 % 256, n / 256 / 256 % 256, n / 256 / 256 / 256 % 256] := rfl
theorem le_2 (n : Int) : le n 2 = [n % 256, n / 256 % 256] := rfl

/-- The check number of a text's first k bytes. -/
def chk (n : Int) (s : ByteArray) : Nat → Int
  | 0 => n
  | k + 1 => (887 * chk n s k + (byt s k : Int) + 173) % 65003
theorem chk_bd {n : Int} {s : ByteArray} (h : 0 ≤ n ∧ n < 65003) (k : Nat) : 0 ≤ chk n s k ∧ chk n s k < 65003 := by
  induction k with
  | zero => exact h
  | succ k ih => unfold chk; omega

set_option maxHeartbeats 1000000 in
theorem checkOf_any {n : Int} {s : ByteArray} {w : World} (h : 0 ≤ n ∧ n < 65003) (hs : s.size ≤ 9223372036854775807) :
    Calls Tryd.prog 50 #[.int .i64 n, .string s] w fun e w' => e = .returned (.tuple #[.int .i64 (chk n s s.size), .bool true]) ∧ w = w' := by
  have hin : inR n 0 65002 = true := by rw [inR_eq]; omega
  have HB := Lib.hid (fun k => chk_bd (s := s) h k)
  have H0 : Hid (n = chk n s 0) := Lib.hid rfl
  have HS : Hid (∀ k, chk n s (k + 1) = (887 * chk n s k + (byt s k : Int) + 173) % 65003) := Lib.hid (fun _ => rfl)
  generalize chk n s = C at HB H0 HS ⊢
  go_enter Tryd.func50, Tryd.ntmps50
  go_wp2_with fail
  refine (within_any _ _ _ _).mono ?_
  rintro e w1 ⟨rfl, rfl⟩
  rw [hin]
  go_wp2
  go_loopw [0, 6, 12] (fun ni _ vi wr => ∃ k : Nat, vi = .int .i64 k ∧ k ≤ s.size ∧ ni = .int .i64 (C k) ∧ Hid (wr = w)) (fun _ _ vi _ => s.size - (intOf vi).toNat)
  case atStart => exact ⟨0, rfl, Nat.zero_le _, by rw [← H0.out], Lib.hid rfl⟩
  case round =>
    obtain ⟨k, rfl, hk, rfl, HW⟩ := hrel
    obtain rfl := HW.out
    clear HW
    by_cases hlt : k < s.size
    · have hltz : (k : Int) < (s.size : Int) := by omega
      have hbe := byt_eq hlt
      have ewk : IntKind.i64.wrap ((k : Int) + 1) = (k : Int) + 1 := IntWalk.i64_in _ (by omega)
      have HS1 := Lib.hid (HS.out k)
      have hb1 := HB.out k
      have hbl := byt_lt s k
      obtain ⟨x, hx⟩ : ∃ x, byt s k = x := ⟨_, rfl⟩
      rw [hx] at hbe HS1 hbl
      obtain ⟨z, hz⟩ : ∃ z, C k = z := ⟨_, rfl⟩
      rw [hz] at hb1 HS1 ⊢
      have e1 : IntKind.i64.wrap (887 * z) = 887 * z := IntWalk.i64_in _ (by omega)
      have e2 : IntKind.i64.wrap (887 * z + (x : Int)) = 887 * z + (x : Int) := IntWalk.i64_in _ (by omega)
      have e3 : IntKind.i64.wrap (887 * z + (x : Int) + 173) = 887 * z + (x : Int) + 173 := IntWalk.i64_in _ (by omega)
      have e4 : IntKind.i64.wrap ((887 * z + (x : Int) + 173) % 65003) = (887 * z + (x : Int) + 173) % 65003 := IntWalk.i64_in _ (by omega)
      have e5 : IntKind.i64.wrap (x : Int) = (x : Int) := IntWalk.i64_in _ (by omega)
      clear hx hz
      go_wp2
      go_roundw
      case rel => exact ⟨k + 1, by go_num, by omega, by rw [HS1.out], Lib.hid trivial⟩
      case measure => simp [intOf]; omega
    · obtain rfl : k = s.size := by omega
      have hltz : ¬ (s.size : Int) < (s.size : Int) := by omega
      go_wp2
      go_ret2
      exact ⟨rfl, rfl⟩

set_option maxHeartbeats 1000000 in
theorem l01Check_any {n : Int} {s : ByteArray} {w : World} (h : 0 ≤ n ∧ n < 65003) (hs : s.size ≤ 9223372036854775807) :
    Calls Tryd.prog 47 #[.int .i64 n, .string s] w fun e w' => e = .returned (.int .i64 (chk n s s.size)) ∧ w = w' := by
  have HB := Lib.hid (fun k => chk_bd (s := s) h k)
  have H0 : Hid (n = chk n s 0) := Lib.hid rfl
  have HS : Hid (∀ k, chk n s (k + 1) = (887 * chk n s k + (byt s k : Int) + 173) % 65003) := Lib.hid (fun _ => rfl)
  generalize chk n s = C at HB H0 HS ⊢
  go_enter Tryd.func47, Tryd.ntmps47
  go_wp2
  go_loopw [0, 5] (fun ni vi wr => ∃ k : Nat, vi = .int .i64 k ∧ k ≤ s.size ∧ ni = .int .i64 (C k) ∧ Hid (wr = w)) (fun _ vi _ => s.size - (intOf vi).toNat)
  case atStart => exact ⟨0, rfl, Nat.zero_le _, by rw [← H0.out], Lib.hid rfl⟩
  case round =>
    obtain ⟨k, rfl, hk, rfl, HW⟩ := hrel
    obtain rfl := HW.out
    clear HW
    by_cases hlt : k < s.size
    · have hltz : (k : Int) < (s.size : Int) := by omega
      have hbe := byt_eq hlt
      have ewk : IntKind.i64.wrap ((k : Int) + 1) = (k : Int) + 1 := IntWalk.i64_in _ (by omega)
      have HS1 := Lib.hid (HS.out k)
      have hb1 := HB.out k
      have hbl := byt_lt s k
      obtain ⟨x, hx⟩ : ∃ x, byt s k = x := ⟨_, rfl⟩
      rw [hx] at hbe HS1 hbl
      obtain ⟨z, hz⟩ : ∃ z, C k = z := ⟨_, rfl⟩
      rw [hz] at hb1 HS1 ⊢
      have e1 : IntKind.i64.wrap (887 * z) = 887 * z := IntWalk.i64_in _ (by omega)
      have e2 : IntKind.i64.wrap (887 * z + (x : Int)) = 887 * z + (x : Int) := IntWalk.i64_in _ (by omega)
      have e3 : IntKind.i64.wrap (887 * z + (x : Int) + 173) = 887 * z + (x : Int) + 173 := IntWalk.i64_in _ (by omega)
      have e4 : IntKind.i64.wrap ((887 * z + (x : Int) + 173) % 65003) = (887 * z + (x : Int) + 173) % 65003 := IntWalk.i64_in _ (by omega)
      have e5 : IntKind.i64.wrap (x : Int) = (x : Int) := IntWalk.i64_in _ (by omega)
      clear hx hz
      go_wp2
      go_roundw
      case rel => exact ⟨k + 1, by go_num, by omega, by rw [HS1.out], Lib.hid trivial⟩
      case measure => simp [intOf]; omega
    · obtain rfl : k = s.size := by omega
      have hltz : ¬ (s.size : Int) < (s.size : Int) := by omega
      go_wp2
      go_ret
      exact ⟨rfl, rfl⟩

end Go.Proofs.YtmmpemfhbnkomaaDoor
