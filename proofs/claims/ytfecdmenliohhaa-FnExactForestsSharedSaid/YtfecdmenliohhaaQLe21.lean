/- The view of a slice of slices of ints and of some slices of ints; what is read out of a view's result. -/
import Derived.Test.YtfecdmenliohhaaQLe19
import Derived.Test.YtfecdmenliohhaaQLe10
set_option linter.unusedVariables false
set_option linter.unusedSimpArgs false
set_option linter.unusedSimpArgs false
set_option linter.unusedVariables false
namespace Go.Proofs.Ytfecdmenliohhaa
open Go Go.RowKit

abbrev ISl := Option Addr × Nat × List Int
def isV (x : ISl) : Value := .slice x.1 x.2.2.length x.2.1
/-- The rows, as the view sees them. -/
def seenH (GB : Nat) (hs : List Hd) : List Hd := hs.mapIdx fun i hd => (seenA GB (1 + i) hd.1, hd.2)
def lvs (GB : Nat) (a : Option Addr) (hs : List Hd) (xss : List (List Int)) (ext : List ISl) : List VB :=
  winA hdV a (seenH GB hs) :: (List.zipWith (fun (hd : Hd) xs => winA (Value.int .i64) hd.1 xs) hs xss ++ ext.map fun x => winA (Value.int .i64) x.1 x.2.2)

section
variable {L : List FuncId} {GB : Nat} {Ro : Nat → Prop} {bad : TypeId} {w w' : World} {a : Option Addr} {c : Nat} {hs : List Hd} {xss : List (List Int)} {ext : List ISl}
theorem seenH_len : (seenH GB hs).length = hs.length := by simp [seenH]
theorem seenH_get {i : Nat} {hd : Hd} (h : hs[i]? = some hd) : (seenH GB hs)[i]? = some (seenA GB (1 + i) hd.1, hd.2) := by simp [seenH, h]
theorem lvs_row {i : Nat} {hd : Hd} {xs : List Int} (h1 : hs[i]? = some hd) (h2 : xss[i]? = some xs) : (lvs GB a hs xss ext)[1 + i]? = some (winA (Value.int .i64) hd.1 xs) := by
  have hz : (List.zipWith (fun (hd : Hd) xs => winA (Value.int .i64) hd.1 xs) hs xss)[i]? = some (winA (Value.int .i64) hd.1 xs) := by
    rw [List.getElem?_zipWith, h1, h2]
  rw [lvs, Nat.add_comm, List.getElem?_cons_succ, List.getElem?_append_left (List.getElem?_eq_some_iff.1 hz).1]
  exact hz
theorem lvs_ext (hl : hs.length = xss.length) {i : Nat} {x : ISl} (h : ext[i]? = some x) : (lvs GB a hs xss ext)[1 + hs.length + i]? = some (winA (Value.int .i64) x.1 x.2.2) := by
  have hz : (List.zipWith (fun (hd : Hd) xs => winA (Value.int .i64) hd.1 xs) hs xss).length = hs.length := by simp [hl]
  rw [lvs, show 1 + hs.length + i = (hs.length + i) + 1 by omega, List.getElem?_cons_succ, List.getElem?_append_right (by omega), hz, show hs.length + i - hs.length = i by omega]
  simp [h]
theorem lvs_cases (hl : hs.length = xss.length) {i : Nat} {x : VB} (h : (lvs GB a hs xss ext)[i]? = some x) :
    (i = 0 ∧ x = winA hdV a (seenH GB hs)) ∨ (∃ k hd xs, i = 1 + k ∧ hs[k]? = some hd ∧ xss[k]? = some xs ∧ x = winA (Value.int .i64) hd.1 xs) ∨ (∃ k y, i = 1 + hs.length + k ∧ ext[k]? = some y ∧ x = winA (Value.int .i64) y.1 y.2.2) := by
  have hz : (List.zipWith (fun (hd : Hd) xs => winA (Value.int .i64) hd.1 xs) hs xss).length = hs.length := by simp [hl]
  cases i with
  | zero => simp only [lvs, List.getElem?_cons_zero, Option.some.injEq] at h; exact .inl ⟨rfl, h.symm⟩
  | succ i =>
    simp only [lvs, List.getElem?_cons_succ] at h
    rcases Nat.lt_or_ge i hs.length with hlt | hge
    · rw [List.getElem?_append_left (by omega), List.getElem?_zipWith] at h
      have h1 : hs[i]? = some hs[i] := List.getElem?_eq_getElem hlt
      have h2 : xss[i]? = some (xss[i]'(by omega)) := List.getElem?_eq_getElem (by omega)
      rw [h1, h2] at h
      simp only [Option.some.injEq] at h
      exact .inr (.inl ⟨i, _, _, by omega, h1, h2, h.symm⟩)
    · rw [List.getElem?_append_right (by omega), hz] at h
      simp only [List.getElem?_map] at h
      obtain ⟨y, hy, rfl⟩ := Option.map_eq_some_iff.1 h
      exact .inr (.inr ⟨i - hs.length, y, by omega, hy, rfl⟩)

/-- Where the read cells lie. -/
structure LOk (w : World) (a : Option Addr) (c : Nat) (hs : List Hd) (xss : List (List Int)) (ext : List ISl) : Prop where
  l : Rd2 (Value.int .i64) w a c hs xss
  x : ∀ y ∈ ext, Rd (Value.int .i64) w y.1 y.2.1 y.2.2
/-- The blocks that are read. -/
def inL (a : Option Addr) (hs : List Hd) (xss : List (List Int)) (ext : List ISl) (b : Nat) : Prop :=
  (∃ ad, a = some ad ∧ ad.block = b ∧ hs ≠ []) ∨ (∃ (k : Nat) (hd : Hd) (xs : List Int) (ad : Addr), hs[k]? = some hd ∧ xss[k]? = some xs ∧ hd.1 = some ad ∧ ad.block = b ∧ xs ≠ []) ∨ (∃ y ∈ ext, ∃ ad, y.1 = some ad ∧ ad.block = b ∧ y.2.2 ≠ [])

theorem rd_here {α : Type} [Inhabited α] {f : α → Value} {xs : List α} (h : Rd f w a c xs) (hne : xs ≠ []) : ∃ b o, a = some ⟨b, o, none⟩ ∧ b < w.heap.size := h.here (List.length_pos_iff.2 hne)
theorem inL_lt (h : LOk w a c hs xss ext) {b : Nat} (hb : inL a hs xss ext b) : b < w.heap.size := by
  rcases hb with ⟨ad, e, rfl, hne⟩ | ⟨k, hd, xs, ad, h1, h2, h3, rfl, hne⟩ | ⟨y, hy, ad, e, rfl, hne⟩
  · obtain ⟨b, o, e', hlt⟩ := rd_here h.l.top hne
    rw [e] at e'; cases e'; exact hlt
  · have hk : k < xss.length := (List.getElem?_eq_some_iff.1 h2).1
    obtain ⟨hd', xs', h4, h5, _, h6⟩ := h.l.row k hk
    rw [h1] at h4; rw [h2] at h5; cases h4; cases h5
    obtain ⟨b, o, e', hlt⟩ := rd_here h6 hne
    rw [h3] at e'; cases e'; exact hlt
  · obtain ⟨b, o, e', hlt⟩ := rd_here (h.x y hy) hne
    rw [e] at e'; cases e'; exact hlt

/-- ████ The view is alike. ████ -/
theorem lvs_rel (h : LOk w a c hs xss ext) (hRo : ∀ b, inL a hs xss ext b → Ro b) (hlt : ∀ b, Ro b → b < w.heap.size) {w₀ : World} : WRel (viwC L GB Ro bad (lvs GB a hs xss ext)) (viwP GB (lvs GB a hs xss ext)) (viwW GB bad (lvs GB a hs xss ext) w₀) w := by
  have hl := h.l.len
  have tgt : ∀ {i : Nat} {x : VB} {b : Nat}, (lvs GB a hs xss ext)[i]? = some x → x.tgt = some b → Ro b := fun {i x b} hi hb => by
    have one : ∀ {α : Type} {f : α → Value} {a : Option Addr} {xs : List α}, (winA f a xs).tgt = some b → xs ≠ [] ∧ (a.getD ⟨0, 0, none⟩).block = b := fun {α f a xs} h => by
      simp only [winA, VB.tgt] at h
      split at h
      · cases h
      · rename_i hne; exact ⟨fun e => hne (by simp [e]), Option.some.inj h⟩
    rcases lvs_cases hl hi with ⟨_, rfl⟩ | ⟨k, hd, xs, _, h1, h2, rfl⟩ | ⟨k, y, _, h1, rfl⟩
    · obtain ⟨hne, e⟩ := one hb
      have hne' : hs ≠ [] := fun e => hne (by simp [seenH, e])
      obtain ⟨b', o, ea, _⟩ := rd_here h.l.top hne'
      rw [ea] at e
      exact hRo b (.inl ⟨_, ea, e, hne'⟩)
    · obtain ⟨hne, e⟩ := one hb
      have hk : k < xss.length := (List.getElem?_eq_some_iff.1 h2).1
      obtain ⟨hd', xs', h4, h5, _, h6⟩ := h.l.row k hk
      rw [h1] at h4; rw [h2] at h5; cases h4; cases h5
      obtain ⟨b', o, ea, _⟩ := rd_here h6 hne
      rw [ea] at e
      exact hRo b (.inr (.inl ⟨k, hd, xs, _, h1, h2, ea, e, hne⟩))
    · obtain ⟨hne, e⟩ := one hb
      have hy := List.mem_of_getElem? h1
      obtain ⟨b', o, ea, _⟩ := rd_here (h.x y hy) hne
      rw [ea] at e
      exact hRo b (.inr (.inr ⟨y, hy, _, ea, e, hne⟩))
  have allwin : ∀ {i : Nat} {x : VB}, (lvs GB a hs xss ext)[i]? = some x → ∃ b o vs, x = .win b o vs := fun {i x} hi => by
    rcases lvs_cases hl hi with ⟨_, rfl⟩ | ⟨k, hd, xs, _, h1, h2, rfl⟩ | ⟨k, y, _, h1, rfl⟩ <;> exact ⟨_, _, _, rfl⟩
  refine viw_rel (fun i blk off xs hi hne => tgt hi (by simp [VB.tgt, hne])) (fun i j x y b hi hj hx hy => .inr (tgt hi hx)) (fun i blk o hi => ?_) (fun i blk off xs hi k v hv => ?_) hlt
  · obtain ⟨_, _, _, e⟩ := allwin hi
    cases e
  · rcases lvs_cases hl hi with ⟨_, e⟩ | ⟨m, hd, ys, _, h1, h2, e⟩ | ⟨m, y, _, h1, e⟩
    · simp only [winA, VB.win.injEq] at e
      obtain ⟨rfl, rfl, rfl⟩ := e
      have hk : k < hs.length := by have := (List.getElem?_eq_some_iff.1 hv).1; simpa [seenH] using this
      have hk' : k < xss.length := by omega
      obtain ⟨hd, ys, h1, h2, h3, h4⟩ := h.l.row k hk'
      have hc := rd_cell h.l.top hk
      rw [h1] at hc
      refine ⟨_, hc, ?_⟩
      rw [List.getElem?_map, seenH_get h1] at hv
      simp only [Option.map_some, Option.some.injEq] at hv
      subst hv
      exact viw_sliceA (f := Value.int .i64) h4 (lvs_row h1 h2) h3
    · simp only [winA, VB.win.injEq] at e
      obtain ⟨rfl, rfl, rfl⟩ := e
      have hk : k < ys.length := by simpa using (List.getElem?_eq_some_iff.1 hv).1
      have hm : m < xss.length := (List.getElem?_eq_some_iff.1 h2).1
      obtain ⟨hd', xs', h4, h5, _, h6⟩ := h.l.row m hm
      rw [h1] at h4; rw [h2] at h5; cases h4; cases h5
      refine ⟨_, rd_cell h6 hk, ?_⟩
      simp [hk] at hv
      subst hv
      rw [List.getElem?_eq_getElem hk]
      exact .int _ _
    · simp only [winA, VB.win.injEq] at e
      obtain ⟨rfl, rfl, rfl⟩ := e
      have hk : k < y.2.2.length := by simpa using (List.getElem?_eq_some_iff.1 hv).1
      refine ⟨_, rd_cell (h.x y (List.mem_of_getElem? h1)) hk, ?_⟩
      simp [hk] at hv
      subst hv
      rw [List.getElem?_eq_getElem hk]
      exact .int _ _

/-- The lists, in the view. -/
theorem lvs_rd2 (h : LOk w a c hs xss ext) {w₀ : World} {T : Nat → Question → Nat} {d : Nat} : Rd2 (Value.int .i64) (World.tp (viwW GB bad (lvs GB a hs xss ext) w₀) T d) (seenA GB 0 a) c (seenH GB hs) xss := by
  have tp : ∀ {α : Type} [Inhabited α] {f : α → Value} {v : World} {a : Option Addr} {c : Nat} {xs : List α}, Rd f v a c xs → Rd f (World.tp v T d) a c xs := fun h => ⟨h.cap, h.max, h.nil, h.here, h.cell⟩
  refine ⟨tp ?_, by rw [seenH_len]; exact h.l.len, fun i hi => ?_⟩
  · have hr : Rd hdV w a c hs := h.l.top
    have hz : (lvs GB a hs xss ext)[0]? = some (winA hdV a (seenH GB hs)) := rfl
    cases ha : a with
    | none =>
      have h0 := hr.nil ha
      have hx : hs.length = 0 := by have := hr.cap; omega
      exact ⟨by rw [seenH_len]; exact hr.cap, hr.max, fun _ => h0, fun h => by rw [seenH_len] at h; omega, fun k hk => by rw [seenH_len] at hk; omega⟩
    | some ad =>
      rw [ha] at hz
      exact viw_rd hz (by rw [seenH_len]; exact hr.cap) hr.max
  · obtain ⟨hd, xs, h1, h2, h3, h4⟩ := h.l.row i hi
    exact ⟨_, xs, seenH_get h1, h2, h3, tp (viw_rdA h4 (lvs_row h1 h2))⟩
theorem lvs_rdx (h : LOk w a c hs xss ext) {w₀ : World} {T : Nat → Question → Nat} {d i : Nat} {x : ISl} (hx : ext[i]? = some x) : Rd (Value.int .i64) (World.tp (viwW GB bad (lvs GB a hs xss ext) w₀) T d) (seenA GB (1 + hs.length + i) x.1) x.2.1 x.2.2 := by
  have := viw_rdA (GB := GB) (bad := bad) (w := w₀) (f := Value.int .i64) (h.x x (List.mem_of_getElem? hx)) (lvs_ext (GB := GB) (a := a) h.l.len hx)
  exact ⟨this.cap, this.max, this.nil, this.here, this.cell⟩
/-- The arguments, alike. -/
theorem lvs_arg (h : LOk w a c hs xss ext) : VRel (viwC L GB Ro bad (lvs GB a hs xss ext)) (viwP GB (lvs GB a hs xss ext)) (.slice (seenA GB 0 a) xss.length c) (.slice a xss.length c) := by
  have hz : (lvs GB a hs xss ext)[0]? = some (winA hdV a (seenH GB hs)) := rfl
  have hr : Rd hdV w a c hs := h.l.top
  have hl := h.l.len
  cases ha : a with
  | none =>
    have h0 := hr.nil ha
    have hx : hs.length = 0 := by have := hr.cap; omega
    rw [show xss.length = 0 by omega, h0]
    exact .slice0
  | some ad =>
    rw [ha] at hz
    refine viw_slice hz (by simp [seenH, hl]) (by rw [← hl]; exact hr.cap) (fun hne => ?_) ⟨ad, rfl⟩
    obtain ⟨b, o, e, _⟩ := rd_here hr (fun e => hne (by simp [seenH, e]))
    rw [ha] at e
    cases e
    rfl
theorem lvs_argx (h : LOk w a c hs xss ext) {i : Nat} {x : ISl} (hx : ext[i]? = some x) : VRel (viwC L GB Ro bad (lvs GB a hs xss ext)) (viwP GB (lvs GB a hs xss ext)) (.slice (seenA GB (1 + hs.length + i) x.1) x.2.2.length x.2.1) (isV x) :=
  viw_sliceA (f := Value.int .i64) (h.x x (List.mem_of_getElem? hx)) (lvs_ext h.l.len hx) rfl
/-- The places of the view. -/
theorem lvs_img (h : LOk w a c hs xss ext) {b cc : Nat} (hb : viwP GB (lvs GB a hs xss ext) b = some cc) : inL a hs xss ext cc := by
  have h0 : WRel (viwC [] GB (inL a hs xss ext) 0 (lvs GB a hs xss ext)) (viwP GB (lvs GB a hs xss ext)) (viwW GB 0 (lvs GB a hs xss ext) w) w := lvs_rel h (fun _ h => h) fun b hb => inL_lt h hb
  obtain ⟨o, o', _, _, hr⟩ := h0.obj b cc hb
  cases hr with
  | win _ hl _ => exact hl
  | full hs' _ =>
    exfalso
    obtain ⟨x, h1, h2⟩ := Option.bind_eq_some_iff.1 hb
    obtain ⟨h3, h4⟩ := atV_some h1
    have hs'' : (atV GB (lvs GB a hs xss ext) b).bind VB.sh = none := hs'
    rw [h1] at hs''
    rcases lvs_cases h.l.len h4 with ⟨_, rfl⟩ | ⟨k, hd, xs, _, h5, h6, rfl⟩ | ⟨k, y, _, h5, rfl⟩ <;>
    · simp only [winA, VB.tgt, VB.sh, Option.bind_some] at h2 hs''
      split at h2
      · cases h2
      · rename_i hn; rw [if_neg hn] at hs''; cases hs''
end

/-- A slice of ints in the view's result: what it is in truth. -/
theorem rd_true {C : Cx} {q : Ren} {w₁ w' : World} {a : Option Addr} {c : Nat} {xs : List Int} {v' : Value} (h : Rd (Value.int .i64) w₁ a c xs) (hv : VRel C q (.slice a xs.length c) v') (hw : WRel C q w₁ w') :
    ∃ a', v' = .slice a' xs.length c ∧ Rd (Value.int .i64) w' a' c xs ∧ (xs ≠ [] → ∃ b ad, a' = some ad ∧ q b = some ad.block) := by
  generalize hs : Value.slice a xs.length c = s at hv
  cases hv with
  | slice0 =>
    simp only [Value.slice.injEq] at hs
    obtain ⟨rfl, hl, rfl⟩ := hs
    have hx : xs = [] := List.length_eq_zero_iff.1 hl
    subst hx
    exact ⟨none, rfl, ⟨Nat.le_refl _, by omega, fun _ => rfl, (fun h => by simp at h), (fun k hk => by simp at hk)⟩, fun h => absurd rfl h⟩
  | @slice x x' l c' ha =>
    simp only [Value.slice.injEq] at hs
    obtain ⟨rfl, rfl, rfl⟩ := hs
    by_cases hx : xs = []
    · subst hx
      exact ⟨some x', rfl, ⟨h.cap, h.max, (fun e => by cases e), (fun h => by simp at h), (fun k hk => by simp at hk)⟩, fun h => absurd rfl h⟩
    · obtain ⟨b, o, e, hlt⟩ := rd_here h hx
      cases e
      obtain ⟨b', o', s'⟩ := x'
      have hs0 : s' = none := ha.s
      subst hs0
      have hb : q b = some b' := ha.b
      refine ⟨_, rfl, ⟨h.cap, h.max, (fun e => by cases e), fun _ => ⟨b', o', rfl, (hw.lt hb).2⟩, fun k hk => ?_⟩, fun _ => ⟨b, _, rfl, hb⟩⟩
      have hc := h.cell k hk
      rw [elt_some] at hc ⊢
      obtain ⟨v', h1, h2⟩ := hw.cell (a := ⟨b, o + k, none⟩) (a' := ⟨b', o' + k, none⟩) ⟨hb, by have := ha.o; simp only at this ⊢; omega, rfl, ha.g⟩ hc
      rw [h1]
      cases h2
      rfl
  | sliceE c' hd =>
    simp only [Value.slice.injEq] at hs
    obtain ⟨rfl, hl, rfl⟩ := hs
    have hx : xs = [] := List.length_eq_zero_iff.1 hl
    subst hx
    exact ⟨some _, rfl, ⟨h.cap, h.max, (fun e => by cases e), (fun h => by simp at h), (fun k hk => by simp at hk)⟩, fun h => absurd rfl h⟩
  | _ => cases hs
end Go.Proofs.Ytfecdmenliohhaa
