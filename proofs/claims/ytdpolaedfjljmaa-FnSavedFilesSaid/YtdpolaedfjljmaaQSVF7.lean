/- Lists of saved ones that a call makes by append: plain. -/
import Derived.Test.YtdpolaedfjljmaaQSVF4
import Derived.Test.YtdpolaedfjljmaaQSVF2
import Derived.Laws.OwnMore
namespace Go.Proofs.Ytdpolaedfjljmaa
open Go.RowKit

theorem sepL_of_type {e e2 : TypeId} {w : World} {n2 size2 : Nat} {b b2 : Nat} {a a2 : Option Addr} {c c2 : Nat} {xs : List Int} {n : Nat} {ys : List Value} (h : Own (Value.int .i64) e w b a c xs) (h2 : w.ownsRow b2 e2 size2 (.slice a2 n c2) n2 ys) (hne : e ≠ e2) : Sep a a2 := by
  intro p q hp hq he
  rcases h.shape with ⟨rfl, _, _⟩ | ⟨g, rfl, _, _, _, _, cur, hg, _⟩
  · simp at hp
  · rcases h2.2 with ⟨h1, _⟩ | ⟨g2, cap, cur2, h1, _, hg2, _⟩
    · simp only [Value.slice.injEq] at h1
      rw [h1.1] at hq; simp at hq
    · simp only [Value.slice.injEq] at h1
      rw [h1.1] at hq
      simp at hp hq
      subst hp hq
      have he' : g = g2 := he
      subst he'
      rw [hg] at hg2
      simp only [Option.some.injEq, Obj.cells.injEq] at hg2
      exact hne hg2.2.1

/-- The cells of a list of saved ones. -/
def rowsC : List SvH → List Sv → List Value
  | h :: hs, s :: ss => (svV h s).toList ++ rowsC hs ss
  | _, _ => []
theorem rowsC_len : ∀ {hs : List SvH} {ss : List Sv}, hs.length = ss.length → (rowsC hs ss).length = ss.length * 9
  | [], [], _ => rfl
  | h :: hs, s :: ss, e => by
    have e' : hs.length = ss.length := by simpa using e
    have e9 : (svV h s).toList.length = 9 := rfl
    show ((svV h s).toList ++ rowsC hs ss).length = _
    rw [List.length_append, rowsC_len e', List.length_cons, e9]
    omega
  | [], _ :: _, e => by simp at e
  | _ :: _, [], e => by simp at e
theorem rowsC_app {h : SvH} {s : Sv} : ∀ {hs : List SvH} {ss : List Sv}, hs.length = ss.length → rowsC (hs ++ [h]) (ss ++ [s]) = rowsC hs ss ++ (svV h s).toList
  | [], [], _ => by simp [rowsC]
  | h0 :: hs, s0 :: ss, e => by
    have e' : hs.length = ss.length := by simpa using e
    show (svV h0 s0).toList ++ rowsC (hs ++ [h]) (ss ++ [s]) = ((svV h0 s0).toList ++ rowsC hs ss) ++ _
    rw [rowsC_app e', List.append_assoc]
  | [], _ :: _, e => by simp at e
  | _ :: _, [], e => by simp at e
theorem rowsC_at {h : SvH} {s : Sv} {j : Nat} (hj : j < 9) : ∀ {hs : List SvH} {ss : List Sv} {k : Nat}, hs[k]? = some h → ss[k]? = some s → (rowsC hs ss)[k * 9 + j]? = (svV h s)[j]?
  | h0 :: hs, s0 :: ss, 0, e1, e2 => by
    simp at e1 e2
    subst e1 e2
    have e9 : (svV h0 s0).toList.length = 9 := rfl
    show ((svV h0 s0).toList ++ rowsC hs ss)[0 * 9 + j]? = _
    rw [List.getElem?_append_left (by rw [e9]; omega)]
    simp
  | h0 :: hs, s0 :: ss, k + 1, e1, e2 => by
    have e9 : (svV h0 s0).toList.length = 9 := rfl
    show ((svV h0 s0).toList ++ rowsC hs ss)[(k + 1) * 9 + j]? = _
    rw [List.getElem?_append_right (by rw [e9]; omega)]
    have e : (k + 1) * 9 + j - (svV h0 s0).toList.length = k * 9 + j := by rw [e9]; omega
    rw [e]
    exact rowsC_at hj (by simpa using e1) (by simpa using e2)
  | [], _, _, e1, _ => by simp at e1
  | _ :: _, [], _, _, e2 => by simp at e2
theorem rowsC_set {h : SvH} {s s' : Sv} {j : Nat} {v : Value} (hj : j < 9) (hv : (svV h s').toList = (svV h s).toList.set j v) : ∀ {hs : List SvH} {ss : List Sv} {k : Nat}, hs[k]? = some h → ss[k]? = some s → rowsC hs (ss.set k s') = (rowsC hs ss).set (k * 9 + j) v
  | h0 :: hs, s0 :: ss, 0, e1, e2 => by
    simp at e1 e2
    subst e1 e2
    have e9 : (svV h0 s0).toList.length = 9 := rfl
    show (svV h0 s').toList ++ rowsC hs ss = ((svV h0 s0).toList ++ rowsC hs ss).set (0 * 9 + j) v
    rw [List.set_append_left _ _ (by rw [e9]; omega), hv]
    simp
  | h0 :: hs, s0 :: ss, k + 1, e1, e2 => by
    have e9 : (svV h0 s0).toList.length = 9 := rfl
    show (svV h0 s0).toList ++ rowsC hs (ss.set k s') = ((svV h0 s0).toList ++ rowsC hs ss).set ((k + 1) * 9 + j) v
    rw [List.set_append_right _ _ (by rw [e9]; omega)]
    have e : (k + 1) * 9 + j - (svV h0 s0).toList.length = k * 9 + j := by rw [e9]; omega
    rw [e, rowsC_set hj hv (by simpa using e1) (by simpa using e2)]
  | [], _, _, e1, _ => by simp at e1
  | _ :: _, [], _, _, e2 => by simp at e2
theorem rowsC_same {h : SvH} {s s' : Sv} (hv : svV h s' = svV h s) : ∀ {hs : List SvH} {ss : List Sv} {k : Nat}, hs[k]? = some h → ss[k]? = some s → rowsC hs (ss.set k s') = rowsC hs ss
  | h0 :: hs, s0 :: ss, 0, e1, e2 => by
    simp at e1 e2
    subst e1 e2
    show (svV h0 s').toList ++ rowsC hs ss = (svV h0 s0).toList ++ rowsC hs ss
    rw [hv]
  | h0 :: hs, s0 :: ss, k + 1, e1, e2 => by
    show (svV h0 s0).toList ++ rowsC hs (ss.set k s') = (svV h0 s0).toList ++ rowsC hs ss
    rw [rowsC_same hv (by simpa using e1) (by simpa using e2)]
  | [], _, _, e1, _ => by simp at e1
  | _ :: _, [], _, _, e2 => by simp at e2
theorem rowsC_one : ∀ {hs : List SvH} {ss : List Sv}, ∀ u ∈ rowsC hs ss, u.oneCell' = true
  | h :: hs, s :: ss, u, hu => by
    have hu' : u ∈ (svV h s).toList ++ rowsC hs ss := hu
    rcases List.mem_append.1 hu' with h1 | h1
    · simp [svV] at h1
      rcases h1 with rfl | rfl | rfl | rfl | rfl | rfl | rfl | rfl | rfl <;> rfl
    · exact rowsC_one u h1
  | [], _, _, hu => by simp [rowsC] at hu
  | _ :: _, [], _, hu => by simp [rowsC] at hu

/-- Where its lists lie. -/
def SvH.ads (h : SvH) : List (Option Addr) := [h.a0, h.a1, h.a2, h.a3]
def Apart (h h' : SvH) : Prop := ∀ a ∈ h.ads, ∀ b ∈ h'.ads, Sep a b
def OffRow (h : SvH) (row : Option Nat) : Prop := ∀ a ∈ h.ads, ∀ p, a = some p → some p.block ≠ row
theorem own_off {α : Type} {f : α → Value} {e : TypeId} {w w' : World} {base : Nat} {a : Option Addr} {c : Nat} {xs : List α} (h : Own f e w base a c xs) {row : Option Nat} (hg : w.grownBy w' row) (hne : ∀ p, a = some p → some p.block ≠ row) : Own f e w' base a c xs :=
  h.kept hg (fun g hr p hp he => hne p hp (by rw [hr, he]))
theorem SvOwn.kept {w w' : World} {base : Nat} {h : SvH} {s : Sv} (o : SvOwn w base h s) {row : Option Nat} (hg : w.grownBy w' row) (ho : OffRow h row) : SvOwn w' base h s :=
  ⟨o.nm, own_off o.cs hg (ho _ (by simp [SvH.ads])), own_off o.ks hg (ho _ (by simp [SvH.ads])), own_off o.ts hg (ho _ (by simp [SvH.ads])), own_off o.es hg (ho _ (by simp [SvH.ads]))⟩
theorem SvOwn.lt {w : World} {base : Nat} {h : SvH} {s : Sv} (o : SvOwn w base h s) : ∀ a ∈ h.ads, ∀ p, a = some p → base ≤ p.block ∧ p.block < w.heap.size := by
  intro a ha p hp
  simp only [SvH.ads, List.mem_cons, List.not_mem_nil, or_false] at ha
  rcases ha with rfl | rfl | rfl | rfl
  · exact o.cs.blk p hp
  · exact o.ks.blk p hp
  · exact o.ts.blk p hp
  · exact o.es.blk p hp
theorem apart_of {hi : Nat} {h h' : SvH} (o : ∀ a ∈ h.ads, ∀ p, a = some p → p.block < hi) {w' : World} {s' : Sv} (o' : SvOwn w' hi h' s') : Apart h h' := by
  intro a ha a' ha' p q hp hq he
  have h1 := o a ha p hp
  have h2 := (o'.lt a' ha' q hq).1
  omega
theorem Apart.symm {h h' : SvH} (s : Apart h h') : Apart h' h := fun a ha b hb p q hp hq he => s b hb a ha q p hq hp he.symm

/-- A list of saved ones of the call's own. -/
structure Lst9 (w : World) (base : Nat) (a : Option Addr) (c : Nat) (hs : List SvH) (ss : List Sv) : Prop where
  top : w.ownsRow base 28 9 (.slice a ss.length c) ss.length (rowsC hs ss)
  len : hs.length = ss.length
  own : ∀ (i : Nat) (h : SvH) (s : Sv), hs[i]? = some h → ss[i]? = some s → SvOwn w base h s ∧ SvSep h
  sep : ∀ (i j : Nat) (h h' : SvH), i ≠ j → hs[i]? = some h → hs[j]? = some h' → Apart h h'
section
variable {w w' : World} {base : Nat} {a : Option Addr} {c : Nat} {hs : List SvH} {ss : List Sv}
theorem Lst9.shape (l : Lst9 w base a c hs ss) : (a = none ∧ c = 0 ∧ ss = []) ∨ ∃ g, a = some ⟨g, 0, none⟩ ∧ base ≤ g ∧ g < w.heap.size ∧ ss.length ≤ c ∧ c ≤ maxLen ∧ ∃ cur, w.heap[g]? = some (.cells cur 28 (0, 0)) ∧ cur.size = c * 9 ∧ cur.toList.take (ss.length * 9) = rowsC hs ss := by
  rcases l.top.2 with ⟨h1, h0⟩ | ⟨g, cap, cur, h1, h2, h3, h4, h5, h6, h7⟩
  · simp only [Value.slice.injEq] at h1
    exact .inl ⟨h1.1, h1.2.2, List.eq_nil_of_length_eq_zero h0⟩
  · simp only [Value.slice.injEq] at h1
    obtain ⟨e1, _, e3⟩ := h1
    subst e3
    exact .inr ⟨g, e1, h2, (Array.getElem?_eq_some_iff.1 h3).1, h4, h5, cur, h3, h6, h7⟩
theorem Lst9.blk (l : Lst9 w base a c hs ss) : ∀ p, a = some p → base ≤ p.block ∧ p.block < w.heap.size := by
  intro p hp
  rcases l.shape with ⟨rfl, _, _⟩ | ⟨g, rfl, hb, hlt, _⟩
  · simp at hp
  · simp at hp; subst hp; exact ⟨hb, hlt⟩
theorem Lst9.row (l : Lst9 w base a c hs ss) {i : Nat} (hi : i < ss.length) : ∃ h, hs[i]? = some h ∧ SvOwn w base h ss[i] ∧ SvSep h := by
  have e : hs[i]? = some (hs[i]'(by rw [l.len]; exact hi)) := List.getElem?_eq_getElem _
  exact ⟨_, e, l.own i _ _ e (List.getElem?_eq_getElem hi)⟩
theorem Lst9.offTop (l : Lst9 w base a c hs ss) {i : Nat} {h : SvH} (hi : hs[i]? = some h) : OffRow h (a.map (·.block)) := by
  have hlt : i < ss.length := by rw [← l.len]; exact (List.getElem?_eq_some_iff.1 hi).1
  obtain ⟨ho, _⟩ := l.own i h _ hi (List.getElem?_eq_getElem hlt)
  have key : ∀ {a' : Option Addr} {c' : Nat} {xs : List Int}, Own (Value.int .i64) 2 w base a' c' xs → ∀ p, a' = some p → some p.block ≠ a.map (·.block) := by
    intro a' c' xs h' p hp he
    have hs' := sepL_of_type h' l.top (by decide)
    cases ha : a with
    | none => rw [ha] at he; simp at he
    | some q => rw [ha] at he; simp at he; exact hs' p q hp ha he
  intro a' ha' p hp
  simp only [SvH.ads, List.mem_cons, List.not_mem_nil, or_false] at ha'
  rcases ha' with rfl | rfl | rfl | rfl
  · exact key ho.cs p hp
  · exact key ho.ks p hp
  · exact key ho.ts p hp
  · exact key ho.es p hp
theorem Lst9.kept (l : Lst9 w base a c hs ss) {row : Option Nat} (hg : w.grownBy w' row) (ht : ∀ p, a = some p → some p.block ≠ row) (ho : ∀ (i : Nat) (h : SvH), hs[i]? = some h → OffRow h row) : Lst9 w' base a c hs ss := by
  refine ⟨l.top.kept hg ?_, l.len, fun i h s h1 h2 => ⟨(l.own i h s h1 h2).1.kept hg (ho i h h1), (l.own i h s h1 h2).2⟩, l.sep⟩
  cases a with
  | none => exact .inl rfl
  | some p => exact .inr (ht p rfl)
theorem Lst9.below (l : Lst9 w base a c hs ss) {B : Nat} (hb : Below B w w') (hB : w.heap.size ≤ B) : Lst9 w' base a c hs ss :=
  l.kept (row := none) ⟨hb.os, hb.tape, hb.output, hb.size, fun k hk _ => hb.block k (by omega)⟩ (by simp) (fun i h _ a' _ p _ => by simp)
theorem Lst9.mono (l : Lst9 w base a c hs ss) {b' : Nat} (hb : b' ≤ base) : Lst9 w b' a c hs ss := by
  refine ⟨⟨l.top.1, ?_⟩, l.len, fun i h s h1 h2 => ⟨(l.own i h s h1 h2).1.mono hb, (l.own i h s h1 h2).2⟩, l.sep⟩
  rcases l.top.2 with h2 | ⟨g, cap, cur, h1, h2, r⟩
  · exact .inl h2
  · exact .inr ⟨g, cap, cur, h1, by omega, r⟩
theorem Lst9.start (w : World) (hb : base ≤ w.heap.size) : Lst9 (w.alloc (.cells #[] 28)) base (some ⟨w.heap.size, 0, none⟩) 0 [] [] :=
  ⟨World.ownsRow_made w #[] 0 hb (by unfold maxLen; omega) rfl, rfl, fun i h s h1 => by simp at h1, fun i j h h' _ h1 => by simp at h1⟩
theorem Lst9.cell (l : Lst9 w base a c hs ss) {g : Nat} (ha : a = some ⟨g, 0, none⟩) {i j : Nat} (hj : j < 9) {h : SvH} {s : Sv} (h1 : hs[i]? = some h) (h2 : ss[i]? = some s) : w.cell? ⟨g, i * 9 + j, none⟩ = (svV h s)[j]? := by
  have hlt := (List.getElem?_eq_some_iff.1 h2).1
  rcases l.shape with ⟨rfl, _, _⟩ | ⟨g', rfl, hb, _, hc, hm, cur, hg, hcs, ht⟩
  · simp at ha
  · simp at ha
    subst ha
    have hx : (cur.toList.take (ss.length * 9))[i * 9 + j]? = (rowsC hs ss)[i * 9 + j]? := by rw [ht]
    rw [List.getElem?_take, if_pos (by omega), rowsC_at hj h1 h2] at hx
    rw [cell_of_row w g' (i * 9 + j) cur _ (0, 0) hg]
    simpa using hx
theorem Lst9.rd (l : Lst9 w base a c hs ss) : Rd9 w a c hs ss := by
  rcases l.shape with ⟨rfl, rfl, rfl⟩ | ⟨g, e, hb, hlt, hc, hm, cur, hg, hcs, ht⟩
  · exact ⟨by simp, by simp, by simp, fun k hk => by simp at hk⟩
  · subst e
    refine ⟨hc, by simpa [maxLen] using hm, fun _ => ⟨g, 0, rfl, hlt⟩, fun k hk => ?_⟩
    obtain ⟨h, h1, ho, _⟩ := l.row hk
    refine ⟨h, ss[k], h1, List.getElem?_eq_getElem hk, ho.rd, fun j hj => ?_⟩
    show w.cell? ⟨g, 0 + (k * 9 + j), none⟩ = _
    rw [Nat.zero_add]
    exact l.cell rfl hj h1 (List.getElem?_eq_getElem hk)
theorem Lst9.free (l : Lst9 w base a c hs ss) {g : Nat} (ha : a = some ⟨g, 0, none⟩) (i : Nat) : w.frozen? ⟨g, i, none⟩ = false := by
  rcases l.shape with ⟨rfl, _, _⟩ | ⟨g', rfl, hb, _, hc, hm, cur, hg, hcs, ht⟩
  · simp at ha
  · simp at ha; subst ha; exact frozen_of_row w g' _ cur _ hg
end

theorem lst_belowOwn {w w' : World} {base B : Nat} {a : Option Addr} {c : Nat} {hs : List SvH} {ss : List Sv} (l : Lst9 w base a c hs ss) (hg : w.grownBy w' (a.map (·.block))) (hB : B ≤ base) (hs' : B ≤ w.heap.size) : Below B w w' :=
  ⟨hg.os, hg.tape, hg.output, hg.size, fun k hk => hg.block k (by omega) (by
    intro he
    cases ha : a with
    | none => rw [ha] at he; simp at he
    | some q =>
      have := (l.blk q ha).1
      rw [ha] at he; simp at he; omega)⟩

theorem wpl_append9 {P : Program} {w : World} {ops : Array Oper} {rest : List Oper} {o : Oper} {ac : Act} {Q : Exit → Act → World → Prop} {t : TypeId} {z : Value} {by_ : Nat}
    (hT : P.underlying t = some (.slice 28)) (hI : (P.info? 28).map (fun i => (i.zero, i.size, i.bytes)) = some (some z, 9, by_)) (hzc : z.cells.size = 9)
    {base : Nat} {a : Option Addr} {c : Nat} {hs : List SvH} {ss : List Sv} (l : Lst9 w base a c hs ss) {h : SvH} {x : Sv} {lo : Nat} (hx : SvOwn w lo h x) (hlo : base ≤ lo) (hsep : SvSep h) (hne : ∀ (i : Nat) (h' : SvH), hs[i]? = some h' → Apart h' h)
    (hg : o.guard = none) (s y : Operand) (hop : o.op = .call { callee := .builtin .append, args := #[s, y], argTypes := #[t, t] })
    (hs' : ac.eval s = .slice a ss.length c) (hy : ac.eval y = .slice (some ⟨w.heap.size, 0, none⟩) 1 1)
    (hn : ss.length ≤ 1048576 * 1024) (hby : by_ ≤ 65536) (hbase : base ≤ w.heap.size)
    (hK : ∀ a' c' w', Lst9 w' base a' c' (hs ++ [h]) (ss ++ [x]) → w.grownBy w' (a.map (·.block)) → Lies w.heap.size a a' → wpList P ops Q rest (ac.put o.dst (.slice a' (ss.length + 1) c')) w') :
    wpList P ops Q (o :: rest) ac (w.alloc (.cells (svV h x) 28)) := by
  obtain ⟨i0, hi, hz0, hz1, hz2⟩ := info_parts hI
  have la := l.below (B := w.heap.size) ((Below.refl _ _).alloc (Nat.le_refl _) (.cells (svV h x) 28)) (Nat.le_refl _)
  refine wpList_append_lies _ hg s y t hop base _ i0 z 9 by_ hT hi hz0 hz1 hz2 hzc (by decide) (.slice a ss.length c) ss.length (rowsC hs ss) hs' la.top ⟨w.heap.size, 0, none⟩ 1 1 (svV h x).toList hy rfl (World.news_of_block (cs := svV h x) (heap_alloc_new w _)) ?_ (by decide) ?_ ?_ ?_ _ rfl ?_
  · intro u hu
    simp [svV] at hu
    rcases hu with rfl | rfl | rfl | rfl | rfl | rfl | rfl | rfl | rfl <;> rfl
  · unfold maxLen; omega
  · calc (ss.length + 1) * by_ ≤ (1048576 * 1024 + 1) * 65536 := Nat.mul_le_mul (by omega) hby
      _ ≤ _ := by omega
  · simp; omega
  · intro g cap w' ho hgr hat hglt
    have hob : (Value.slice a ss.length c).ownBlock = a.map (·.block) := by cases a <;> rfl
    rw [hob] at hgr hat
    have hga : w.grownBy (w.alloc (.cells (svV h x) 28)) (a.map (·.block)) := World.grownBy_alloc w _ _
    have hgw := grown_trans hga hgr
    have hox : OffRow h (a.map (·.block)) := by
      have key : ∀ {a' : Option Addr} {c' : Nat} {xs : List Int}, Own (Value.int .i64) 2 w lo a' c' xs → ∀ p, a' = some p → some p.block ≠ a.map (·.block) := by
        intro a' c' xs h' p hp he
        have hs' := sepL_of_type h' l.top (by decide)
        cases ha : a with
        | none => rw [ha] at he; simp at he
        | some q => rw [ha] at he; simp at he; exact hs' p q hp ha he
      intro a' ha' p hp
      simp only [SvH.ads, List.mem_cons, List.not_mem_nil, or_false] at ha'
      rcases ha' with rfl | rfl | rfl | rfl
      · exact key hx.cs p hp
      · exact key hx.ks p hp
      · exact key hx.ts p hp
      · exact key hx.es p hp
    refine hK (some ⟨g, 0, none⟩) cap w' ⟨?_, by simp [l.len], fun i h' s' e1 e2 => ?_, fun i j h1 h2 hij e1 e2 => ?_⟩ hgw ?_
    · rw [rowsC_app l.len, List.length_append]
      exact ho
    · by_cases hlt : i < ss.length
      · rw [List.getElem?_append_left (by rw [l.len]; exact hlt)] at e1
        rw [List.getElem?_append_left hlt] at e2
        exact ⟨(l.own i h' s' e1 e2).1.kept hgw (l.offTop e1), (l.own i h' s' e1 e2).2⟩
      · have hi' : i = ss.length := by
          have := (List.getElem?_eq_some_iff.1 e2).1
          simp at this; omega
        subst hi'
        rw [List.getElem?_append_right (by rw [l.len]; exact Nat.le_refl _), l.len] at e1
        rw [List.getElem?_append_right (Nat.le_refl _)] at e2
        simp at e1 e2
        subst e1 e2
        exact ⟨(hx.kept hgw hox).mono hlo, hsep⟩
    · have hi := (List.getElem?_eq_some_iff.1 e1).1
      have hj := (List.getElem?_eq_some_iff.1 e2).1
      simp at hi hj
      by_cases hi1 : i < hs.length
      · rw [List.getElem?_append_left hi1] at e1
        by_cases hj1 : j < hs.length
        · rw [List.getElem?_append_left hj1] at e2
          exact l.sep i j h1 h2 hij e1 e2
        · rw [List.getElem?_append_right (by omega)] at e2
          have e0 : j - hs.length = 0 := by omega
          rw [e0] at e2
          simp at e2
          subst e2
          exact hne i h1 e1
      · rw [List.getElem?_append_right (by omega)] at e1
        have e0 : i - hs.length = 0 := by omega
        rw [e0] at e1
        simp at e1
        subst e1
        rw [List.getElem?_append_left (by omega)] at e2
        exact (hne j h2 e2).symm
    · intro p hp
      simp at hp
      subst hp
      rcases hat with h' | h'
      · left
        cases ha : a with
        | none => rw [ha] at h'; simp at h'
        | some q => rw [ha] at h'; simp at h'; exact ⟨q, rfl, h'⟩
      · right
        show w.heap.size ≤ g
        simp at h'; omega

end Go.Proofs.Ytdpolaedfjljmaa
