/- What is stored is recovered, whatever is cut or changed behind it: plain. The bytes of a text in a slice, one of them changed, and back. -/
import Derived.Test.YtdpolaedfjljmaaQSVF31
import Derived.Test.YtdpolaedfjljmaaQSVF28
import Derived.Test.YtdpolaedfjljmaaQSVF24
import Derived.Test.YtdpolaedfjljmaaQSVF21
import Derived.Test.YtdpolaedfjljmaaQSVF2
namespace Go.Proofs.Ytdpolaedfjljmaa
open Go.RowKit

theorem cells_prod {x : Sv} (h : savedV x = true) : (x.cs.length : Int) = x.W * x.D := by
  unfold savedV savedB at h
  simp only [Bool.and_eq_true] at h
  have h2 := h.1.1.1.2
  unfold cellsB at h2
  simp only [Bool.and_eq_true, decide_eq_true_eq] at h2
  exact h2.1.2
theorem ext_full (s : ByteArray) : s.extract 0 s.size = s := by apply toL_inj; rw [toL_extract]; simp [toL_len, List.take_of_length_le]
theorem ext_app (a b : ByteArray) : (a ++ b).extract 0 a.size = a := by
  apply toL_inj; rw [toL_extract, toL_append]
  rw [List.drop_zero, Nat.sub_zero, ← toL_len a, List.take_left]
theorem ext_app2 (a b : ByteArray) : (a ++ b).extract a.size (a ++ b).size = b := by
  apply toL_inj; rw [toL_extract, toL_append, ByteArray.size_append]
  rw [← toL_len a, List.drop_left, List.take_of_length_le (by rw [toL_len]; omega)]
/-- What is stored is loaded. -/
theorem ldOk_store {x : Sv} (h : savedV x = true) {t r : ByteArray} (ht : t = storeT x ++ r) : ldOk t = true ∧ ldS t = x ∧ ldE t = (storeT x).size := by
  obtain ⟨h1, h2⟩ := ld_store (svOk_of h) (cells_prod h) ht
  refine ⟨?_, h1, h2⟩
  unfold ldOk
  rw [h1, h2, h, ht, ext_app, decide_eq_true (by rw [ByteArray.size_append]; omega)]
  simp
/-- Where the bytes agree that are read for it, the size is the same. -/
theorem ldE_agree {s t : ByteArray} {n : Nat} (h : ∀ p, p < n → byt t p = byt s p) (he : ldE t ≤ n) : ldE t = ldE s := by
  have hp := ldE_pos t
  have e1 : ldA1 t = ldA1 s := by unfold ldA1; rw [h 4 (by omega)]
  have l1 : ldA1 t + 6 + 4 * ldN t + 2 + 12 * ldK t + 2 ≤ n := he
  have e2 : ldW t = ldW s := by unfold ldW; rw [h (ldA1 t) (by omega), e1]
  have e3 : ldD t = ldD s := by unfold ldD; rw [h (ldA1 t + 1) (by omega), e1]
  have e4 : ldN t = ldN s := by unfold ldN; rw [e2, e3]
  have e5 : ldA3 t = ldA3 s := by unfold ldA3; rw [e1, e4]
  have e6 : ldK t = ldK s := by
    have hb : ldA3 t + 1 < n := by show ldA1 t + 6 + 4 * ldN t + 1 < n; omega
    show byt t (ldA3 t + 1) = byt s (ldA3 s + 1)
    rw [h _ hb, e5]
  unfold ldE; rw [e5, e6]
/-- What is cut is not loaded. -/
theorem ldOk_cut {x : Sv} (h : savedV x = true) {n : Nat} (hn : n < (storeT x).size) : ldOk ((storeT x).extract 0 n) = false := by
  have hsz : ((storeT x).extract 0 n).size = n := by rw [ByteArray.size_extract]; omega
  apply ldOk_short
  rw [hsz]
  rcases Nat.lt_or_ge n (ldE ((storeT x).extract 0 n)) with h1 | h1
  · exact h1
  · exfalso
    have e := ldE_agree (s := storeT x) (t := (storeT x).extract 0 n) (n := n) (fun p hp => by rw [byt_extract (by omega) (by omega), Nat.zero_add]) h1
    have e2 := (ldOk_store h (t := storeT x) (r := ⟨#[]⟩) (by apply toL_inj; rw [toL_append]; simp [toL])).2.2
    omega

/-- The bytes of a list of saved ones. -/
def catL : List Sv → ByteArray
  | [] => ⟨#[]⟩
  | x :: xs => storeT x ++ catL xs
theorem app_nil (s : ByteArray) : s ++ ⟨#[]⟩ = s := by apply toL_inj; rw [toL_append]; simp [toL]
theorem nil_app (s : ByteArray) : (⟨#[]⟩ : ByteArray) ++ s = s := by apply toL_inj; rw [toL_append]; simp [toL]
theorem app_assoc (a b c : ByteArray) : a ++ b ++ c = a ++ (b ++ c) := by apply toL_inj; simp only [toL_append, List.append_assoc]
theorem catL_app : ∀ (xs ys : List Sv), catL (xs ++ ys) = catL xs ++ catL ys
  | [], ys => (nil_app _).symm
  | x :: xs, ys => by show storeT x ++ catL (xs ++ ys) = storeT x ++ catL xs ++ catL ys; rw [catL_app xs ys, app_assoc]
theorem catT_catL (ss : List Sv) : ∀ k, k ≤ ss.length → catT ss k = catL (ss.take k)
  | 0, _ => rfl
  | k + 1, h => by
    rw [catT_succ (by omega), catT_catL ss k (by omega), List.take_add_one, List.getElem?_eq_getElem (by omega), catL_app]
    show _ ++ storeT _ = _ ++ (storeT _ ++ ⟨#[]⟩)
    rw [app_nil]
/-- All that is stored is recovered, and what follows it. -/
theorem raGo_app : ∀ {xs : List Sv} {f : Nat} {r : ByteArray}, (∀ x ∈ xs, savedV x = true) → xs.length ≤ f → raGo f (catL xs ++ r) = (xs ++ (raGo (f - xs.length) r).1, (catL xs).size + (raGo (f - xs.length) r).2)
  | [], f, r, _, _ => by show raGo f (⟨#[]⟩ ++ r) = _; rw [nil_app]; show raGo f r = ([] ++ (raGo f r).1, 0 + (raGo f r).2); simp
  | x :: xs, 0, r, _, h => by simp at h
  | x :: xs, f + 1, r, hv, h => by
    have h' : xs.length ≤ f := by simpa using h
    have e : catL (x :: xs) ++ r = storeT x ++ (catL xs ++ r) := app_assoc _ _ _
    obtain ⟨k1, k2, k3⟩ := ldOk_store (hv x (by simp)) e
    rw [raGo_yes k1, k2, k3]
    have e2 : (catL (x :: xs) ++ r).extract (storeT x).size (catL (x :: xs) ++ r).size = catL xs ++ r := by rw [e]; exact ext_app2 _ _
    rw [e2, raGo_app (fun y hy => hv y (by simp [hy])) h']
    have e3 : f + 1 - (x :: xs).length = f - xs.length := by simp
    rw [e3]
    have e4 : (catL (x :: xs)).size = (storeT x).size + (catL xs).size := by show (storeT x ++ catL xs).size = _; rw [ByteArray.size_append]
    rw [e4]
    simp [Nat.add_assoc]
theorem ldOk_nil : ldOk ⟨#[]⟩ = false := ldOk_short (by have := ldE_pos ⟨#[]⟩; show 0 < _; omega)
theorem ld_same {a b : ByteArray} (h : (a.toList == b.toList) = true) : a = b := by
  rw [tl_beq] at h
  simpa using h
/-- What is recovered is a beginning. -/
theorem raGo_is : ∀ (f : Nat) (s : ByteArray), (raGo f s).2 ≤ s.size ∧ (raGo f s).1.length ≤ f ∧ (∀ x ∈ (raGo f s).1, savedV x = true) ∧ catL (raGo f s).1 = s.extract 0 (raGo f s).2
  | 0, s => ⟨Nat.zero_le _, Nat.le_refl _, fun x hx => by simp [raGo] at hx, by
      show (⟨#[]⟩ : ByteArray) = s.extract 0 0
      apply toL_inj; rw [toL_extract]; simp [toL]⟩
  | f + 1, s => by
    cases hk : ldOk s with
    | false =>
      rw [raGo_no hk]
      exact ⟨Nat.zero_le _, Nat.zero_le _, fun x hx => by simp at hx, by
        show (⟨#[]⟩ : ByteArray) = s.extract 0 0
        apply toL_inj; rw [toL_extract]; simp [toL]⟩
    | true =>
      rw [raGo_yes hk]
      obtain ⟨h1, h2, h3, h4⟩ := raGo_is f (s.extract (ldE s) s.size)
      have hle := ldE_le hk
      rw [ByteArray.size_extract] at h1
      have hks := hk
      unfold ldOk at hks
      rw [Bool.and_eq_true, Bool.and_eq_true] at hks
      have hst : storeT (ldS s) = s.extract 0 (ldE s) := ld_same hks.2
      generalize raGo f (s.extract (ldE s) s.size) = q at h1 h2 h3 h4 ⊢
      generalize ldE s = n at hle h1 h4 hst ⊢
      have hv := hks.1.2
      generalize ldS s = x at hst hv ⊢
      clear hks hk
      refine ⟨?_, ?_, fun y hy => ?_, ?_⟩
      · show n + q.2 ≤ s.size
        omega
      · show (x :: q.1).length ≤ f + 1
        rw [List.length_cons]; omega
      · rcases List.mem_cons.1 hy with rfl | hy
        · exact hv
        · exact h3 y hy
      · show storeT x ++ catL q.1 = s.extract 0 (n + q.2)
        rw [hst, h4]
        apply toL_inj
        rw [toL_append, toL_extract, toL_extract, toL_extract, toL_extract]
        simp only [List.drop_zero, Nat.sub_zero]
        rw [List.take_of_length_le (l := List.drop n (toL s)) (by rw [List.length_drop, toL_len]; omega)]
        rw [List.take_add]
theorem raL_is (s : ByteArray) : raN s ≤ s.size ∧ allB (raL s) = true ∧ allT (raL s) = s.extract 0 (raN s) := by
  obtain ⟨h1, h2, h3, h4⟩ := raGo_is 8 s
  have hb : allB (raL s) = true := allB_yes h2 (fun k hk => h3 _ (List.getElem_mem hk))
  refine ⟨h1, hb, ?_⟩
  unfold allT
  rw [hb, if_pos rfl, catT_catL _ _ (Nat.le_refl _), List.take_length]
  exact h4
/-- All is recovered. -/
theorem raL_all {ss : List Sv} (h8 : ss.length ≤ 8) (hv : ∀ x ∈ ss, savedV x = true) : raL (catL ss) = ss ∧ raN (catL ss) = (catL ss).size := by
  have e := raGo_app (r := ⟨#[]⟩) hv h8
  rw [app_nil, raGo_no ldOk_nil] at e
  exact ⟨by unfold raL; rw [e]; simp, by unfold raN; rw [e]; rfl⟩
/-- Of what is cut, all that lies ahead. -/
theorem raL_cut {ss : List Sv} {k n : Nat} (h8 : ss.length ≤ 8) (hv : ∀ x ∈ ss, savedV x = true) (hk : k < ss.length) (h1 : (catL (ss.take k)).size ≤ n) (h2 : n < (catL (ss.take (k + 1))).size) :
    raL ((catL ss).extract 0 n) = ss.take k ∧ raN ((catL ss).extract 0 n) = (catL (ss.take k)).size := by
  have es : ss = ss.take k ++ ss[k] :: ss.drop (k + 1) := by rw [← List.drop_eq_getElem_cons hk, List.take_append_drop]
  have ec : catL ss = catL (ss.take k) ++ (storeT ss[k] ++ catL (ss.drop (k + 1))) := by
    conv => lhs; rw [es, catL_app]
    rfl
  have ek : (catL (ss.take (k + 1))).size = (catL (ss.take k)).size + (storeT ss[k]).size := by
    rw [List.take_add_one, List.getElem?_eq_getElem hk, catL_app, ByteArray.size_append]
    congr 1
    show (storeT ss[k] ++ ⟨#[]⟩).size = _
    rw [app_nil]
  obtain ⟨d, rfl⟩ : ∃ d, n = (catL (ss.take k)).size + d := ⟨n - (catL (ss.take k)).size, by omega⟩
  have hd : d < (storeT ss[k]).size := by omega
  have ee : (catL ss).extract 0 ((catL (ss.take k)).size + d) = catL (ss.take k) ++ (storeT ss[k]).extract 0 d := by
    apply toL_inj
    rw [ec, toL_extract, toL_append, toL_append, toL_append, toL_extract]
    rw [List.drop_zero, List.drop_zero, Nat.sub_zero, Nat.sub_zero, ← toL_len (catL (ss.take k)), List.take_append, List.take_of_length_le (l := toL (catL (ss.take k))) (by omega), Nat.add_sub_cancel_left, List.take_append_of_le_length (by rw [toL_len]; omega)]
  have e := raGo_app (f := 8) (r := (storeT ss[k]).extract 0 d) (fun x hx => hv x (List.mem_of_mem_take hx)) (show (ss.take k).length ≤ 8 by rw [List.length_take]; omega)
  rw [raGo_no (ldOk_cut (hv _ (List.getElem_mem hk)) hd)] at e
  exact ⟨by unfold raL; rw [ee, e]; simp, by unfold raN; rw [ee, e]; rfl⟩
/-- Of what is changed, all that lies ahead. -/
theorem raL_bent {ss : List Sv} {k n : Nat} {t : ByteArray} (h8 : ss.length ≤ 8) (hv : ∀ x ∈ ss, savedV x = true) (hk : k ≤ ss.length) (h1 : (catL (ss.take k)).size ≤ n) (ht : (toL t).take n = (toL (catL ss)).take n) (hn : n ≤ t.size) :
    k ≤ (raL t).length := by
  have es : ss = ss.take k ++ ss.drop k := (List.take_append_drop _ _).symm
  have ec : catL ss = catL (ss.take k) ++ catL (ss.drop k) := by conv => lhs; rw [es, catL_app]
  have hp : (toL t).take (catL (ss.take k)).size = toL (catL (ss.take k)) := by
    have h2 := congrArg (List.take (catL (ss.take k)).size) ht
    rw [List.take_take, List.take_take, Nat.min_eq_left h1] at h2
    rw [h2, ec, toL_append, ← toL_len (catL (ss.take k)), List.take_left]
  have et : t = catL (ss.take k) ++ t.extract (catL (ss.take k)).size t.size := by
    apply toL_inj
    rw [toL_append, toL_extract, ← hp]
    rw [List.take_of_length_le (l := List.drop _ _) (by rw [List.length_drop, toL_len]; omega)]
    rw [hp]
    conv => lhs; rw [← List.take_append_drop (catL (ss.take k)).size (toL t), hp]
  have e := raGo_app (f := 8) (r := t.extract (catL (ss.take k)).size t.size) (fun x hx => hv x (List.mem_of_mem_take hx)) (show (ss.take k).length ≤ 8 by rw [List.length_take]; omega)
  rw [← et] at e
  unfold raL
  rw [e]
  show k ≤ (ss.take k ++ _).length
  rw [List.length_append, List.length_take]; omega

/-- Where each of the first i ends. -/
def endsL (ss : List Sv) (i : Nat) : List Int := (List.range (i + 1)).map fun j => ((catL (ss.take j)).size : Int)
theorem endsL_len (ss : List Sv) (i : Nat) : (endsL ss i).length = i + 1 := by simp [endsL]
theorem endsL_get {ss : List Sv} {i j : Nat} (h : j ≤ i) : (endsL ss i)[j]? = some ((catL (ss.take j)).size : Int) := by
  unfold endsL
  rw [List.getElem?_map, List.getElem?_range (by omega)]; rfl
theorem endsL_succ (ss : List Sv) (i : Nat) : endsL ss (i + 1) = endsL ss i ++ [((catL (ss.take (i + 1))).size : Int)] := by
  unfold endsL
  rw [List.range_succ, List.map_append]; rfl
theorem catL_take {ss : List Sv} {k : Nat} (hk : k < ss.length) : (catL (ss.take (k + 1))).size = (catL (ss.take k)).size + (storeT ss[k]).size := by
  rw [List.take_add_one, List.getElem?_eq_getElem hk, catL_app, ByteArray.size_append]
  congr 1
  show (storeT ss[k] ++ ⟨#[]⟩).size = _
  rw [app_nil]
theorem catL_size {ss : List Sv} {k : Nat} (hk : k ≤ ss.length) (h : ∀ j, j < k → ∀ (h : j < ss.length), savedV ss[j] = true) : (catL (ss.take k)).size ≤ 2000 * k := by
  rw [← catT_catL ss k hk]; exact catT_size k hk h
theorem sv_size {x : Sv} (h : savedV x = true) : svSize x ≤ 700 := by
  have ok := svOk_of h
  have h2 := ok.nm; have h3 := ok.csl; have h4 := ok.ksl; have h5 := ok.tsl; have h6 := ok.esl
  unfold svSize; omega
theorem svSum_le_of : ∀ {ss : List Sv}, (∀ x ∈ ss, savedV x = true) → svSum ss ≤ 700 * ss.length
  | [], _ => by simp [svSum]
  | x :: xs, h => by
    have h1 := sv_size (h x (by simp))
    have h2 := svSum_le_of (ss := xs) (fun y hy => h y (by simp [hy]))
    show svSize x + svSum xs ≤ 700 * ((xs.length + 1 : Nat) : Int)
    omega

theorem raL_svs (s : ByteArray) : svsSize (raL s) ≤ 1048576 := by
  obtain ⟨h1, h2, h3, h4⟩ := raGo_is 8 s
  have h5 : svSum (raL s) ≤ 700 * ((raL s).length : Int) := svSum_le_of h3
  have h6 : (raL s).length ≤ 8 := h2
  unfold svsSize; omega

end Go.Proofs.Ytdpolaedfjljmaa

namespace Go.Proofs.Ytdpolaedfjljmaa
open Go.RowKit

theorem conv_bytesX (w : World) (s : ByteArray) (hs : s.size ≤ 1048576) : ∃ cp w2, (convert 9 43 (.string s)).run Try.prog w = .ok (.slice (some ⟨w.heap.size, 0, none⟩) s.size cp) w2 ∧ Rd (Value.int .u8) w2 (some ⟨w.heap.size, 0, none⟩) cp (bytesI s) ∧ Below w.heap.size w w2 ∧ ∀ k, k < s.size → w2.frozen? ⟨w.heap.size, k, none⟩ = false := by
  have hge := grownCap_ge w s.size 0 5
  refine ⟨_, _, run_bytes_of_string w _ _ _ s und_str und_ye und_y1, ⟨?_, ?_, by simp, fun _ => ⟨_, 0, rfl, by simp⟩, fun k hk => ?_⟩, ?_, fun k hk => ?_⟩
  · rw [bytesI_len]; exact hge
  · have := grownCap_le_maxLen w s.size 0 5 (by unfold maxLen; omega)
    unfold maxLen at this
    omega
  · rw [elt_some, Nat.zero_add]
    show (w.alloc _).cell? _ = _
    rw [cell_of_row _ w.heap.size k _ _ _ (heap_alloc_new w _)]
    have hk2 : k < s.data.size := by rw [bytesI_len] at hk; exact hk
    unfold bytesRow bytesI
    rw [Array.getElem?_append_left (by simpa using hk2)]
    simp
    rw [Array.getElem?_eq_getElem hk2]
    exact ⟨_, rfl, rfl⟩
  · have h1 : Below w.heap.size w w.drew := below_of_drewN w 1 _
    exact h1.alloc (Nat.le_refl _) _
  · have hh : (w.drew.alloc (.cells (bytesRow s (grownCap w s.size 0 5)) 5 ((bytesRow s (grownCap w s.size 0 5)).size, (bytesRow s (grownCap w s.size 0 5)).size + 1))).heap[w.heap.size]? = some (.cells (bytesRow s (grownCap w s.size 0 5)) 5 ((bytesRow s (grownCap w s.size 0 5)).size, (bytesRow s (grownCap w s.size 0 5)).size + 1)) := heap_alloc_new w.drew _
    have hsz : s.size ≤ (bytesRow s (grownCap w s.size 0 5)).size := by
      unfold bytesRow
      rw [Array.size_append, Array.size_map, Array.size_replicate]
      show s.size ≤ s.size + _
      omega
    unfold World.frozen?
    rw [hh]
    simp
    omega
theorem Rd.setAt {α : Type} [Inhabited α] {f : α → Value} {w : World} {b c : Nat} {xs : List α} (h : Rd f w (some ⟨b, 0, none⟩) c xs) {n : Nat} (hn : n < xs.length) (x : α) : Rd f (w.setCell ⟨b, n, none⟩ (f x)) (some ⟨b, 0, none⟩) c (xs.set n x) := by
  refine ⟨by rw [List.length_set]; exact h.cap, h.max, by simp, fun h0 => ?_, fun k hk => ?_⟩
  · obtain ⟨b', o', e, hlt⟩ := h.here (by omega)
    exact ⟨b', o', e, by simpa using hlt⟩
  · rw [List.length_set] at hk
    have hc := h.cell k hk
    rw [elt_some, Nat.zero_add] at hc ⊢
    by_cases e : k = n
    · subst e
      rw [World.cell?_setCell_same _ _ _ hc]
      simp [hk]
    · rw [World.cell?_setCell_other _ _ _ _ (by intro he; apply e; simpa using he.symm), hc]
      try rw [List.getElem?_set_ne (by omega)]
theorem conv_rd {w : World} {a : Option Addr} {c : Nat} {xs : List Int} (h : Rd (Value.int .u8) w a c xs) :
    (convert 43 9 (.slice a xs.length c)).run Try.prog w = .ok (.string (strOf xs)) w := by
  cases ha : a with
  | none =>
    obtain ⟨rfl, _⟩ := rd_none h ha
    exact run_convert_bytes_nil w _ _ und_ye und_y1 _ _ _ und_str
  | some ad =>
    subst ha
    rw [run_convert_bytes_string w _ _ _ _ _ _ und_ye und_y1 und_str]
    have hl := run_loadCells_list (P := Try.prog) w ad (xs.map (Value.int .u8)) (fun j v hj => by
      have hj' : j < xs.length := by
        have := (List.getElem?_eq_some_iff.1 hj).1
        simpa using this
      obtain ⟨b, o, e, _⟩ := h.here (by omega)
      simp only [Option.some.injEq] at e
      subst e
      have := h.cell j hj'
      rw [elt_some] at this
      rw [add_elt, this]
      simp [List.getElem?_eq_getElem hj'] at hj ⊢
      exact hj)
    simp only [List.length_map] at hl
    rw [run_bytesToString w _ _ _ xs hl]
    rfl
theorem toL_push (r : ByteArray) (x : UInt8) : toL (r.push x) = toL r ++ [x] := by unfold toL ByteArray.push; simp
theorem toL_strOf (l : List Int) : toL (strOf l) = l.map fun x => UInt8.ofNat x.toNat := by
  have key : ∀ (l : List Int) (r : ByteArray), toL (l.foldl (fun r n => r.push (UInt8.ofNat n.toNat)) r) = toL r ++ l.map fun x => UInt8.ofNat x.toNat := by
    intro l
    induction l with
    | nil => intro r; simp
    | cons x l ih => intro r; rw [List.foldl_cons, ih, toL_push]; simp
  unfold strOf
  rw [key]
  have : toL ByteArray.empty = [] := rfl
  rw [this, List.nil_append]
theorem toL_bytesI (s : ByteArray) : (bytesI s).map (fun x => UInt8.ofNat x.toNat) = toL s := by
  unfold bytesI toL
  rw [List.map_map]
  conv => rhs; rw [← List.map_id s.data.toList]
  apply List.map_congr_left
  intro b _
  show UInt8.ofNat ((b.toNat : Int)).toNat = b
  have : ((b.toNat : Int)).toNat = b.toNat := by omega
  rw [this]
  simp
theorem bent_take {T : ByteArray} {n : Nat} {v : Int} : (toL (strOf ((bytesI T).set n v))).take n = (toL T).take n := by
  rw [toL_strOf, ← toL_bytesI T, List.map_set, List.take_set_of_le (Nat.le_refl _)]
theorem bent_size {T : ByteArray} {n : Nat} {v : Int} : (strOf ((bytesI T).set n v)).size = T.size := by rw [strOf_size, List.length_set, bytesI_len]
theorem str_take {l : List Int} {o : Nat} : strOf (l.take o) = (strOf l).extract 0 o := by
  apply toL_inj
  rw [toL_strOf, toL_extract, toL_strOf, List.drop_zero, Nat.sub_zero, List.map_take]

end Go.Proofs.Ytdpolaedfjljmaa
