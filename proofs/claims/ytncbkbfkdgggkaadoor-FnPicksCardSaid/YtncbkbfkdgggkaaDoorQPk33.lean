/- Valid tops in both texts. -/
import Derived.Test.YtncbkbfkdgggkaaDoorQPk10
import Derived.Test.YtncbkbfkdgggkaaDoorQPk22
import Derived.Test.YtncbkbfkdgggkaaDoorQPk30
import Derived.Test.YtncbkbfkdgggkaaDoorQPk4
set_option linter.unusedVariables false
set_option linter.unusedSimpArgs false
namespace Go.Proofs.YtncbkbfkdgggkaaDoor
open Go.RowKit

/-- Different numbers. -/
def diffB (ks : List Int) : Bool := decide ((uniq ks).length = ks.length)
theorem insU_len_new {ys : List Int} {x : Int} (h : ¬ x ∈ ys) : (insU ys x).length = ys.length + 1 := by
  induction ys with
  | nil => simp [insU]
  | cons y ys ih =>
    have h1 : ¬ x = y := fun e => h (by rw [e]; exact List.mem_cons_self ..)
    have h2 := ih (fun e => h (List.mem_cons_of_mem _ e))
    unfold insU at *
    simp only [List.length_append, List.length_cons, List.filter_cons] at *
    by_cases hlt : y < x
    · rw [decide_eq_true hlt, decide_eq_false (by omega)]
      simp only [if_true, Bool.false_eq_true, if_false, List.length_cons]
      omega
    · rw [decide_eq_false hlt, decide_eq_true (by omega)]
      simp only [if_true, Bool.false_eq_true, if_false, List.length_cons]
      omega
theorem uniq_take_succ {xs : List Int} {k : Nat} (hk : k < xs.length) : uniq (xs.take (k + 1)) = insU (uniq (xs.take k)) (at0 xs k) := by
  rw [List.take_add_one, List.getElem?_eq_getElem hk]
  show uniq (xs.take k ++ [xs[k]]) = _
  rw [uniq_snoc]
  simp [at0, hk]
theorem diff_yes {xs : List Int} (h : ∀ i, i < xs.length → ¬ at0 xs i ∈ xs.take i) : diffB xs = true := by
  have key : ∀ n, n ≤ xs.length → (uniq (xs.take n)).length = n := by
    intro n
    induction n with
    | zero => intro _; simp [uniq]
    | succ n ih =>
      intro hn
      rw [uniq_take_succ (by omega), insU_len_new (by rw [uniq_mem]; exact h n (by omega)), ih (by omega)]
  unfold diffB
  have := key xs.length (Nat.le_refl _)
  rw [List.take_length] at this
  exact decide_eq_true this
theorem diff_no {xs : List Int} {i : Nat} (hi : i < xs.length) (h : at0 xs i ∈ xs.take i) : diffB xs = false := by
  unfold diffB
  refine decide_eq_false ?_
  have e1 : uniq (xs.take (i + 1)) = uniq (xs.take i) := by
    rw [uniq_take_succ hi]
    exact insU_skip (uniq_up _) (by rw [uniq_mem]; exact h)
  have e2 : uniq xs = (xs.drop (i + 1)).foldl insU (uniq (xs.take (i + 1))) := by
    conv => lhs; rw [← List.take_append_drop (i + 1) xs]
    unfold uniq
    rw [List.foldl_append]
  have e3 := (foldl_insU (xs.drop (i + 1)) (uniq (xs.take (i + 1))) (uniq_up _)).2.2
  rw [← e2, e1] at e3
  have e4 := uniq_len (xs.take i)
  have e5 : (xs.take i).length ≤ i := by rw [List.length_take]; exact Nat.min_le_left _ _
  have e6 : (xs.drop (i + 1)).length = xs.length - (i + 1) := by simp
  omega

/-- Counts and errors. -/
def ceR (cs es : List Int) (i : Nat) : Bool := inR (at0 cs i) 1 1000000000000 && inR (at0 es i) 0 (at0 cs i - 1)
def ceB (cs es : List Int) : Bool := (List.range cs.length).all (ceR cs es)
theorem ceB_no {cs es : List Int} {k : Nat} (hk : k < cs.length) (h : ceR cs es k = false) : ceB cs es = false := by
  unfold ceB
  rw [List.all_eq_false]
  exact ⟨k, List.mem_range.2 hk, by rw [h]; simp⟩
theorem ceB_yes {cs es : List Int} (h : ∀ k, k < cs.length → ceR cs es k = true) : ceB cs es = true := by
  unfold ceB
  rw [List.all_eq_true]
  intro k hk
  exact h k (List.mem_range.1 hk)
def topsB (R : Int) (ks cs es : List Int) : Bool := inR R 1 32 && decide ((ks.length : Int) ≤ R) && decide (cs.length = ks.length) && decide (es.length = ks.length) && ceB cs es && keysB ks && diffB ks
theorem topsB_f {R : Int} {ks cs es : List Int} (h : inR R 1 32 = false ∨ decide ((ks.length : Int) ≤ R) = false ∨ decide (cs.length = ks.length) = false ∨ decide (es.length = ks.length) = false ∨ ceB cs es = false ∨ keysB ks = false ∨ diffB ks = false) : topsB R ks cs es = false := by
  unfold topsB
  rcases h with h | h | h | h | h | h | h <;> rw [h] <;> simp

theorem Rd.headRun2 {α : Type} [Inhabited α] {f : α → Value} {w : World} {a : Option Addr} {c : Nat} {xs : List α} (h : Rd f w a c xs) {P : Program} {T : TypeId} (hT : P.underlying T = some (.slice (P.elem T))) (hs : ∀ w, (sizeOf (P.elem T)).run P w = .ok 1 w) {hi : Nat} (hk : hi ≤ xs.length) :
    ∃ a2 c2, (∀ w' : World, (Instr.sliceAt T (.slice a xs.length c) none (some (.int .i64 (hi : Int))) none).run P w' = .ok (.slice a2 hi c2) w') ∧ ∀ w', Rd f w' a c xs → Rd f w' a2 c2 (xs.take hi) := by
  have hcap := h.cap
  refine ⟨_, _, fun w' => ?_, fun w' hr => by have := (hr.take hi).cut (k := 0) (by simp); simpa using this⟩
  rw [run_sliceAt_slice (h := hT), run_slice_h (ht := hT) (h0 := by omega) (h2 := by omega), hs]
  simp [Result.andThen, sliced]

end Go.Proofs.YtncbkbfkdgggkaaDoor
