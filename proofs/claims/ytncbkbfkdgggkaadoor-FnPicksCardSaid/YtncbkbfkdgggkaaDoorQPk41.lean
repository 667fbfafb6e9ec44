/- The bytes of what is saved, plain. -/
import Derived.Test.YtncbkbfkdgggkaaDoorQPk24
import Derived.Test.YtncbkbfkdgggkaaDoorQPk34
set_option linter.unusedVariables false
set_option linter.unusedSimpArgs false
namespace Go.Proofs.YtncbkbfkdgggkaaDoor
open Go.RowKit

def savedV (s : Sv) : Bool := savedB s.nm s.W s.D s.S s.cs s.R s.ks s.ts s.es
theorem keys_at {xs : List Int} (h : keysB xs = true) {k : Nat} (hk : k < xs.length) : 0 ≤ at0 xs k ∧ at0 xs k < 4294967296 := by
  unfold keysB at h
  rw [List.all_eq_true] at h
  have e : at0 xs k = xs[k] := by simp [at0, hk]
  rw [e]
  exact isKey_bd (h _ (List.getElem_mem hk))
theorem svOk_of {s : Sv} (h : savedV s = true) : SvOk s := by
  unfold savedV savedB at h
  simp only [Bool.and_eq_true] at h
  obtain ⟨⟨⟨⟨h1, h2⟩, h3⟩, h4⟩, h5⟩ := h
  unfold cellsB at h2
  unfold topsB at h4
  simp only [Bool.and_eq_true, decide_eq_true_eq] at h2 h4
  obtain ⟨⟨⟨⟨w1, d1⟩, s1⟩, l1⟩, c1⟩ := h2
  obtain ⟨⟨⟨⟨⟨⟨r1, l2⟩, l3⟩, l4⟩, ce⟩, kk⟩, df⟩ := h4
  have hp := prod_bd w1 d1
  rw [inR_eq] at w1 d1 r1
  have s2 := isKey_bd s1
  unfold nameB at h1
  simp only [Bool.and_eq_true, decide_eq_true_eq] at h1
  have hts : ∀ k, k < s.ks.length → 0 ≤ at0 s.ts k ∧ at0 s.ts k < 4294967296 := fun k hk => keys_at h5 (by omega)
  refine ⟨h1.1.1, h1.1.2, by omega, by omega, s2, by omega, fun k hk => keys_at h3 hk, by omega, by omega, by omega, by omega, fun k hk => keys_at kk hk, hts, fun k hk => ?_⟩
  unfold ceB at ce
  rw [List.all_eq_true] at ce
  have := ce k (List.mem_range.2 (by omega))
  unfold ceR at this
  rw [Bool.and_eq_true, inR_eq, inR_eq] at this
  have := hts k hk
  omega

end Go.Proofs.YtncbkbfkdgggkaaDoor
