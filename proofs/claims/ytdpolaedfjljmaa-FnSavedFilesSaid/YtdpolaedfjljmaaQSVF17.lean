/- How bytes are loaded: plain. -/
import Derived.Test.YtdpolaedfjljmaaQSVF16
import Derived.Test.YtdpolaedfjljmaaQSVF8
import Derived.Test.YtdpolaedfjljmaaQSVF6
namespace Go.Proofs.Ytdpolaedfjljmaa
open Go.RowKit

/-- The number of four bytes. -/
def nb4 (s : ByteArray) (p : Nat) : Int := (byt s p : Int) + 256 * (byt s (p + 1) : Int) + 65536 * (byt s (p + 2) : Int) + 16777216 * (byt s (p + 3) : Int)
def ldA1 (s : ByteArray) : Nat := 5 + byt s 4
def ldW (s : ByteArray) : Nat := byt s (ldA1 s)
def ldD (s : ByteArray) : Nat := byt s (ldA1 s + 1)
def ldN (s : ByteArray) : Nat := ldW s * ldD s
def ldA3 (s : ByteArray) : Nat := ldA1 s + 6 + 4 * ldN s
def ldR (s : ByteArray) : Nat := byt s (ldA3 s)
def ldK (s : ByteArray) : Nat := byt s (ldA3 s + 1)
def ldE (s : ByteArray) : Nat := ldA3 s + 2 + 12 * ldK s + 2
def nums4 (s : ByteArray) (p d : Nat) (k : Nat) : List Int := (List.range k).map fun i => nb4 s (p + d * i)
theorem nums4_len (s : ByteArray) (p d k : Nat) : (nums4 s p d k).length = k := by simp [nums4]
theorem nums4_succ (s : ByteArray) (p d k : Nat) : nums4 s p d (k + 1) = nums4 s p d k ++ [nb4 s (p + d * k)] := by simp [nums4, List.range_succ]
/-- What bytes begin with. -/
def ldS (s : ByteArray) : Sv where
  nm := s.extract 5 (ldA1 s)
  W := ldW s
  D := ldD s
  S := nb4 s (ldA1 s + 2)
  cs := nums4 s (ldA1 s + 6) 4 (ldN s)
  R := ldR s
  ks := nums4 s (ldA3 s + 2) 12 (ldK s)
  ts := nums4 s (ldA3 s + 6) 12 (ldK s)
  es := nums4 s (ldA3 s + 10) 12 (ldK s)
theorem byt_255 (s : ByteArray) (p : Nat) : byt s p ≤ 255 := by have := byt_lt s p; omega
theorem ldE_bd (s : ByteArray) : ldN s ≤ 65025 ∧ ldK s ≤ 255 ∧ ldA1 s ≤ 260 ∧ ldE s ≤ 263430 := by
  have h1 := byt_255 s 4
  have h2 := byt_255 s (ldA1 s)
  have h3 := byt_255 s (ldA1 s + 1)
  have h4 := byt_255 s (ldA3 s + 1)
  have hn : ldN s ≤ 255 * 255 := Nat.mul_le_mul h2 h3
  have hk : ldK s ≤ 255 := h4
  have ha : ldA1 s ≤ 260 := by unfold ldA1; omega
  refine ⟨by omega, hk, ha, ?_⟩
  unfold ldE ldA3
  omega

/-! Loading leads back from storing. -/
theorem bytesI_strOf {l : List Int} (h : ∀ x ∈ l, 0 ≤ x ∧ x < 256) : bytesI (strOf l) = l := by
  have key : ∀ (l : List Int) (r : ByteArray), (∀ x ∈ l, 0 ≤ x ∧ x < 256) → bytesI (l.foldl (fun r n => r.push (UInt8.ofNat n.toNat)) r) = bytesI r ++ l := by
    intro l
    induction l with
    | nil => intro r _; simp
    | cons x l ih =>
      intro r h
      rw [List.foldl_cons, ih _ (fun y hy => h y (List.mem_cons_of_mem _ hy))]
      have hx := h x (List.mem_cons_self ..)
      have e : bytesI (r.push (UInt8.ofNat x.toNat)) = bytesI r ++ [x] := by
        unfold bytesI ByteArray.push
        simp only [Array.toList_push, List.map_append, List.map_cons, List.map_nil]
        rw [UInt8.toNat_ofNat_of_lt' (by show x.toNat < 256; omega)]
        congr 2
        omega
      rw [e]; simp
  have := key l ByteArray.empty h
  simpa [strOf, bytesI] using this
theorem bytesI_append (a b : ByteArray) : bytesI (a ++ b) = bytesI a ++ bytesI b := by unfold bytesI; rw [ByteArray.data_append]; simp
theorem bytesI_inj {a b : ByteArray} (h : bytesI a = bytesI b) : a = b := by
  apply toL_inj
  have key : ∀ (l m : List UInt8), l.map (fun b => (b.toNat : Int)) = m.map (fun b => (b.toNat : Int)) → l = m := by
    intro l
    induction l with
    | nil => intro m h; cases m <;> simp_all
    | cons x l ih =>
      intro m h
      cases m with
      | nil => simp at h
      | cons y m =>
        simp only [List.map_cons, List.cons.injEq] at h
        have h1 : x = y := UInt8.toNat_inj.1 (by omega)
        rw [h1, ih m h.2]
  exact key _ _ h
theorem byt_at0 {s : ByteArray} {k : Nat} (h : k < s.size) : (byt s k : Int) = at0 (bytesI s) k := by
  have h2 : k < (toL s).length := by rw [toL_len]; exact h
  rw [byt_toL h2]
  have h3 : k < (bytesI s).length := by rw [bytesI_len]; exact h
  simp only [at0, List.getElem?_eq_getElem h3, Option.getD_some]
  simp [bytesI, toL]
theorem at0_mid (p : List Int) (x : Int) (r : List Int) {k : Nat} (hk : k = p.length) : at0 (p ++ x :: r) k = x := by
  subst hk; simp [at0]
theorem le4_bd {n : Int} : ∀ x ∈ le n 4, 0 ≤ x ∧ x < 256 := by
  intro x hx
  rw [le_4] at hx
  simp only [List.mem_cons, List.mem_nil_iff, or_false] at hx
  rcases hx with rfl | rfl | rfl | rfl <;> omega
theorem le2_bd {n : Int} : ∀ x ∈ le n 2, 0 ≤ x ∧ x < 256 := by
  intro x hx
  rw [le_2] at hx
  simp only [List.mem_cons, List.mem_nil_iff, or_false] at hx
  rcases hx with rfl | rfl <;> omega
theorem cntL_bd (s : Sv) (k : Nat) : ∀ x ∈ cntL s k, 0 ≤ x ∧ x < 256 := by
  induction k with
  | zero => intro x hx; simp [cntL] at hx
  | succ k ih => intro x hx; rw [cntL, List.mem_append] at hx; rcases hx with h | h; exact ih x h; exact le4_bd x h
theorem rowsL_bd (s : Sv) (k : Nat) : ∀ x ∈ rowsL s k, 0 ≤ x ∧ x < 256 := by
  induction k with
  | zero => intro x hx; simp [rowsL] at hx
  | succ k ih =>
    intro x hx
    rw [rowsL, List.mem_append, List.mem_append, List.mem_append] at hx
    rcases hx with ((h | h) | h) | h
    · exact ih x h
    all_goals exact le4_bd x h
theorem bytesI_bd (s : ByteArray) : ∀ x ∈ bytesI s, 0 ≤ x ∧ x < 256 := by
  intro x hx
  unfold bytesI at hx
  obtain ⟨b, _, rfl⟩ := List.mem_map.1 hx
  have := b.toNat_lt
  omega
theorem bd_app {l r : List Int} (h1 : ∀ x ∈ l, 0 ≤ x ∧ x < 256) (h2 : ∀ x ∈ r, 0 ≤ x ∧ x < 256) : ∀ x ∈ l ++ r, 0 ≤ x ∧ x < 256 := by
  intro x hx
  rcases List.mem_append.1 hx with h | h
  · exact h1 x h
  · exact h2 x h
theorem bd_cons {y : Int} {r : List Int} (h1 : 0 ≤ y ∧ y < 256) (h2 : ∀ x ∈ r, 0 ≤ x ∧ x < 256) : ∀ x ∈ y :: r, 0 ≤ x ∧ x < 256 := by
  intro x hx
  rcases List.mem_cons.1 hx with h | h
  · rw [h]; exact h1
  · exact h2 x h
theorem bd_nil : ∀ x ∈ ([] : List Int), 0 ≤ x ∧ x < 256 := by intro x hx; simp at hx
theorem storeL_bd {s : Sv} (ok : SvOk s) : ∀ x ∈ storeL s, 0 ≤ x ∧ x < 256 := by
  have h1 := ok.nm
  have h2 := ok.ksl
  unfold storeL bodyL headL
  refine bd_app (bd_app (bd_app (bd_app (bd_app (bd_app (bd_app (bd_app ?_ ?_) (bytesI_bd _)) ?_) le4_bd) (cntL_bd _ _)) ?_) (rowsL_bd _ _)) le2_bd
  · exact bd_cons (by omega) (bd_cons (by omega) (bd_cons (by omega) (bd_cons (by omega) bd_nil)))
  · exact bd_cons (by omega) bd_nil
  · exact bd_cons ok.W (bd_cons ok.D bd_nil)
  · exact bd_cons ok.R (bd_cons (by omega) bd_nil)
theorem cntL_split (s : Sv) {i k : Nat} (h : i < k) : ∃ r, cntL s k = cntL s i ++ (le (at0 s.cs i) 4 ++ r) := by
  induction k with
  | zero => omega
  | succ k ih =>
    rcases Nat.lt_or_ge i k with h2 | h2
    · obtain ⟨r, hr⟩ := ih h2
      exact ⟨r ++ le (at0 s.cs k) 4, by rw [cntL, hr]; simp⟩
    · obtain rfl : i = k := by omega
      exact ⟨[], by rw [cntL]; simp⟩
theorem rowsL_split (s : Sv) {i k : Nat} (h : i < k) : ∃ r, rowsL s k = rowsL s i ++ (le (at0 s.ks i) 4 ++ (le (at0 s.ts i) 4 ++ (le (at0 s.es i) 4 ++ r))) := by
  induction k with
  | zero => omega
  | succ k ih =>
    rcases Nat.lt_or_ge i k with h2 | h2
    · obtain ⟨r, hr⟩ := ih h2
      exact ⟨r ++ (le (at0 s.ks k) 4 ++ (le (at0 s.ts k) 4 ++ le (at0 s.es k) 4)), by rw [rowsL, hr]; simp⟩
    · obtain rfl : i = k := by omega
      exact ⟨[], by rw [rowsL]; simp⟩
def nb4L (l : List Int) (p : Nat) : Int := at0 l p + 256 * at0 l (p + 1) + 65536 * at0 l (p + 2) + 16777216 * at0 l (p + 3)
theorem nb4_list {s : ByteArray} {p : Nat} (h : p + 4 ≤ s.size) : nb4 s p = nb4L (bytesI s) p := by
  unfold nb4 nb4L
  rw [byt_at0 (by omega), byt_at0 (by omega), byt_at0 (by omega), byt_at0 (by omega)]
theorem nb4L_mid (p : List Int) (n : Int) (r : List Int) (hn : 0 ≤ n ∧ n < 4294967296) {k : Nat} (hk : k = p.length) : nb4L (p ++ (le n 4 ++ r)) k = n := by
  subst hk
  rw [le_4]
  unfold nb4L
  have e0 : at0 (p ++ ([n % 256, n / 256 % 256, n / 256 / 256 % 256, n / 256 / 256 / 256 % 256] ++ r)) p.length = n % 256 := by simp [at0]
  have e1 : at0 (p ++ ([n % 256, n / 256 % 256, n / 256 / 256 % 256, n / 256 / 256 / 256 % 256] ++ r)) (p.length + 1) = n / 256 % 256 := by simp [at0]
  have e2 : at0 (p ++ ([n % 256, n / 256 % 256, n / 256 / 256 % 256, n / 256 / 256 / 256 % 256] ++ r)) (p.length + 2) = n / 256 / 256 % 256 := by simp [at0]
  have e3 : at0 (p ++ ([n % 256, n / 256 % 256, n / 256 / 256 % 256, n / 256 / 256 / 256 % 256] ++ r)) (p.length + 3) = n / 256 / 256 / 256 % 256 := by simp [at0]
  rw [e0, e1, e2, e3]
  omega
theorem list_at0 {xs : List Int} {f : Nat → Int} (h : ∀ i, i < xs.length → f i = at0 xs i) : (List.range xs.length).map f = xs := by
  refine List.ext_getElem (by simp) fun i h1 h2 => ?_
  simp only [List.getElem_map, List.getElem_range]
  rw [h i h2]
  simp [at0, h2]
set_option maxHeartbeats 1000000 in
/-- What is stored is loaded, whatever lies behind it. -/
theorem ld_store {x : Sv} (ok : SvOk x) (hcs : (x.cs.length : Int) = x.W * x.D) {t r : ByteArray} (ht : t = storeT x ++ r) : ldS t = x ∧ ldE t = (storeT x).size := by
  have hsz := storeT_size x
  have htsz : t.size = (storeT x).size + r.size := by rw [ht, ByteArray.size_append]
  have hbl : bytesI t = storeL x ++ bytesI r := by rw [ht, bytesI_append]; congr 1; exact bytesI_strOf (storeL_bd ok)
  have hW := ok.W; have hD := ok.D; have hR := ok.R; have hS := ok.S
  obtain ⟨CK, hCK⟩ : ∃ CK, storeL x = bodyL x ++ CK := ⟨_, rfl⟩
  -- the name's length
  have e4 : byt t 4 = x.nm.size := by
    have h := byt_at0 (s := t) (k := 4) (by omega)
    have e : bytesI t = [83, 75, 84, 49] ++ ((x.nm.size : Int) :: (bytesI x.nm ++ ([x.W, x.D] ++ (le x.S 4 ++ (cntL x x.cs.length ++ ([x.R, (x.ks.length : Int)] ++ (rowsL x x.ks.length ++ (CK ++ bytesI r)))))))) := by
      rw [hbl, hCK, bodyL, headL]; simp
    rw [e, at0_mid (k := 4) _ _ _ rfl] at h
    omega
  have hA1 : ldA1 t = 5 + x.nm.size := by unfold ldA1; rw [e4]
  have enm : t.extract 5 (5 + x.nm.size) = x.nm := by
    apply bytesI_inj
    have e1 : bytesI (t.extract 5 (5 + x.nm.size)) = ((bytesI t).drop 5).take x.nm.size := by
      have h := toL_extract t 5 (5 + x.nm.size)
      have h2 := congrArg (List.map fun b => (UInt8.toNat b : Int)) h
      have h3 : (5 + x.nm.size - 5) = x.nm.size := by omega
      rw [h3] at h2
      have e2 : ∀ q : ByteArray, (toL q).map (fun b => (UInt8.toNat b : Int)) = bytesI q := fun _ => rfl
      rw [e2] at h2
      rw [h2, List.map_take, List.map_drop, e2]
    have e : bytesI t = ([83, 75, 84, 49] ++ [(x.nm.size : Int)]) ++ (bytesI x.nm ++ ([x.W, x.D] ++ (le x.S 4 ++ (cntL x x.cs.length ++ ([x.R, (x.ks.length : Int)] ++ (rowsL x x.ks.length ++ (CK ++ bytesI r))))))) := by
      rw [hbl, hCK, bodyL, headL]; simp
    rw [e1, e]
    have h5 : 5 = ([83, 75, 84, 49] ++ [(x.nm.size : Int)] : List Int).length := rfl
    conv => lhs; rw [h5]
    rw [List.drop_left]
    have h6 : x.nm.size = (bytesI x.nm).length := (bytesI_len _).symm
    rw [h6, List.take_left]
  have eW : byt t (5 + x.nm.size) = x.W.toNat := by
    have h := byt_at0 (s := t) (k := 5 + x.nm.size) (by omega)
    have e : bytesI t = (([83, 75, 84, 49] ++ [(x.nm.size : Int)]) ++ bytesI x.nm) ++ (x.W :: (x.D :: (le x.S 4 ++ (cntL x x.cs.length ++ ([x.R, (x.ks.length : Int)] ++ (rowsL x x.ks.length ++ (CK ++ bytesI r))))))) := by
      rw [hbl, hCK, bodyL, headL]; simp
    rw [e, at0_mid _ _ _ (by simp [bytesI_len]; omega)] at h
    omega
  have eD : byt t (5 + x.nm.size + 1) = x.D.toNat := by
    have h := byt_at0 (s := t) (k := 5 + x.nm.size + 1) (by omega)
    have e : bytesI t = ((([83, 75, 84, 49] ++ [(x.nm.size : Int)]) ++ bytesI x.nm) ++ [x.W]) ++ (x.D :: (le x.S 4 ++ (cntL x x.cs.length ++ ([x.R, (x.ks.length : Int)] ++ (rowsL x x.ks.length ++ (CK ++ bytesI r)))))) := by
      rw [hbl, hCK, bodyL, headL]; simp
    rw [e, at0_mid _ _ _ (by simp [bytesI_len]; omega)] at h
    omega
  have eS : nb4 t (5 + x.nm.size + 2) = x.S := by
    rw [nb4_list (by omega)]
    have e : bytesI t = ((([83, 75, 84, 49] ++ [(x.nm.size : Int)]) ++ bytesI x.nm) ++ [x.W, x.D]) ++ (le x.S 4 ++ (cntL x x.cs.length ++ ([x.R, (x.ks.length : Int)] ++ (rowsL x x.ks.length ++ (CK ++ bytesI r))))) := by
      rw [hbl, hCK, bodyL, headL]; simp
    rw [e]
    exact nb4L_mid _ _ _ hS (by simp [bytesI_len]; omega)
  have hN : ldN t = x.cs.length := by
    unfold ldN ldW ldD
    rw [hA1, eW, eD]
    have : ((x.W.toNat * x.D.toNat : Nat) : Int) = x.W * x.D := by rw [Int.natCast_mul, Int.toNat_of_nonneg hW.1, Int.toNat_of_nonneg hD.1]
    omega
  have hA3 : ldA3 t = 11 + x.nm.size + 4 * x.cs.length := by unfold ldA3; rw [hA1, hN]; omega
  have ecs : nums4 t (ldA1 t + 6) 4 (ldN t) = x.cs := by
    rw [hN, hA1]
    refine list_at0 fun i hi => ?_
    rw [nb4_list (by omega)]
    obtain ⟨q, hq⟩ := cntL_split x hi
    have e : bytesI t = (headL x ++ cntL x i) ++ (le (at0 x.cs i) 4 ++ (q ++ ([x.R, (x.ks.length : Int)] ++ (rowsL x x.ks.length ++ (CK ++ bytesI r))))) := by
      rw [hbl, hCK, bodyL, hq]; simp
    rw [e]
    exact nb4L_mid _ _ _ (ok.cs i hi) (by rw [List.length_append, headL_len, cntL_len]; omega)
  have eR : byt t (11 + x.nm.size + 4 * x.cs.length) = x.R.toNat := by
    have h := byt_at0 (s := t) (k := 11 + x.nm.size + 4 * x.cs.length) (by omega)
    have e : bytesI t = (headL x ++ cntL x x.cs.length) ++ (x.R :: ((x.ks.length : Int) :: (rowsL x x.ks.length ++ (CK ++ bytesI r)))) := by
      rw [hbl, hCK, bodyL]; simp
    rw [e, at0_mid _ _ _ (by rw [List.length_append, headL_len, cntL_len]; omega)] at h
    omega
  have eK : byt t (11 + x.nm.size + 4 * x.cs.length + 1) = x.ks.length := by
    have h := byt_at0 (s := t) (k := 11 + x.nm.size + 4 * x.cs.length + 1) (by omega)
    have e : bytesI t = ((headL x ++ cntL x x.cs.length) ++ [x.R]) ++ ((x.ks.length : Int) :: (rowsL x x.ks.length ++ (CK ++ bytesI r))) := by
      rw [hbl, hCK, bodyL]; simp
    rw [e, at0_mid _ _ _ (by rw [List.length_append, List.length_append, headL_len, cntL_len]; simp; omega)] at h
    omega
  have hK : ldK t = x.ks.length := by unfold ldK; rw [hA3, eK]
  have row : ∀ i, i < x.ks.length → ∃ q, bytesI t = (((headL x ++ cntL x x.cs.length) ++ [x.R, (x.ks.length : Int)]) ++ rowsL x i) ++ (le (at0 x.ks i) 4 ++ (le (at0 x.ts i) 4 ++ (le (at0 x.es i) 4 ++ q))) := by
    intro i hi
    obtain ⟨q, hq⟩ := rowsL_split x hi
    refine ⟨q ++ (CK ++ bytesI r), ?_⟩
    rw [hbl, hCK, bodyL, hq]; simp
  have rl : ∀ i, (((headL x ++ cntL x x.cs.length) ++ [x.R, (x.ks.length : Int)]) ++ rowsL x i).length = 13 + x.nm.size + 4 * x.cs.length + 12 * i := by
    intro i
    rw [List.length_append, List.length_append, List.length_append, headL_len, cntL_len, rowsL_len]; simp; omega
  have eks : nums4 t (ldA3 t + 2) 12 (ldK t) = x.ks := by
    rw [hK, hA3]
    refine list_at0 fun i hi => ?_
    rw [nb4_list (by omega)]
    obtain ⟨q, e⟩ := row i hi
    rw [e]
    exact nb4L_mid _ _ _ (ok.ks i hi) (by rw [rl]; omega)
  have ets : nums4 t (ldA3 t + 6) 12 (ldK t) = x.ts := by
    rw [hK, hA3, ← ok.tsl]
    refine list_at0 fun i hi => ?_
    have hi2 : i < x.ks.length := by have := ok.tsl; omega
    rw [nb4_list (by omega)]
    obtain ⟨q, e⟩ := row i hi2
    rw [e, ← List.append_assoc]
    exact nb4L_mid _ _ _ (ok.ts i hi2) (by rw [List.length_append, rl, le_len]; omega)
  have ees : nums4 t (ldA3 t + 10) 12 (ldK t) = x.es := by
    rw [hK, hA3, ← ok.esl]
    refine list_at0 fun i hi => ?_
    have hi2 : i < x.ks.length := by have := ok.esl; omega
    rw [nb4_list (by omega)]
    obtain ⟨q, e⟩ := row i hi2
    rw [e, ← List.append_assoc, ← List.append_assoc]
    exact nb4L_mid _ _ _ (ok.es i hi2) (by rw [List.length_append, List.length_append, rl, le_len, le_len]; omega)
  refine ⟨?_, ?_⟩
  · have eR2 : ldR t = x.R.toNat := by unfold ldR; rw [hA3, eR]
    have eW2 : ldW t = x.W.toNat := by unfold ldW; rw [hA1, eW]
    have eD2 : ldD t = x.D.toNat := by unfold ldD; rw [hA1, eD]
    unfold ldS
    rw [ecs, eks, ets, ees, eR2, eW2, eD2, hA1, enm, eS, Int.toNat_of_nonneg hW.1, Int.toNat_of_nonneg hD.1, Int.toNat_of_nonneg hR.1]
  · unfold ldE; rw [hA3, hK, hsz]; omega

end Go.Proofs.Ytdpolaedfjljmaa
