/- The plain functions of counting: powers, elimination. -/
import Derived.Test.YtpfbichomgojoaaM
namespace Go.Proofs.Ytpfbichomgojoaa

/-- A power modulo p, by squaring. -/
def powM (p : Nat) (k a out : Nat) : Nat := if _h : k = 0 then out else powM p (k / 2) (a * a % p) (if k % 2 = 1 then out * a % p else out)
termination_by k
decreasing_by omega
theorem powM_zero (p a out : Nat) : powM p 0 a out = out := by rw [powM]; simp
theorem powM_pos {k : Nat} (h : k ≠ 0) (p a out : Nat) : powM p k a out = powM p (k / 2) (a * a % p) (if k % 2 = 1 then out * a % p else out) := by
  rw [powM, dif_neg h]

theorem powM_spec (p : Nat) : ∀ (k a out : Nat), powM p k a out % p = out * a ^ k % p := by
  intro k
  induction k using Nat.strongRecOn with
  | ind k ih =>
    intro a out
    by_cases h : k = 0
    · subst h; rw [powM_zero]; simp
    · rw [powM_pos h, ih (k / 2) (by omega)]
      have e2 : (a * a % p) ^ (k / 2) % p = a ^ (2 * (k / 2)) % p := by rw [← Nat.pow_mod, Nat.pow_mul, Nat.pow_two]
      split
      · rename_i h1
        rw [Nat.mul_mod, e2, Nat.mod_mod, ← Nat.mul_mod, Nat.mul_assoc, ← Nat.pow_succ']
        congr 3
        omega
      · rename_i h1
        rw [Nat.mul_mod, e2, ← Nat.mul_mod]
        congr 3
        omega
theorem powM_lt {p : Nat} : ∀ (k a out : Nat), out < p → powM p k a out < p := by
  intro k
  induction k using Nat.strongRecOn with
  | ind k ih =>
    intro a out ho
    by_cases h : k = 0
    · subst h; rw [powM_zero]; exact ho
    · rw [powM_pos h]
      refine ih (k / 2) (by omega) _ _ ?_
      split
      · exact Nat.mod_lt _ (by omega)
      · exact ho
def powP (a k p : Nat) : Nat := powM p k a 1
theorem powP_lt {a k p : Nat} (hp : 1 < p) : powP a k p < p := powM_lt k a 1 hp
theorem powP_spec {a k p : Nat} (hp : 1 < p) : powP a k p = a ^ k % p := by
  have h := powM_spec p k a 1
  rw [Nat.one_mul] at h
  rw [← h, Nat.mod_eq_of_lt (powM_lt k a 1 hp)]; rfl

/-- A row of a matrix. -/
def row_ (M : List (List Nat)) (i : Nat) : List Nat := M.getD i []
theorem row_get {M : List (List Nat)} {i : Nat} (h : i < M.length) : row_ M i = M[i] := by simp [row_, List.getD_eq_getElem?_getD, List.getElem?_eq_getElem h]
theorem row_set {M : List (List Nat)} {i j : Nat} {x : List Nat} (h : i < M.length) : row_ (M.set i x) j = if i = j then x else row_ M j := by
  unfold row_
  rw [List.getD_eq_getElem?_getD, List.getD_eq_getElem?_getD, List.getElem?_set]
  by_cases e : i = j
  · subst e; simp [h]
  · simp [e]
/-- The first row from r on that doesn't hold 0 in column c, or s. -/
def pivGo (M : List (List Nat)) (s c : Nat) : Nat → Nat → Nat
  | 0, r => r
  | f + 1, r => if r < s ∧ nat_ (row_ M r) c = 0 then pivGo M s c f (r + 1) else r
def pivR (M : List (List Nat)) (s c : Nat) : Nat := pivGo M s c (s - c) c
def swapM (M : List (List Nat)) (i j : Nat) : List (List Nat) := (M.set i (row_ M j)).set j (row_ M i)
/-- A multiple of a row added to another one, from column c on. -/
def elJ (p f : Nat) (top row : List Nat) (j : Nat) : List Nat := row.set j ((nat_ row j + (p - f) * nat_ top j) % p)
def elR (p f : Nat) (top : List Nat) (s c : Nat) (row : List Nat) : List Nat := (List.range' c (s - c)).foldl (elJ p f top) row
def elI (p inv s c : Nat) (M : List (List Nat)) (i : Nat) : List (List Nat) := M.set i (elR p (nat_ (row_ M i) c * inv % p) (row_ M c) s c (row_ M i))
def elM (p inv s c : Nat) (M : List (List Nat)) : List (List Nat) := (List.range' (c + 1) (s - (c + 1))).foldl (elI p inv s c) M
def gauM (p s c out : Nat) (M : List (List Nat)) : Nat × List (List Nat) :=
  (out * nat_ (row_ M c) c % p, elM p (powP (nat_ (row_ M c) c) (p - 2) p) s c M)
def gauS (p s : Nat) (st : Nat × List (List Nat)) (c : Nat) : Option (Nat × List (List Nat)) :=
  if pivR st.2 s c = s then none
  else if pivR st.2 s c = c then some (gauM p s c st.1 st.2)
  else some (gauM p s c (p - st.1) (swapM st.2 (pivR st.2 s c) c))
def detGo (p s : Nat) : List Nat → Nat × List (List Nat) → Nat
  | [], st => st.1
  | c :: l, st => match gauS p s st c with
    | none => 0
    | some st' => detGo p s l st'
/-- The determinant of a square matrix modulo p, by elimination. -/
def detP (p : Nat) (M : List (List Nat)) : Nat := detGo p M.length (List.range M.length) (1, M)


theorem pivGo_stop {M : List (List Nat)} {s c f r : Nat} (h : ¬ (r < s ∧ nat_ (row_ M r) c = 0)) : pivGo M s c f r = r := by
  cases f with
  | zero => rfl
  | succ f => rw [pivGo, if_neg h]
theorem pivGo_step {M : List (List Nat)} {s c r : Nat} (h1 : r < s) (h2 : nat_ (row_ M r) c = 0) : pivGo M s c (s - r) r = pivGo M s c (s - (r + 1)) (r + 1) := by
  rw [show s - r = (s - (r + 1)) + 1 by omega, pivGo, if_pos ⟨h1, h2⟩]
/-- All numbers less than p. -/
def LtM (p : Nat) (M : List (List Nat)) : Prop := ∀ i j, nat_ (row_ M i) j < p
theorem row_out {M : List (List Nat)} {i : Nat} (h : M.length ≤ i) : row_ M i = [] := by unfold row_; rw [List.getD_eq_getElem?_getD, List.getElem?_eq_none h]; rfl
theorem nat_set' {xs : List Nat} {i j x : Nat} : nat_ (xs.set i x) j = if i = j ∧ i < xs.length then x else nat_ xs j := by
  unfold nat_
  rw [List.getD_eq_getElem?_getD, List.getD_eq_getElem?_getD, List.getElem?_set]
  by_cases e : i = j
  · subst e
    by_cases h : i < xs.length
    · simp [h]
    · simp [h]
  · simp [e]
theorem row_set' {M : List (List Nat)} {i j : Nat} {x : List Nat} : row_ (M.set i x) j = if i = j ∧ i < M.length then x else row_ M j := by
  unfold row_
  rw [List.getD_eq_getElem?_getD, List.getD_eq_getElem?_getD, List.getElem?_set]
  by_cases e : i = j
  · subst e
    by_cases h : i < M.length
    · simp [h]
    · simp [h]
  · simp [e]
theorem LtM.set {p : Nat} {M : List (List Nat)} (h : LtM p M) {i : Nat} {x : List Nat} (hx : ∀ j, nat_ x j < p) : LtM p (M.set i x) := by
  intro a b
  rw [row_set']
  split
  · exact hx b
  · exact h a b
theorem LtM.swap {p : Nat} {M : List (List Nat)} (h : LtM p M) (i j : Nat) : LtM p (swapM M i j) := (h.set (h j)).set (h i)
theorem elJ_lt {p f : Nat} {top row : List Nat} (hp : 0 < p) (h : ∀ j, nat_ row j < p) (j : Nat) : ∀ k, nat_ (elJ p f top row j) k < p := by
  intro k
  unfold elJ
  rw [nat_set']
  split
  · exact Nat.mod_lt _ hp
  · exact h k
theorem elF_lt {p f : Nat} {top : List Nat} (hp : 0 < p) : ∀ (l row : List Nat), (∀ j, nat_ row j < p) → ∀ k, nat_ (l.foldl (elJ p f top) row) k < p := by
  intro l
  induction l with
  | nil => intro row h; exact h
  | cons x l ih => intro row h; exact ih _ (elJ_lt hp h x)
theorem elF_len {p f : Nat} {top : List Nat} : ∀ (l row : List Nat), (l.foldl (elJ p f top) row).length = row.length := by
  intro l
  induction l with
  | nil => intro row; rfl
  | cons x l ih => intro row; rw [List.foldl_cons, ih]; simp [elJ]
theorem range'_take_succ {c n k : Nat} (h : k < n) : (List.range' c n).take (k + 1) = (List.range' c n).take k ++ [c + k] := by
  rw [List.take_succ_eq_append_getElem (by simpa using h)]
  simp

end Go.Proofs.Ytpfbichomgojoaa
