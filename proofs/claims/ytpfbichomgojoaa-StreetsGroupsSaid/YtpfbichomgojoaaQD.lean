/- Plain: determinants of whole numbers. -/
namespace Go.Proofs.Ytpfbichomgojoaa

def sumN (f : Nat → Int) : Nat → Int
  | 0 => 0
  | n + 1 => sumN f n + f n
def sg (i : Nat) : Int := if i % 2 = 0 then 1 else -1
def sk (i a : Nat) : Nat := if a < i then a else a + 1
/-- The determinant, by its first column. -/
def det : Nat → (Nat → Nat → Int) → Int
  | 0, _ => 1
  | n + 1, M => sumN (fun i => sg i * M i 0 * det n (fun a b => M (sk i a) (b + 1))) (n + 1)

theorem sumN_congr {f g : Nat → Int} {n : Nat} (h : ∀ i, i < n → f i = g i) : sumN f n = sumN g n := by
  induction n with
  | zero => rfl
  | succ n ih => rw [sumN, sumN, ih (fun i hi => h i (by omega)), h n (by omega)]
theorem sumN_zero {f : Nat → Int} {n : Nat} (h : ∀ i, i < n → f i = 0) : sumN f n = 0 := by
  induction n with
  | zero => rfl
  | succ n ih => rw [sumN, ih (fun i hi => h i (by omega)), h n (by omega)]; rfl
theorem sumN_lin {f g : Nat → Int} {c d : Int} {n : Nat} : sumN (fun i => c * f i + d * g i) n = c * sumN f n + d * sumN g n := by
  induction n with
  | zero => simp [sumN]
  | succ n ih => rw [sumN, sumN, sumN, ih]; grind
theorem sumN_mul {f : Nat → Int} {c : Int} {n : Nat} : sumN (fun i => c * f i) n = c * sumN f n := by
  induction n with
  | zero => simp [sumN]
  | succ n ih => rw [sumN, sumN, ih]; grind
theorem sumN_one {f : Nat → Int} {n a : Nat} (ha : a < n) (h : ∀ i, i < n → i ≠ a → f i = 0) : sumN f n = f a := by
  induction n with
  | zero => omega
  | succ n ih =>
    rw [sumN]
    by_cases e : a = n
    · subst e; rw [sumN_zero (fun i hi => h i (by omega) (by omega))]; omega
    · rw [ih (by omega) (fun i hi => h i (by omega)), h n (by omega) (fun e2 => e e2.symm)]; omega
theorem sumN_first {f : Nat → Int} {n : Nat} : sumN f (n + 1) = f 0 + sumN (fun i => f (i + 1)) n := by
  induction n with
  | zero => simp [sumN]
  | succ n ih => rw [sumN, ih, sumN]; omega
theorem sumN_skip {f : Nat → Int} {n a : Nat} (ha : a ≤ n) (h : f a = 0) : sumN f (n + 1) = sumN (fun i => f (sk a i)) n := by
  induction n with
  | zero =>
    have : a = 0 := by omega
    subst this
    simp [sumN, h]
  | succ n ih =>
    by_cases e : a = n + 1
    · subst e
      rw [sumN, h]
      have : sumN f (n + 1) = sumN (fun i => f (sk (n + 1) i)) (n + 1) := sumN_congr fun i hi => by
        have : sk (n + 1) i = i := by unfold sk; rw [if_pos hi]
        rw [this]
      omega
    · rw [sumN, ih (by omega), sumN]
      have : sk a n = n + 1 := by unfold sk; rw [if_neg (by omega)]
      rw [this]
theorem sg_succ (i : Nat) : sg (i + 1) = - sg i := by unfold sg; split <;> split <;> omega
theorem sk_lt {i a n : Nat} (h : a < n) : sk i a < n + 1 := by unfold sk; split <;> omega
theorem sk_ne (i a : Nat) : sk i a ≠ i := by unfold sk; split <;> omega
theorem sk_inj {i a b : Nat} (h : sk i a = sk i b) : a = b := by unfold sk at h; split at h <;> split at h <;> omega

theorem det_congr : ∀ {n : Nat} {M M' : Nat → Nat → Int}, (∀ i j, i < n → j < n → M i j = M' i j) → det n M = det n M' := by
  intro n
  induction n with
  | zero => intro M M' _; rfl
  | succ n ih =>
    intro M M' h
    rw [det, det]
    refine sumN_congr fun i hi => ?_
    rw [h i 0 hi (by omega), ih fun a b ha hb => h _ _ (sk_lt ha) (by omega)]

/-- Linear in row k. -/
theorem det_lin : ∀ {n k : Nat} {M P Q : Nat → Nat → Int} {c d : Int}, k < n → (∀ i j, i < n → j < n → i ≠ k → P i j = M i j ∧ Q i j = M i j) → (∀ j, j < n → M k j = c * P k j + d * Q k j) →
    det n M = c * det n P + d * det n Q := by
  intro n
  induction n with
  | zero => intro k M P Q c d hk; omega
  | succ n ih =>
    intro k M P Q c d hk ho hr
    rw [det, det, det, ← sumN_lin]
    refine sumN_congr fun i hi => ?_
    by_cases e : i = k
    · subst e
      have e1 : det n (fun a b => P (sk i a) (b + 1)) = det n (fun a b => M (sk i a) (b + 1)) := det_congr fun a b ha hb => (ho _ _ (sk_lt ha) (by omega) (sk_ne i a)).1
      have e2 : det n (fun a b => Q (sk i a) (b + 1)) = det n (fun a b => M (sk i a) (b + 1)) := det_congr fun a b ha hb => (ho _ _ (sk_lt ha) (by omega) (sk_ne i a)).2
      rw [e1, e2, hr 0 (by omega)]
      grind
    · obtain ⟨o1, o2⟩ := ho i 0 hi (by omega) e
      obtain ⟨k', hk', hk2⟩ : ∃ k', sk i k' = k ∧ k' < n := by
        unfold sk
        by_cases h : k < i
        · exact ⟨k, by rw [if_pos h], by omega⟩
        · exact ⟨k - 1, by rw [if_neg (by omega)]; omega, by omega⟩
      have := ih (k := k') (M := fun a b => M (sk i a) (b + 1)) (P := fun a b => P (sk i a) (b + 1)) (Q := fun a b => Q (sk i a) (b + 1)) (c := c) (d := d) hk2
        (fun a b ha hb hne => ho _ _ (sk_lt ha) (by omega) (fun e => hne (sk_inj (e.trans hk'.symm))))
        (fun j hj => by show M (sk i k') (j + 1) = c * P (sk i k') (j + 1) + d * Q (sk i k') (j + 1); rw [hk']; exact hr _ (by omega))
      rw [this, o1, o2]
      grind
theorem det_zero_row {n k : Nat} {M : Nat → Nat → Int} (hk : k < n) (h : ∀ j, j < n → M k j = 0) : det n M = 0 := by
  have := det_lin (n := n) (k := k) (M := M) (P := M) (Q := M) (c := 0) (d := 0) hk (fun i j _ _ _ => ⟨rfl, rfl⟩) (fun j hj => by rw [h j hj]; rfl)
  omega
theorem sumN_swap {f f' : Nat → Int} {n k : Nat} (hk : k + 1 < n) (h : ∀ i, i < n → i ≠ k → i ≠ k + 1 → f' i = - f i) (h1 : f' k = - f (k + 1)) (h2 : f' (k + 1) = - f k) : sumN f' n = - sumN f n := by
  induction n with
  | zero => omega
  | succ n ih =>
    by_cases e : n = k + 1
    · subst e
      rw [sumN, sumN, sumN, sumN, h1, h2]
      have e : sumN f' k = sumN (fun i => (-1) * f i) k := sumN_congr fun i hi => by rw [h i (by omega) (by omega) (by omega)]; omega
      rw [e, sumN_mul]; omega
    · rw [sumN, sumN, ih (by omega) (fun i hi => h i (by omega)), h n (by omega) (by omega) (by omega)]; omega
/-- Two rows next to each other exchanged. -/
theorem det_adj : ∀ {n k : Nat} {M M' : Nat → Nat → Int}, k + 1 < n → (∀ i j, i < n → j < n → i ≠ k → i ≠ k + 1 → M' i j = M i j) → (∀ j, j < n → M' k j = M (k + 1) j ∧ M' (k + 1) j = M k j) →
    det n M' = - det n M := by
  intro n
  induction n with
  | zero => intro k M M' hk; omega
  | succ n ih =>
    intro k M M' hk ho hs
    rw [det, det]
    refine sumN_swap hk (fun i hi h1 h2 => ?_) ?_ ?_
    · rw [ho i 0 hi (by omega) h1 h2]
      have : det n (fun a b => M' (sk i a) (b + 1)) = - det n (fun a b => M (sk i a) (b + 1)) := by
        by_cases h : i < k
        · refine ih (k := k - 1) (by omega) (fun a b ha hb g1 g2 => ho _ _ (sk_lt ha) (by omega) ?_ ?_) (fun j hj => ?_)
          · unfold sk; split <;> omega
          · unfold sk; split <;> omega
          · have e1 : sk i (k - 1) = k := by unfold sk; rw [if_neg (by omega)]; omega
            have e2 : sk i (k - 1 + 1) = k + 1 := by unfold sk; rw [if_neg (by omega)]; omega
            show M' (sk i (k - 1)) (j + 1) = M (sk i (k - 1 + 1)) (j + 1) ∧ M' (sk i (k - 1 + 1)) (j + 1) = M (sk i (k - 1)) (j + 1)
            rw [e1, e2]
            exact hs _ (by omega)
        · refine ih (k := k) (by omega) (fun a b ha hb g1 g2 => ho _ _ (sk_lt ha) (by omega) ?_ ?_) (fun j hj => ?_)
          · unfold sk; split <;> omega
          · unfold sk; split <;> omega
          · have e1 : sk i k = k := by unfold sk; rw [if_pos (by omega)]
            have e2 : sk i (k + 1) = k + 1 := by unfold sk; rw [if_pos (by omega)]
            show M' (sk i k) (j + 1) = M (sk i (k + 1)) (j + 1) ∧ M' (sk i (k + 1)) (j + 1) = M (sk i k) (j + 1)
            rw [e1, e2]
            exact hs _ (by omega)
      rw [this]; grind
    · have : det n (fun a b => M' (sk k a) (b + 1)) = det n (fun a b => M (sk (k + 1) a) (b + 1)) := det_congr fun a b ha hb => by
        rcases Nat.lt_trichotomy a k with h | h | h
        · have e1 : sk k a = a := by unfold sk; rw [if_pos h]
          have e2 : sk (k + 1) a = a := by unfold sk; rw [if_pos (by omega)]
          rw [e1, e2]; exact ho _ _ (by omega) (by omega) (by omega) (by omega)
        · subst h
          have e1 : sk a a = a + 1 := by unfold sk; rw [if_neg (by omega)]
          have e2 : sk (a + 1) a = a := by unfold sk; rw [if_pos (by omega)]
          rw [e1, e2]; exact (hs _ (by omega)).2
        · have e1 : sk k a = a + 1 := by unfold sk; rw [if_neg (by omega)]
          have e2 : sk (k + 1) a = a + 1 := by unfold sk; rw [if_neg (by omega)]
          rw [e1, e2]; exact ho _ _ (by omega) (by omega) (by omega) (by omega)
      rw [this, (hs 0 (by omega)).1, sg_succ]; grind
    · have : det n (fun a b => M' (sk (k + 1) a) (b + 1)) = det n (fun a b => M (sk k a) (b + 1)) := det_congr fun a b ha hb => by
        rcases Nat.lt_trichotomy a k with h | h | h
        · have e1 : sk k a = a := by unfold sk; rw [if_pos h]
          have e2 : sk (k + 1) a = a := by unfold sk; rw [if_pos (by omega)]
          rw [e1, e2]; exact ho _ _ (by omega) (by omega) (by omega) (by omega)
        · subst h
          have e1 : sk a a = a + 1 := by unfold sk; rw [if_neg (by omega)]
          have e2 : sk (a + 1) a = a := by unfold sk; rw [if_pos (by omega)]
          rw [e1, e2]; exact (hs _ (by omega)).1
        · have e1 : sk k a = a + 1 := by unfold sk; rw [if_neg (by omega)]
          have e2 : sk (k + 1) a = a + 1 := by unfold sk; rw [if_neg (by omega)]
          rw [e1, e2]; exact ho _ _ (by omega) (by omega) (by omega) (by omega)
      rw [this, (hs 0 (by omega)).2, sg_succ]; grind
/-- Two equal rows. -/
theorem det_same {n : Nat} : ∀ (d i j : Nat) {M : Nat → Nat → Int}, j = i + d + 1 → j < n → (∀ c, c < n → M i c = M j c) → det n M = 0 := by
  intro d
  induction d with
  | zero =>
    intro i j M hj hn h
    subst hj
    have := det_adj (n := n) (k := i) (M := M) (M' := M) hn (fun _ _ _ _ _ _ => rfl) (fun c hc => ⟨h c hc, (h c hc).symm⟩)
    omega
  | succ d ih =>
    intro i j M hj hn h
    have h1 := det_adj (n := n) (k := j - 1) (M := M) (M' := fun a b => if a = j - 1 then M j b else if a = j then M (j - 1) b else M a b) (by omega)
      (fun a b ha hb g1 g2 => by show (if a = j - 1 then M j b else if a = j then M (j - 1) b else M a b) = M a b; rw [if_neg g1, if_neg (by omega)])
      (fun c hc => by
        have e : j - 1 + 1 = j := by omega
        rw [e]
        show (if j - 1 = j - 1 then M j c else _) = M j c ∧ (if j = j - 1 then M j c else if j = j then M (j - 1) c else M j c) = M (j - 1) c
        rw [if_pos rfl, if_neg (by omega), if_pos rfl]
        exact ⟨rfl, rfl⟩)
    have h2 := ih i (j - 1) (M := fun a b => if a = j - 1 then M j b else if a = j then M (j - 1) b else M a b) (by omega) (by omega) (fun c hc => by
      show (if i = j - 1 then M j c else if i = j then M (j - 1) c else M i c) = (if j - 1 = j - 1 then M j c else _)
      rw [if_neg (by omega), if_neg (by omega), if_pos rfl]
      exact h c hc)
    omega
theorem det_eq_rows {n i j : Nat} {M : Nat → Nat → Int} (hi : i < n) (hj : j < n) (hne : i ≠ j) (h : ∀ c, c < n → M i c = M j c) : det n M = 0 := by
  rcases Nat.lt_or_ge i j with hlt | hge
  · exact det_same (j - i - 1) i j (by omega) hj h
  · exact det_same (i - j - 1) j i (by omega) hi fun c hc => (h c hc).symm
def setR (M : Nat → Nat → Int) (k : Nat) (x : Nat → Int) : Nat → Nat → Int := fun i j => if i = k then x j else M i j
theorem setR_at {M : Nat → Nat → Int} {k : Nat} {x : Nat → Int} {j : Nat} : setR M k x k j = x j := if_pos rfl
theorem setR_ne {M : Nat → Nat → Int} {k i : Nat} {x : Nat → Int} {j : Nat} (h : i ≠ k) : setR M k x i j = M i j := if_neg h
/-- A multiple of a row added to another one. -/
theorem det_addrow {n r c : Nat} {M M' : Nat → Nat → Int} {d : Int} (hr : r < n) (hc : c < n) (hne : r ≠ c) (ho : ∀ i j, i < n → j < n → i ≠ r → M' i j = M i j) (h : ∀ j, j < n → M' r j = M r j + d * M c j) : det n M' = det n M := by
  have h1 := det_lin (n := n) (k := r) (M := M') (P := M) (Q := setR M r (M c)) (c := 1) (d := d) hr (fun i j hi hj hn => ⟨(ho i j hi hj hn).symm, by rw [setR_ne hn]; exact (ho i j hi hj hn).symm⟩)
    (fun j hj => by rw [h j hj, setR_at]; omega)
  have h2 := det_eq_rows (n := n) (M := setR M r (M c)) hr hc hne (fun j hj => by rw [setR_at, setR_ne (fun e => hne e.symm)])
  rw [h2] at h1
  omega
/-- Two rows exchanged. -/
theorem det_swap {n r c : Nat} {M M' : Nat → Nat → Int} (hr : r < n) (hc : c < n) (hne : r ≠ c) (ho : ∀ i j, i < n → j < n → i ≠ r → i ≠ c → M' i j = M i j) (h : ∀ j, j < n → M' r j = M c j ∧ M' c j = M r j) : det n M' = - det n M := by
  have hne' : c ≠ r := fun e => hne e.symm
  let N : (Nat → Int) → (Nat → Int) → Nat → Nat → Int := fun x y => setR (setR M r x) c y
  have hN0 : ∀ x, det n (N x x) = 0 := fun x => det_eq_rows hr hc hne fun j hj => by
    show setR (setR M r x) c x r j = setR (setR M r x) c x c j
    rw [setR_at, setR_ne hne, setR_at]
  have hl1 : ∀ x y z, det n (N (fun j => x j + y j) z) = det n (N x z) + det n (N y z) := fun x y z => by
    have := det_lin (n := n) (k := r) (M := N (fun j => x j + y j) z) (P := N x z) (Q := N y z) (c := 1) (d := 1) hr
      (fun i j hi hj hn => by
        show setR (setR M r x) c z i j = setR (setR M r _) c z i j ∧ setR (setR M r y) c z i j = setR (setR M r _) c z i j
        by_cases e : i = c
        · subst e; rw [setR_at, setR_at, setR_at]; exact ⟨rfl, rfl⟩
        · rw [setR_ne e, setR_ne e, setR_ne e, setR_ne hn, setR_ne hn, setR_ne hn]; exact ⟨rfl, rfl⟩)
      (fun j hj => by
        show setR (setR M r _) c z r j = 1 * setR (setR M r x) c z r j + 1 * setR (setR M r y) c z r j
        rw [setR_ne hne, setR_ne hne, setR_ne hne, setR_at, setR_at, setR_at]; omega)
    omega
  have hl2 : ∀ x y z, det n (N z (fun j => x j + y j)) = det n (N z x) + det n (N z y) := fun x y z => by
    have := det_lin (n := n) (k := c) (M := N z (fun j => x j + y j)) (P := N z x) (Q := N z y) (c := 1) (d := 1) hc
      (fun i j hi hj hn => by
        show setR (setR M r z) c x i j = setR (setR M r z) c _ i j ∧ setR (setR M r z) c y i j = setR (setR M r z) c _ i j
        rw [setR_ne hn, setR_ne hn, setR_ne hn]; exact ⟨rfl, rfl⟩)
      (fun j hj => by
        show setR (setR M r z) c _ c j = 1 * setR (setR M r z) c x c j + 1 * setR (setR M r z) c y c j
        rw [setR_at, setR_at, setR_at]; omega)
    omega
  have e1 : det n M = det n (N (M r) (M c)) := det_congr fun i j hi hj => by
    show M i j = setR (setR M r (M r)) c (M c) i j
    by_cases e : i = c
    · subst e; rw [setR_at]
    · rw [setR_ne e]
      by_cases e2 : i = r
      · subst e2; rw [setR_at]
      · rw [setR_ne e2]
  have e2 : det n M' = det n (N (M c) (M r)) := det_congr fun i j hi hj => by
    show M' i j = setR (setR M r (M c)) c (M r) i j
    by_cases e : i = c
    · subst e; rw [setR_at]; exact (h j hj).2
    · rw [setR_ne e]
      by_cases e2 : i = r
      · subst e2; rw [setR_at]; exact (h j hj).1
      · rw [setR_ne e2]; exact ho i j hi hj e2 e
  have h0 := hN0 (fun j => M r j + M c j)
  rw [hl1, hl2, hl2, hN0, hN0] at h0
  omega

/-- A row with one 1. -/
theorem det_unit : ∀ {n a b : Nat} {M : Nat → Nat → Int}, a ≤ n → b ≤ n → (∀ j, j < n + 1 → M a j = if j = b then 1 else 0) →
    det (n + 1) M = sg (a + b) * det n (fun i j => M (sk a i) (sk b j)) := by
  intro n
  induction n with
  | zero =>
    intro a b M ha hb h
    have : a = 0 := by omega
    subst this
    have : b = 0 := by omega
    subst this
    simp [det, sumN, sg, h 0 (by omega)]
  | succ n ih =>
    intro a b M ha hb h
    have hrow : ∀ i, i < n + 2 → i ≠ a → ∃ a', sk i a' = a ∧ a' < n + 1 ∧ a' = if a < i then a else a - 1 := fun i hi hne => by
      unfold sk
      by_cases h : a < i
      · exact ⟨a, by rw [if_pos h], by omega, by rw [if_pos h]⟩
      · exact ⟨a - 1, by rw [if_neg (by omega)]; omega, by omega, by rw [if_neg h]⟩
    rcases b with _ | b
    · rw [det, sumN_one (a := a) (by omega) (fun i hi hne => ?_)]
      · rw [h 0 (by omega), if_pos rfl, Int.mul_one, Nat.add_zero]
        congr 1
      · obtain ⟨a', h1, h2, _⟩ := hrow i hi hne
        rw [det_zero_row (k := a') h2 (fun j hj => by show M (sk i a') (j + 1) = 0; rw [h1, h _ (by omega), if_neg (by omega)])]
        omega
    · rw [det, sumN_skip (a := a) (by omega) (by rw [h 0 (by omega), if_neg (by omega)]; simp), det, ← sumN_mul]
      refine sumN_congr fun i hi => ?_
      obtain ⟨a', h1, h2, h3⟩ := hrow (sk a i) (sk_lt hi) (sk_ne a i)
      rw [ih (a := a') (b := b) (by omega) (by omega) (fun j hj => by
        show M (sk (sk a i) a') (j + 1) = _
        rw [h1, h _ (by omega)]
        by_cases e : j = b
        · rw [if_pos e, if_pos (by omega)]
        · rw [if_neg e, if_neg (by omega)])]
      have e0 : sk (b + 1) 0 = 0 := by unfold sk; rw [if_pos (by omega)]
      have hm : det n (fun x y => M (sk (sk a i) (sk a' x)) (sk b y + 1)) = det n (fun x y => M (sk a (sk i x)) (sk (b + 1) (y + 1))) := det_congr fun x y _ _ => by
        have e1 : sk (sk a i) (sk a' x) = sk a (sk i x) := by
          subst h3
          unfold sk
          repeat' split
          all_goals omega
        have e2 : sk b y + 1 = sk (b + 1) (y + 1) := by unfold sk; split <;> split <;> omega
        rw [e1, e2]
      have hs : sg (sk a i) * sg (a' + b) = sg (a + (b + 1)) * sg i := by
        have hsk : sk a i = if i < a then i else i + 1 := rfl
        by_cases g : i < a
        · rw [if_pos g] at hsk
          rw [hsk] at h3 ⊢
          rw [if_neg (by omega)] at h3
          subst h3
          have : a + (b + 1) = a - 1 + b + 1 + 1 := by omega
          rw [this, sg_succ, sg_succ]; grind
        · rw [if_neg g] at hsk
          rw [hsk] at h3 ⊢
          rw [if_pos (by omega)] at h3
          subst h3
          have : a' + (b + 1) = a' + b + 1 := by omega
          rw [this, sg_succ, sg_succ]; grind
      rw [hm, e0]
      show sg (sk a i) * M (sk a i) 0 * (sg (a' + b) * _) = sg (a + (b + 1)) * (sg i * M (sk a i) 0 * _)
      generalize det n _ = D
      grind
theorem det_unit_diag {n a : Nat} {M : Nat → Nat → Int} (ha : a ≤ n) (h : ∀ j, j < n + 1 → M a j = if j = a then 1 else 0) : det (n + 1) M = det n (fun i j => M (sk a i) (sk a j)) := by
  rw [det_unit ha ha h]
  have : sg (a + a) = 1 := by unfold sg; rw [if_pos (by omega)]
  rw [this]; omega
/-- Nothing below the first number of the first column. -/
theorem det_col0 {n : Nat} {M : Nat → Nat → Int} (h : ∀ i, 0 < i → i < n + 1 → M i 0 = 0) : det (n + 1) M = M 0 0 * det n (fun a b => M (a + 1) (b + 1)) := by
  rw [det, sumN_one (a := 0) (by omega) (fun i hi hne => by rw [h i (by omega) hi]; simp)]
  have e1 : sg 0 = 1 := rfl
  have e2 : ∀ a, sk 0 a = a + 1 := fun a => by unfold sk; rw [if_neg (by omega)]
  rw [e1, Int.one_mul, det_congr (M' := fun a b => M (a + 1) (b + 1)) fun a b _ _ => by rw [e2]]
theorem det_col_zero {n : Nat} {M : Nat → Nat → Int} (h : ∀ i, i < n + 1 → M i 0 = 0) : det (n + 1) M = 0 := by
  rw [det, sumN_zero fun i hi => by rw [h i hi]; simp]
/-- Rows that sum to nothing. -/
theorem det_sum_rows {n : Nat} {M : Nat → Nat → Int} (h : ∀ j, j < n + 1 → sumN (fun i => M i j) (n + 1) = 0) : det (n + 1) M = 0 := by
  have key : ∀ q, q ≤ n → det (n + 1) (setR M 0 (fun j => sumN (fun i => M (i + 1) j) q)) = 0 := by
    intro q
    induction q with
    | zero => intro _; exact det_zero_row (k := 0) (by omega) fun j _ => by rw [setR_at]; rfl
    | succ q ih =>
      intro hq
      have h1 := det_lin (n := n + 1) (k := 0) (M := setR M 0 (fun j => sumN (fun i => M (i + 1) j) (q + 1))) (P := setR M 0 (fun j => sumN (fun i => M (i + 1) j) q)) (Q := setR M 0 (M (q + 1))) (c := 1) (d := 1) (by omega)
        (fun i j hi hj hn => by rw [setR_ne hn, setR_ne hn, setR_ne hn]; exact ⟨rfl, rfl⟩) (fun j hj => by rw [setR_at, setR_at, setR_at, sumN]; omega)
      have h2 := det_eq_rows (n := n + 1) (i := 0) (j := q + 1) (M := setR M 0 (M (q + 1))) (by omega) (by omega) (by omega) (fun c hc => by rw [setR_at, setR_ne (by omega)])
      rw [ih (by omega), h2] at h1
      omega
  have h1 := det_lin (n := n + 1) (k := 0) (M := M) (P := setR M 0 (fun j => sumN (fun i => M (i + 1) j) n)) (Q := M) (c := -1) (d := 0) (by omega)
    (fun i j hi hj hn => ⟨by rw [setR_ne hn], rfl⟩) (fun j hj => by
      have := h j hj
      rw [sumN_first] at this
      rw [setR_at]; omega)
  rw [key n (Nat.le_refl _)] at h1
  omega
/-- Multiples of the first row added to the others. -/
theorem det_elim {n : Nat} {M : Nat → Nat → Int} (f : Nat → Int) : ∀ q, q ≤ n → det (n + 1) (fun i j => if 0 < i ∧ i ≤ q then M i j + f i * M 0 j else M i j) = det (n + 1) M := by
  intro q
  induction q with
  | zero => intro _; exact det_congr fun i j _ _ => by rw [if_neg (by omega)]
  | succ q ih =>
    intro hq
    rw [← ih (by omega)]
    refine det_addrow (r := q + 1) (c := 0) (d := f (q + 1)) (by omega) (by omega) (by omega) (fun i j hi hj hne => ?_) (fun j hj => ?_)
    · by_cases h : 0 < i ∧ i ≤ q
      · rw [if_pos h, if_pos (by omega)]
      · rw [if_neg h, if_neg (by omega)]
    · rw [if_pos (by omega), if_neg (by omega), if_neg (by omega)]

/-- Two numbers with one remainder. -/
def Cg (p : Nat) (a b : Int) : Prop := ∃ k : Int, a = b + k * p
theorem Cg.refl {p : Nat} (a : Int) : Cg p a a := ⟨0, by omega⟩
theorem Cg.symm {p : Nat} {a b : Int} (h : Cg p a b) : Cg p b a := by obtain ⟨k, h⟩ := h; exact ⟨-k, by grind⟩
theorem Cg.trans {p : Nat} {a b c : Int} (h : Cg p a b) (h2 : Cg p b c) : Cg p a c := by obtain ⟨k, h⟩ := h; obtain ⟨l, h2⟩ := h2; exact ⟨k + l, by grind⟩
theorem Cg.add {p : Nat} {a b c d : Int} (h : Cg p a b) (h2 : Cg p c d) : Cg p (a + c) (b + d) := by obtain ⟨k, h⟩ := h; obtain ⟨l, h2⟩ := h2; exact ⟨k + l, by grind⟩
theorem Cg.mul {p : Nat} {a b c d : Int} (h : Cg p a b) (h2 : Cg p c d) : Cg p (a * c) (b * d) := by
  obtain ⟨k, h⟩ := h; obtain ⟨l, h2⟩ := h2; exact ⟨k * d + b * l + k * l * p, by subst h h2; grind⟩
theorem Cg.neg {p : Nat} {a b : Int} (h : Cg p a b) : Cg p (-a) (-b) := by obtain ⟨k, h⟩ := h; exact ⟨-k, by grind⟩
theorem Cg.of_eq {p : Nat} {a b : Int} (h : a = b) : Cg p a b := by subst h; exact Cg.refl _
theorem Cg.emod {p : Nat} (a : Int) : Cg p (a % p) a := ⟨-(a / p), by have := Int.mul_ediv_add_emod a p; grind⟩
theorem Cg.mod {p : Nat} (a : Nat) : Cg p ((a % p : Nat) : Int) (a : Int) := by have := Cg.emod (p := p) (a : Int); rwa [← Int.natCast_emod] at this
theorem Cg.self {p : Nat} : Cg p (p : Int) 0 := ⟨1, by omega⟩
theorem Cg.eq {p a b : Nat} (h : Cg p (a : Int) (b : Int)) (ha : a < p) (hb : b < p) : a = b := by
  obtain ⟨k, h⟩ := h
  have e : ((a : Int)) % p = (b : Int) % p := by rw [h, Int.add_mul_emod_self_right]
  rw [Int.emod_eq_of_lt (by omega) (by omega), Int.emod_eq_of_lt (by omega) (by omega)] at e
  omega
theorem Cg.sumN {p : Nat} {f g : Nat → Int} {n : Nat} (h : ∀ i, i < n → Cg p (f i) (g i)) : Cg p (sumN f n) (sumN g n) := by
  induction n with
  | zero => exact Cg.refl _
  | succ n ih => exact (ih fun i hi => h i (by omega)).add (h n (by omega))
theorem Cg.det {p : Nat} : ∀ {n : Nat} {M M' : Nat → Nat → Int}, (∀ i j, i < n → j < n → Cg p (M i j) (M' i j)) → Cg p (det n M) (det n M') := by
  intro n
  induction n with
  | zero => intro M M' _; exact Cg.refl _
  | succ n ih =>
    intro M M' h
    rw [Go.Proofs.Ytpfbichomgojoaa.det, Go.Proofs.Ytpfbichomgojoaa.det]
    exact Cg.sumN fun i hi => ((Cg.refl _).mul (h i 0 hi (by omega))).mul (ih fun a b ha hb => h _ _ (sk_lt ha) (by omega))

end Go.Proofs.Ytpfbichomgojoaa
