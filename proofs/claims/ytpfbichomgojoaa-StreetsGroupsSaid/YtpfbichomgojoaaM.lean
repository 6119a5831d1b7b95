/- The plain functions on lists that the program and the reference compute: no program in sight. -/
namespace Go.Proofs.Ytpfbichomgojoaa

/-- A street as it lies in memory. -/
structure St where
  (a b w : Int)
  deriving DecidableEq, Inhabited
/-- A street of a net. -/
structure Ed where
  (a b w : Nat)
  deriving DecidableEq, Inhabited
def Ed.st (e : Ed) : St := ⟨e.a, e.b, e.w⟩

def nat_ (xs : List Nat) (i : Nat) : Nat := xs.getD i 0
def int_ (xs : List Int) (i : Nat) : Int := xs.getD i 0
def st_ (xs : List St) (i : Nat) : St := xs.getD i ⟨0, 0, 0⟩
def ed_ (xs : List Ed) (i : Nat) : Ed := xs.getD i ⟨0, 0, 0⟩
def ew (es : List Ed) (i : Nat) : Nat := (ed_ es i).w

theorem nat_get {xs : List Nat} {k : Nat} (h : k < xs.length) : nat_ xs k = xs[k] := by simp [nat_, List.getD_eq_getElem?_getD, List.getElem?_eq_getElem h]
theorem int_get {xs : List Int} {k : Nat} (h : k < xs.length) : int_ xs k = xs[k] := by simp [int_, List.getD_eq_getElem?_getD, List.getElem?_eq_getElem h]
theorem st_get {xs : List St} {k : Nat} (h : k < xs.length) : st_ xs k = xs[k] := by simp [st_, List.getD_eq_getElem?_getD, List.getElem?_eq_getElem h]
theorem ed_get {xs : List Ed} {k : Nat} (h : k < xs.length) : ed_ xs k = xs[k] := by simp [ed_, List.getD_eq_getElem?_getD, List.getElem?_eq_getElem h]
theorem nat_mem {xs : List Nat} {k : Nat} (h : k < xs.length) : nat_ xs k ∈ xs := by rw [nat_get h]; exact List.getElem_mem h
theorem int_mem {xs : List Int} {k : Nat} (h : k < xs.length) : int_ xs k ∈ xs := by rw [int_get h]; exact List.getElem_mem h
theorem ed_mem {xs : List Ed} {k : Nat} (h : k < xs.length) : ed_ xs k ∈ xs := by rw [ed_get h]; exact List.getElem_mem h
theorem take_nat {xs : List Nat} {k : Nat} (h : k < xs.length) : xs.take (k + 1) = xs.take k ++ [nat_ xs k] := by
  rw [List.take_succ_eq_append_getElem h, nat_get h]
theorem take_int {xs : List Int} {k : Nat} (h : k < xs.length) : xs.take (k + 1) = xs.take k ++ [int_ xs k] := by
  rw [List.take_succ_eq_append_getElem h, int_get h]
theorem take_ed {xs : List Ed} {k : Nat} (h : k < xs.length) : xs.take (k + 1) = xs.take k ++ [ed_ xs k] := by
  rw [List.take_succ_eq_append_getElem h, ed_get h]
theorem foldl_take_nat {α : Type} {f : α → Nat → α} {a : α} {xs : List Nat} {k : Nat} (h : k < xs.length) :
    (xs.take (k + 1)).foldl f a = f ((xs.take k).foldl f a) (nat_ xs k) := by rw [take_nat h, List.foldl_append]; rfl
theorem foldl_range {α : Type} {f : α → Nat → α} {a : α} {k : Nat} : (List.range (k + 1)).foldl f a = f ((List.range k).foldl f a) k := by
  rw [List.range_succ, List.foldl_append]; rfl

/-- Whether a number is in a list. -/
def hasI (xs : List Int) (x : Int) : Bool := xs.contains x
theorem hasI_yes {xs : List Int} {k : Nat} {x : Int} (h : k < xs.length) (he : int_ xs k = x) : hasI xs x = true := by
  unfold hasI; rw [List.contains_iff_mem, ← he]; exact int_mem h
theorem hasI_no {xs : List Int} {k : Nat} {x : Int} (h : k < xs.length) (hk : hasI (xs.take k) x = false) (he : ¬ int_ xs k = x) : hasI (xs.take (k + 1)) x = false := by
  unfold hasI at hk ⊢
  rw [take_int h]
  rw [← Bool.not_eq_true, List.contains_iff_mem] at hk ⊢
  simp only [List.mem_append, List.mem_singleton, not_or]
  exact ⟨hk, fun e => he e.symm⟩

/-- A net: n vertices, streets between two different ones, weights to 1000. -/
structure Net (n : Nat) (es : List Ed) : Prop where
  n1 : 1 ≤ n
  n16 : n ≤ 16
  len : es.length ≤ 60
  ends : ∀ e ∈ es, e.a < n ∧ e.b < n ∧ e.a ≠ e.b ∧ e.w ≤ 1000

/-- The groups after two of them are joined. -/
def joinL (g : List Nat) (a b : Nat) : List Nat := g.map fun x => if x = max (nat_ g a) (nat_ g b) then min (nat_ g a) (nat_ g b) else x

/-- One more street into the order. -/
def insL (es : List Ed) (out : List Nat) (i : Nat) : List Nat :=
  out.takeWhile (fun j => decide (ew es j ≤ ew es i)) ++ i :: out.dropWhile (fun j => decide (ew es j ≤ ew es i))
/-- The order of the first k streets. -/
def ordK (es : List Ed) (k : Nat) : List Nat := (List.range k).foldl (insL es) []
def ordL (es : List Ed) : List Nat := ordK es es.length
theorem insL_length (es : List Ed) (out : List Nat) (i : Nat) : (insL es out i).length = out.length + 1 := by
  unfold insL
  have := congrArg List.length (List.takeWhile_append_dropWhile (p := fun j => decide (ew es j ≤ ew es i)) (l := out))
  simp only [List.length_append, List.length_cons] at this ⊢
  omega
theorem insL_mem (es : List Ed) (out : List Nat) (i x : Nat) : x ∈ insL es out i ↔ x = i ∨ x ∈ out := by
  unfold insL
  have h := List.takeWhile_append_dropWhile (p := fun j => decide (ew es j ≤ ew es i)) (l := out)
  conv => rhs; rw [← h]
  simp only [List.mem_append, List.mem_cons]
  constructor
  · rintro (h | h | h) <;> simp [h]
  · rintro (h | h | h) <;> simp [h]
theorem ordK_succ (es : List Ed) (k : Nat) : ordK es (k + 1) = insL es (ordK es k) k := foldl_range
theorem ordK_length (es : List Ed) (k : Nat) : (ordK es k).length = k := by
  induction k with
  | zero => rfl
  | succ k ih => rw [ordK_succ, insL_length, ih]
theorem ordK_mem (es : List Ed) (k x : Nat) : x ∈ ordK es k ↔ x < k := by
  induction k with
  | zero => simp [ordK]
  | succ k ih => rw [ordK_succ, insL_mem, ih]; omega
theorem insL_at (es : List Ed) (out : List Nat) (i k : Nat) (hk : k ≤ out.length) (hlt : ∀ j, j < k → ew es (nat_ out j) ≤ ew es i)
    (hge : k = out.length ∨ ¬ ew es (nat_ out k) ≤ ew es i) : insL es out i = out.take k ++ [i] ++ out.drop k := by
  have key : ∀ (out : List Nat) (k : Nat), k ≤ out.length → (∀ j, j < k → ew es (nat_ out j) ≤ ew es i) → (k = out.length ∨ ¬ ew es (nat_ out k) ≤ ew es i) →
      out.takeWhile (fun j => decide (ew es j ≤ ew es i)) = out.take k ∧ out.dropWhile (fun j => decide (ew es j ≤ ew es i)) = out.drop k := by
    intro out
    induction out with
    | nil => intro k _ _ _; simp
    | cons x out ih =>
      intro k hk hlt hge
      cases k with
      | zero =>
        rcases hge with h | h
        · simp at h
        · have hx : ¬ ew es x ≤ ew es i := h
          simp [hx]
      | succ k =>
        have hx : ew es x ≤ ew es i := hlt 0 (by omega)
        obtain ⟨h1, h2⟩ := ih k (by simp at hk; omega) (fun j hj => hlt (j + 1) (by omega)) (by
          rcases hge with h | h
          · left; simp at h; omega
          · right; exact h)
        simp [hx, h1, h2]
  obtain ⟨h1, h2⟩ := key out k hk hlt hge
  unfold insL
  rw [h1, h2]
  simp

def bool_ (bs : List Bool) (i : Nat) : Bool := bs.getD i false

theorem joinL_length (g : List Nat) (a b : Nat) : (joinL g a b).length = g.length := by simp [joinL]
theorem nat_lt_of {g : List Nat} {B : Nat} (h : ∀ x ∈ g, x < B) (hB : 0 < B) (i : Nat) : nat_ g i < B := by
  by_cases hi : i < g.length
  · exact h _ (nat_mem hi)
  · simp only [nat_, List.getD_eq_getElem?_getD]; rw [List.getElem?_eq_none (by omega)]; exact hB
theorem joinL_lt {g : List Nat} {B : Nat} (h : ∀ x ∈ g, x < B) (hB : 0 < B) (a b : Nat) : ∀ x ∈ joinL g a b, x < B := by
  intro x hx
  simp only [joinL, List.mem_map] at hx
  obtain ⟨y, hy, rfl⟩ := hx
  have h1 := nat_lt_of h hB a
  have h2 := h y hy
  split <;> omega
theorem nat_join {g : List Nat} {v : Nat} (a b : Nat) (hv : v < g.length) :
    nat_ (joinL g a b) v = if nat_ g v = max (nat_ g a) (nat_ g b) then min (nat_ g a) (nat_ g b) else nat_ g v := by
  rw [nat_get (by rw [joinL_length]; exact hv), nat_get hv]; simp only [joinL, List.getElem_map]

/-- One street more is taken, if its ends are not connected yet. -/
def takS (es : List Ed) (s : List Nat × List Bool) (k : Nat) : List Nat × List Bool :=
  if nat_ s.1 (ed_ es k).a = nat_ s.1 (ed_ es k).b then s else (joinL s.1 (ed_ es k).a (ed_ es k).b, s.2.set k true)
def takI (n : Nat) (es : List Ed) : List Nat × List Bool := (List.range n, List.replicate es.length false)
def takF (n : Nat) (es : List Ed) (order : List Nat) : List Nat × List Bool := order.foldl (takS es) (takI n es)
def takL (n : Nat) (es : List Ed) (order : List Nat) : List Nat := (List.range es.length).filter (fun i => bool_ (takF n es order).2 i)
def takG (n : Nat) (es : List Ed) (order : List Nat) : List Nat := (takF n es order).1
theorem takF_inv (n : Nat) (es : List Ed) (order : List Nat) (hn : 0 < n) :
    (takF n es order).1.length = n ∧ (∀ x ∈ (takF n es order).1, x < n) ∧ (takF n es order).2.length = es.length := by
  unfold takF
  have key : ∀ (order : List Nat) (s : List Nat × List Bool), s.1.length = n ∧ (∀ x ∈ s.1, x < n) ∧ s.2.length = es.length →
      (order.foldl (takS es) s).1.length = n ∧ (∀ x ∈ (order.foldl (takS es) s).1, x < n) ∧ (order.foldl (takS es) s).2.length = es.length := by
    intro order
    induction order with
    | nil => intro s h; exact h
    | cons k ks ih =>
      intro s h
      refine ih _ ?_
      unfold takS
      split
      · exact h
      · exact ⟨by rw [joinL_length]; exact h.1, joinL_lt h.2.1 hn _ _, by simpa using h.2.2⟩
  exact key order _ ⟨by simp [takI], fun x hx => by simpa [takI] using hx, by simp [takI]⟩
theorem takF_succ (n : Nat) (es : List Ed) (order : List Nat) (k : Nat) (h : k < order.length) : takF n es (order.take (k + 1)) = takS es (takF n es (order.take k)) (nat_ order k) := foldl_take_nat h
theorem takS_no {es : List Ed} {s : List Nat × List Bool} {k : Nat} (h : nat_ s.1 (ed_ es k).a = nat_ s.1 (ed_ es k).b) : takS es s k = s := if_pos h
theorem takS_yes {es : List Ed} {s : List Nat × List Bool} {k : Nat} (h : ¬ nat_ s.1 (ed_ es k).a = nat_ s.1 (ed_ es k).b) : takS es s k = (joinL s.1 (ed_ es k).a (ed_ es k).b, s.2.set k true) := if_neg h
theorem filter_range_succ (p : Nat → Bool) (k : Nat) : (List.range (k + 1)).filter p = (List.range k).filter p ++ (if p k then [k] else []) := by
  rw [List.range_succ, List.filter_append]
  cases h : p k <;> simp [h]

/-- The first tree, and whether the net is connected. -/
def firstL (n : Nat) (es : List Ed) : List Nat := takL n es (ordL es)
def firstOk (n : Nat) (es : List Ed) : Bool := decide ((firstL n es).length + 1 = n)
/-- The sum of weights. -/
def wsum (es : List Ed) (l : List Nat) : Nat := (l.map (ew es)).sum
theorem wsum_append (es : List Ed) (l l' : List Nat) : wsum es (l ++ l') = wsum es l + wsum es l' := by simp [wsum]
theorem wsum_take {es : List Ed} {l : List Nat} {k : Nat} (h : k < l.length) : wsum es (l.take (k + 1)) = wsum es (l.take k) + ew es (nat_ l k) := by
  rw [take_nat h, wsum_append]; simp [wsum]
theorem ew_le {n : Nat} {es : List Ed} (hn : Net n es) (i : Nat) : ew es i ≤ 1000 := by
  by_cases h : i < es.length
  · exact (hn.ends _ (ed_mem h)).2.2.2
  · simp only [ew, ed_, List.getD_eq_getElem?_getD]; rw [List.getElem?_eq_none (by omega)]; simp
theorem wsum_le {n : Nat} {es : List Ed} (hn : Net n es) (l : List Nat) : wsum es l ≤ l.length * 1000 := by
  induction l with
  | nil => simp [wsum]
  | cons x l ih =>
    have h := ew_le hn x
    have e : wsum es (x :: l) = ew es x + wsum es l := by simp [wsum]
    rw [e, List.length_cons, Nat.succ_mul]; omega
theorem takL_length_le (n : Nat) (es : List Ed) (o : List Nat) : (takL n es o).length ≤ es.length := by
  unfold takL
  have := List.length_filter_le (fun i => bool_ (takF n es o).2 i) (List.range es.length)
  rw [List.length_range] at this; exact this
theorem takL_lt {n : Nat} {es : List Ed} {o : List Nat} : ∀ x ∈ takL n es o, x < es.length := by
  intro x hx
  unfold takL at hx
  have := (List.mem_filter.1 hx).1
  rwa [List.mem_range] at this

/-- Whether the number at place i is a position and greater than the one before. -/
def okAt (m : Nat) (xs : List Int) (i : Nat) : Bool := decide (0 ≤ int_ xs i) && decide (int_ xs i < m) && (decide (i = 0) || decide (int_ xs (i - 1) < int_ xs i))
def ascI (m : Nat) (xs : List Int) : Bool := (List.range xs.length).all (okAt m xs)
/-- Whether a list of numbers is a spanning tree. -/
def isTreeI (n : Nat) (es : List Ed) (xs : List Int) : Bool := ascI es.length xs && decide (xs.length + 1 = n) && decide ((takL n es (xs.map Int.toNat)).length + 1 = n)
theorem ascI_no {m : Nat} {xs : List Int} {i : Nat} (hi : i < xs.length) (h : okAt m xs i = false) : ascI m xs = false := by
  unfold ascI
  rw [← Bool.not_eq_true, List.all_eq_true]
  intro hall
  rw [hall i (by simpa using hi)] at h; cases h
theorem ascI_yes {m : Nat} {xs : List Int} (h : ∀ i, i < xs.length → okAt m xs i = true) : ascI m xs = true := by
  unfold ascI
  rw [List.all_eq_true]
  intro i hi
  exact h i (by simpa using hi)
theorem okAt_lt {m : Nat} {xs : List Int} {i : Nat} (h : okAt m xs i = true) : 0 ≤ int_ xs i ∧ int_ xs i < m := by
  unfold okAt at h
  simp only [Bool.and_eq_true, decide_eq_true_eq] at h
  exact h.1
theorem toNat_back {m : Nat} {xs : List Int} (h : ∀ i, i < xs.length → okAt m xs i = true) : xs = (xs.map Int.toNat).map (fun x : Nat => (x : Int)) ∧ ∀ x ∈ xs.map Int.toNat, x < m := by
  have hm : ∀ x ∈ xs, 0 ≤ x ∧ x < m := by
    intro x hx
    obtain ⟨i, hi, rfl⟩ := List.mem_iff_getElem.1 hx
    have := okAt_lt (h i hi)
    rwa [int_get hi] at this
  constructor
  · rw [List.map_map]
    conv => lhs; rw [← List.map_id xs]
    apply List.map_congr_left
    intro x hx
    have := (hm x hx).1
    simp; omega
  · intro x hx
    simp only [List.mem_map] at hx
    obtain ⟨y, hy, rfl⟩ := hx
    have := hm y hy
    omega

/-- One more number of a list in which 'out' is replaced by 'inn'. -/
def swS (out inn : Nat) (s : List Nat × Bool) (x : Nat) : List Nat × Bool :=
  let s1 := if !s.2 && decide (inn < x) then (s.1 ++ [inn], true) else s
  if x = out then s1 else (s1.1 ++ [x], s1.2)
def swF (out inn : Nat) (l : List Nat) : List Nat × Bool := l.foldl (swS out inn) ([], false)
def swL (l : List Nat) (out inn : Nat) : List Nat := if (swF out inn l).2 then (swF out inn l).1 else (swF out inn l).1 ++ [inn]
theorem swF_succ (out inn : Nat) (l : List Nat) (k : Nat) (h : k < l.length) : swF out inn (l.take (k + 1)) = swS out inn (swF out inn (l.take k)) (nat_ l k) := foldl_take_nat h

/-- The first weight at which two vertices are connected. -/
def rnarGo (es : List Ed) (u v : Nat) : List Nat → List Nat → Option Nat
  | [], _ => none
  | k :: ks, g => if nat_ (joinL g (ed_ es k).a (ed_ es k).b) u = nat_ (joinL g (ed_ es k).a (ed_ es k).b) v then some (ew es k) else rnarGo es u v ks (joinL g (ed_ es k).a (ed_ es k).b)
def rnar (n : Nat) (es : List Ed) (u v : Nat) : Option Nat := if u = v then some 0 else rnarGo es u v (ordL es) (List.range n)
theorem drop_nat {xs : List Nat} {k : Nat} (h : k < xs.length) : xs.drop k = nat_ xs k :: xs.drop (k + 1) := by
  rw [nat_get h]; exact List.drop_eq_getElem_cons h
def someI : Option Nat → Int
  | some x => x
  | none => 0
theorem ordL_length (es : List Ed) : (ordL es).length = es.length := ordK_length _ _
theorem ordL_mem (es : List Ed) (x : Nat) : x ∈ ordL es ↔ x < es.length := ordK_mem _ _ _

def natI (l : List Nat) : List Int := l.map (fun x : Nat => (x : Int))
def hasN (l : List Nat) (x : Nat) : Bool := hasI (natI l) (x : Int)
def isTreeN (n : Nat) (es : List Ed) (l : List Nat) : Bool := isTreeI n es (natI l)
theorem swL_length (l : List Nat) (out inn : Nat) : (swL l out inn).length ≤ 2 * l.length + 1 := by
  have key : ∀ (l : List Nat) (s : List Nat × Bool), (l.foldl (swS out inn) s).1.length ≤ s.1.length + 2 * l.length := by
    intro l
    induction l with
    | nil => intro s; simp
    | cons x l ih =>
      intro s
      refine Nat.le_trans (ih _) ?_
      have : (swS out inn s x).1.length ≤ s.1.length + 2 := by
        unfold swS
        dsimp only
        split <;> split <;> (try simp only [List.length_append, List.length_cons, List.length_nil]) <;> omega
      simp only [List.length_cons]; omega
  have := key l ([], false)
  unfold swL swF
  split
  · simp at this; omega
  · simp at this ⊢; omega
theorem mem_swL {l : List Nat} {out inn x : Nat} (h : x ∈ swL l out inn) : x = inn ∨ x ∈ l := by
  have key : ∀ (l : List Nat) (s : List Nat × Bool), x ∈ (l.foldl (swS out inn) s).1 → x = inn ∨ x ∈ l ∨ x ∈ s.1 := by
    intro l
    induction l with
    | nil => intro s h; exact .inr (.inr h)
    | cons y l ih =>
      intro s h
      rcases ih _ h with h | h | h
      · exact .inl h
      · exact .inr (.inl (List.mem_cons_of_mem _ h))
      · unfold swS at h
        dsimp only at h
        have hm : x ∈ s.1 ++ [inn] ++ [y] := by
          split at h <;> split at h <;> (try simp only [List.mem_append, List.mem_cons, List.not_mem_nil, or_false] at h ⊢) <;> (try simp [h]) <;> (rcases h with h | h <;> simp [h])
        simp only [List.mem_append, List.mem_cons, List.not_mem_nil, or_false] at hm
        rcases hm with (hm | hm) | hm
        · exact .inr (.inr hm)
        · exact .inl hm
        · exact .inr (.inl (by rw [hm]; exact List.mem_cons_self ..))
  unfold swL swF at h
  split at h
  · rcases key l _ h with h | h | h
    · exact .inl h
    · exact .inr h
    · simp at h
  · simp only [List.mem_append, List.mem_singleton] at h
    rcases h with h | h
    · rcases key l _ h with h | h | h
      · exact .inl h
      · exact .inr h
      · simp at h
    · exact .inl h
def farN : Nat := 1099511627776
/-- The least weight of the trees that come of exchanging one street of the first tree for street i. -/
def secI (n : Nat) (es : List Ed) (tree : List Nat) (i : Nat) (best x : Nat) : Nat :=
  if !hasN tree i && isTreeN n es (swL tree x i) then min best (wsum es (swL tree x i)) else best
def secO (n : Nat) (es : List Ed) (tree : List Nat) (best i : Nat) : Nat := tree.foldl (secI n es tree i) best
def secN (n : Nat) (es : List Ed) : Nat := if firstOk n es then (List.range es.length).foldl (secO n es (firstL n es)) farN else farN

/-- The first streets of a tree in an order, at most q of them. -/
def keepGo (tree : List Nat) (q : Nat) : List Nat → List Nat → List Nat
  | [], acc => acc
  | o :: os, acc => if acc.length < q then keepGo tree q os (if hasN tree o then acc ++ [o] else acc) else acc
def keepL (n : Nat) (es : List Ed) (k : Nat) : List Nat := keepGo (firstL n es) (n - k) (ordL es) []
/-- The smaller of two numbers, where a negative first one stands for none. -/
def minB (best d : Int) : Int := if best < 0 ∨ d < best then d else best
/-- The least weight between two groups, so far. -/
def betw (es : List Ed) (g : List Nat) (best : Int) (i : Nat) : Int := if nat_ g (ed_ es i).a ≠ nat_ g (ed_ es i).b then minB best (ew es i) else best
def betwF (es : List Ed) (g : List Nat) : Int := (List.range es.length).foldl (betw es g) (-1)
def rgrpG (n : Nat) (es : List Ed) (k : Nat) : List Nat := takG n es (keepL n es k)
theorem minB_bd {b d : Int} (hb : -1 ≤ b ∧ b ≤ 1000) (hd : -1 ≤ d ∧ d ≤ 1000) : -1 ≤ minB b d ∧ minB b d ≤ 1000 := by
  unfold minB; split <;> omega
theorem betw_bd {n : Nat} {es : List Ed} (hn : Net n es) (g : List Nat) (l : List Nat) (b : Int) (hb : -1 ≤ b ∧ b ≤ 1000) : -1 ≤ l.foldl (betw es g) b ∧ l.foldl (betw es g) b ≤ 1000 := by
  induction l generalizing b with
  | nil => exact hb
  | cons i l ih =>
    refine ih _ ?_
    unfold betw
    split
    · exact minB_bd hb (by have := ew_le hn i; omega)
    · exact hb

/-- The slack of a street of the first tree (exchange it for k), and of another one (exchange x for it). -/
def slkA (n : Nat) (es : List Ed) (tree : List Nat) (i : Nat) (best : Int) (k : Nat) : Int :=
  if !hasN tree k && isTreeN n es (swL tree i k) then minB best ((ew es k : Int) - (ew es i : Int)) else best
def slkB (n : Nat) (es : List Ed) (tree : List Nat) (i : Nat) (best : Int) (x : Nat) : Int :=
  if isTreeN n es (swL tree x i) then minB best ((ew es i : Int) - (ew es x : Int)) else best
def slkAt (n : Nat) (es : List Ed) (tree : List Nat) (i : Nat) : Int :=
  if hasN tree i then (List.range es.length).foldl (slkA n es tree i) (-1) else tree.foldl (slkB n es tree i) (-1)
def slkR (n : Nat) (es : List Ed) : List Int := (List.range es.length).map (slkAt n es (firstL n es))
theorem minB_bd' {b d : Int} (hb : -1000 ≤ b ∧ b ≤ 1000) (hd : -1000 ≤ d ∧ d ≤ 1000) : -1000 ≤ minB b d ∧ minB b d ≤ 1000 := by
  unfold minB; split <;> omega
theorem slkA_bd {n : Nat} {es : List Ed} (hn : Net n es) (tree : List Nat) (i : Nat) (l : List Nat) (b : Int) (hb : -1000 ≤ b ∧ b ≤ 1000) : -1000 ≤ l.foldl (slkA n es tree i) b ∧ l.foldl (slkA n es tree i) b ≤ 1000 := by
  induction l generalizing b with
  | nil => exact hb
  | cons k l ih =>
    refine ih _ ?_
    have h1 := ew_le hn i
    have h2 := ew_le hn k
    unfold slkA
    split
    · exact minB_bd' hb (by omega)
    · exact hb
theorem slkB_bd {n : Nat} {es : List Ed} (hn : Net n es) (tree : List Nat) (i : Nat) (l : List Nat) (b : Int) (hb : -1000 ≤ b ∧ b ≤ 1000) : -1000 ≤ l.foldl (slkB n es tree i) b ∧ l.foldl (slkB n es tree i) b ≤ 1000 := by
  induction l generalizing b with
  | nil => exact hb
  | cons k l ih =>
    refine ih _ ?_
    have h1 := ew_le hn i
    have h2 := ew_le hn k
    unfold slkB
    split
    · exact minB_bd' hb (by omega)
    · exact hb

end Go.Proofs.Ytpfbichomgojoaa
