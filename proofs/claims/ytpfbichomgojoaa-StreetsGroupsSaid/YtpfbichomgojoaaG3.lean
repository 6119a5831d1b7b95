/- Plain: what the program answers is what the reference answers: trees, slack, the second weight. -/
import Derived.Test.YtpfbichomgojoaaP21
import Derived.Test.YtpfbichomgojoaaG2
import Derived.Test.YtpfbichomgojoaaW6
namespace Go.Proofs.Ytpfbichomgojoaa

section
variable {n : Nat} {es : List Ed}
theorem srtN_sorted {l : List Nat} (h : l.Nodup) : (srtN l).Pairwise (· < ·) := by
  have h1 : (srtN l).Pairwise (fun a b => decide (a ≤ b) = true) := List.pairwise_mergeSort (le := fun x y => decide (x ≤ y)) (by intro a b c; simp; omega) (by intro a b; simp; omega) l
  have h2 : (srtN l).Nodup := (srtN_perm l).nodup_iff.2 h
  exact (h1.and h2).imp fun {a b} h => by
    have := h.1
    have := h.2
    simp only [decide_eq_true_eq] at *
    omega
theorem srt_first (hn : Net n es) : srtN (treeP n es) = firstL n es :=
  sorted_unique (R := (· < ·)) Nat.lt_irrefl (fun _ _ _ => Nat.lt_trans) _ _ (srtN_sorted (kruT_nd (hn.Ends ordL_lt))) takL_asc fun x => by
    rw [(srtN_perm _).mem_iff, mem_firstL]; rfl
theorem okP_eq (hn : Net n es) : okP n es = firstOk n es := by
  unfold okP firstOk
  rw [firstL_length hn]; rfl
theorem treeP_wsum (hn : Net n es) : wsum es (treeP n es) = wsum es (firstL n es) := by rw [← srt_first hn]; exact (wsum_perm (srtN_perm _)).symm
theorem mem_treeP {x : Nat} : x ∈ treeP n es ↔ x ∈ firstL n es := mem_firstL.symm
theorem isTreeP_eq (hn : Net n es) (xs : List Int) : isTreeP n es xs = isTreeI n es xs := by
  unfold isTreeP isTreeI
  cases h : ascI es.length xs with
  | false => rfl
  | true =>
    have := (toNat_back (ascI_iff.1 h)).2
    rw [takL_length hn this]; rfl
theorem insN_iff (hn : Net n es) {T : List Nat} (hT : ∀ x ∈ T, x < es.length) {x y : Nat} (hx : x ∈ T) : y ∈ insN n es T x ↔ Exch es T x y := by
  unfold insN insB Exch
  rw [List.mem_filter, List.mem_range]
  simp only [Bool.and_eq_true, Bool.not_eq_true', decide_eq_true_eq]
  have hd : delN T x = dl T x := rfl
  rw [hd]
  have hE : Ends n es (dl T x) := hn.Ends fun z hz => hT z (mem_dl.1 hz).1
  constructor
  · rintro ⟨h1, h2, h3⟩
    obtain ⟨ha, hb⟩ := ed_ends hn h1
    exact ⟨hx, h1, (fun h => by rw [hasN_iff.2 h] at h2; cases h2), fun hc => h3 ((cn_iff hE ha hb).2 hc)⟩
  · rintro ⟨_, h1, h2, h3⟩
    obtain ⟨ha, hb⟩ := ed_ends hn h1
    exact ⟨h1, by rw [Bool.eq_false_iff]; intro h; exact h2 (hasN_iff.1 h), fun hc => h3 ((cn_iff hE ha hb).1 hc)⟩

/-- The least of some numbers, or -1. -/
def MinOf (p : Int → Prop) (v : Int) : Prop := (v = -1 ∧ ∀ d, ¬ p d) ∨ (p v ∧ ∀ d, p d → v ≤ d)
theorem MinOf.uniq {p : Int → Prop} {v v' : Int} (h : MinOf p v) (h' : MinOf p v') : v = v' := by
  rcases h with ⟨h1, h2⟩ | ⟨h1, h2⟩ <;> rcases h' with ⟨g1, g2⟩ | ⟨g1, g2⟩
  · omega
  · exact absurd g1 (h2 _)
  · exact absurd h1 (g2 _)
  · have := h2 _ g1; have := g2 _ h1; omega
theorem MinOf.congr {p q : Int → Prop} {v : Int} (h : MinOf p v) (hpq : ∀ d, p d ↔ q d) : MinOf q v := by
  rcases h with ⟨h1, h2⟩ | ⟨h1, h2⟩
  · exact .inl ⟨h1, fun d hd => h2 d ((hpq d).2 hd)⟩
  · exact .inr ⟨(hpq v).1 h1, fun d hd => h2 d ((hpq d).2 hd)⟩
theorem MinOf.step {p : Int → Prop} {v d : Int} (h : MinOf p v) (hp : ∀ x, p x → 0 ≤ x) (_ : 0 ≤ d) : MinOf (fun x => p x ∨ x = d) (minB v d) := by
  unfold minB
  rcases h with ⟨h1, h2⟩ | ⟨h1, h2⟩
  · rw [if_pos (by omega)]
    exact .inr ⟨.inr rfl, fun x hx => by rcases hx with hx | hx; exact absurd hx (h2 x); omega⟩
  · have := hp v h1
    by_cases hlt : d < v
    · rw [if_pos (by omega)]
      exact .inr ⟨.inr rfl, fun x hx => by rcases hx with hx | hx; have := h2 x hx; omega; omega⟩
    · rw [if_neg (by omega)]
      exact .inr ⟨.inl h1, fun x hx => by rcases hx with hx | hx; exact h2 x hx; omega⟩
theorem MinOf.fold {c : Nat → Bool} {f : Nat → Int} {p : Int → Prop} {v : Int} : ∀ {l : List Nat}, (∀ k ∈ l, c k = true → 0 ≤ f k) → (∀ x, p x → 0 ≤ x) → MinOf p v →
    MinOf (fun d => p d ∨ ∃ k, k ∈ l ∧ c k = true ∧ d = f k) (l.foldl (fun b k => if c k = true then minB b (f k) else b) v) := by
  intro l
  induction l generalizing p v with
  | nil => intro _ _ h; exact h.congr fun d => ⟨.inl, fun h => h.elim id (fun ⟨k, hk, _⟩ => by simp at hk)⟩
  | cons k l ih =>
    intro hf hp h
    rw [List.foldl_cons]
    have hl : ∀ j ∈ l, c j = true → 0 ≤ f j := fun j hj => hf j (List.mem_cons_of_mem _ hj)
    by_cases hc : c k = true
    · rw [if_pos hc]
      have h0 := hf k (List.mem_cons_self ..) hc
      refine (ih hl (fun x hx => ?_) (h.step hp h0)).congr fun d => ?_
      · rcases hx with hx | hx
        · exact hp x hx
        · omega
      · constructor
        · rintro ((h | h) | ⟨j, hj, h1, h2⟩)
          · exact .inl h
          · exact .inr ⟨k, List.mem_cons_self .., hc, h⟩
          · exact .inr ⟨j, List.mem_cons_of_mem _ hj, h1, h2⟩
        · rintro (h | ⟨j, hj, h1, h2⟩)
          · exact .inl (.inl h)
          · rcases List.mem_cons.1 hj with e | hj
            · subst e; exact .inl (.inr h2)
            · exact .inr ⟨j, hj, h1, h2⟩
    · rw [if_neg hc]
      refine (ih hl hp h).congr fun d => ?_
      constructor
      · rintro (h | ⟨j, hj, h1, h2⟩)
        · exact .inl h
        · exact .inr ⟨j, List.mem_cons_of_mem _ hj, h1, h2⟩
      · rintro (h | ⟨j, hj, h1, h2⟩)
        · exact .inl h
        · rcases List.mem_cons.1 hj with e | hj
          · subst e; exact absurd h1 hc
          · exact .inr ⟨j, hj, h1, h2⟩
theorem MinOf.none_ : MinOf (fun _ => False) (-1) := .inl ⟨rfl, fun _ h => h⟩

/-- The exchanges of a street. -/
def pS (es : List Ed) (F : List Nat) (j : Nat) (d : Int) : Prop := (∃ y, Exch es F j y ∧ d = (ew es y : Int) - ew es j) ∨ (∃ x, Exch es F x j ∧ d = (ew es j : Int) - ew es x)
theorem pS_nn {F : List Nat} (ho : Opt es F) {j : Nat} {d : Int} (h : pS es F j d) : 0 ≤ d := by
  rcases h with ⟨y, h, rfl⟩ | ⟨x, h, rfl⟩
  · have := opt_local ho h; omega
  · have := opt_local ho h; omega
/-- The reference's slack. -/
theorem slkR_min (hn : Net n es) (hok : firstOk n es = true) {j : Nat} (hj : j < es.length) : MinOf (pS es (firstL n es) j) (int_ (slkR n es) j) := by
  have hF := first_tr hn hok
  have hO := first_opt (n := n) hn
  have e : int_ (slkR n es) j = slkAt n es (firstL n es) j := by
    unfold slkR
    rw [int_get (by simpa using hj)]; simp
  rw [e]
  unfold slkAt
  by_cases h : j ∈ firstL n es
  · rw [if_pos (hasN_iff.2 h)]
    have hx : ∀ y, y < es.length → ((!hasN (firstL n es) y && isTreeN n es (swL (firstL n es) j y)) = true ↔ Exch es (firstL n es) j y) := fun y hy => by
      rw [Bool.and_eq_true, Bool.not_eq_true']
      constructor
      · rintro ⟨h1, h2⟩
        exact exch_of_tr hn h hy (fun h' => by rw [hasN_iff.2 h'] at h1; cases h1) ((isTreeN_iff hn).1 h2)
      · intro hE
        exact ⟨by rw [Bool.eq_false_iff]; intro h'; exact hE.2.2.1 (hasN_iff.1 h'), (isTreeN_iff hn).2 (exch_tr hn hF hE)⟩
    have hf := MinOf.fold (c := fun y => !hasN (firstL n es) y && isTreeN n es (swL (firstL n es) j y)) (f := fun y => (ew es y : Int) - ew es j) (l := List.range es.length)
      (fun y hy hc => by have := opt_local hO ((hx y (List.mem_range.1 hy)).1 hc); show 0 ≤ (ew es y : Int) - ew es j; omega) (fun _ h => h.elim) MinOf.none_
    refine hf.congr fun d => ?_
    constructor
    · rintro (h' | ⟨y, hy, hc, rfl⟩)
      · exact h'.elim
      · exact .inl ⟨y, (hx y (List.mem_range.1 hy)).1 hc, rfl⟩
    · rintro (⟨y, hE, rfl⟩ | ⟨x, hE, rfl⟩)
      · exact .inr ⟨y, List.mem_range.2 hE.2.1, (hx y hE.2.1).2 hE, rfl⟩
      · exact absurd h hE.2.2.1
  · rw [if_neg (by rw [hasN_iff]; exact h)]
    have hx : ∀ x, x ∈ firstL n es → (isTreeN n es (swL (firstL n es) x j) = true ↔ Exch es (firstL n es) x j) := fun x hx => by
      rw [isTreeN_iff hn]
      exact ⟨fun hT => exch_of_tr hn hx hj h hT, fun hE => exch_tr hn hF hE⟩
    have hf := MinOf.fold (c := fun x => isTreeN n es (swL (firstL n es) x j)) (f := fun x => (ew es j : Int) - ew es x) (l := firstL n es)
      (fun x hm hc => by have := opt_local hO ((hx x hm).1 hc); show 0 ≤ (ew es j : Int) - ew es x; omega) (fun _ h => h.elim) MinOf.none_
    refine hf.congr fun d => ?_
    constructor
    · rintro (h' | ⟨x, hm, hc, rfl⟩)
      · exact h'.elim
      · exact .inr ⟨x, (hx x hm).1 hc, rfl⟩
    · rintro (⟨y, hE, rfl⟩ | ⟨x, hE, rfl⟩)
      · exact absurd hE.1 h
      · exact .inr ⟨x, hE.1, (hx x hE.1).2 hE, rfl⟩
theorem int_low {D : List Int} {k j : Nat} {d : Int} (hk : k < D.length) : int_ (lowS D k d) j = if j = k then minB (int_ D k) d else int_ D j := by
  unfold lowS int_
  rw [List.getD_eq_getElem?_getD, List.getElem?_set]
  by_cases e : k = j
  · subst e; simp [hk]
  · rw [if_neg e, if_neg (fun h => e h.symm)]
    rw [List.getD_eq_getElem?_getD]
/-- The program's slack, so far. -/
def SlInv (es : List Ed) (Q : Nat → Nat → Prop) (D : List Int) : Prop := D.length = es.length ∧ ∀ j, j < es.length → MinOf (fun d => ∃ k o, Q k o ∧ (j = k ∨ j = o) ∧ d = (ew es o : Int) - ew es k) (int_ D j)
theorem SlInv.step {Q : Nat → Nat → Prop} {D : List Int} {k o : Nat} (h : SlInv es Q D) (hQ : ∀ k o, Q k o → ew es k ≤ ew es o) (hk : k < es.length) (ho : o < es.length) (hko : ew es k ≤ ew es o) :
    SlInv es (fun k' o' => Q k' o' ∨ (k' = k ∧ o' = o)) (slkI es k D o) := by
  obtain ⟨hl, hm⟩ := h
  have hl1 : (lowS D k ((ew es o : Int) - ew es k)).length = es.length := by rw [lowS_len]; exact hl
  refine ⟨by unfold slkI; rw [lowS_len, hl1], fun j hj => ?_⟩
  have nn : ∀ x, (∃ k o, Q k o ∧ (j = k ∨ j = o) ∧ x = (ew es o : Int) - ew es k) → 0 ≤ x := fun x ⟨k, o, h1, _, h3⟩ => by have := hQ k o h1; omega
  have h0 := hm j hj
  have hd : (0 : Int) ≤ (ew es o : Int) - ew es k := by omega
  have hfin : ∀ x, ((∃ k' o', Q k' o' ∧ (j = k' ∨ j = o') ∧ x = (ew es o' : Int) - ew es k') ∨ ((j = k ∨ j = o) ∧ x = (ew es o : Int) - ew es k)) ↔
      ∃ k' o', (Q k' o' ∨ (k' = k ∧ o' = o)) ∧ (j = k' ∨ j = o') ∧ x = (ew es o' : Int) - ew es k' := fun x => by
    constructor
    · rintro (⟨k', o', h1, h2, h3⟩ | ⟨h1, h2⟩)
      · exact ⟨k', o', .inl h1, h2, h3⟩
      · exact ⟨k, o, .inr ⟨rfl, rfl⟩, h1, h2⟩
    · rintro ⟨k', o', h1 | ⟨rfl, rfl⟩, h2, h3⟩
      · exact .inl ⟨k', o', h1, h2, h3⟩
      · exact .inr ⟨h2, h3⟩
  refine MinOf.congr ?_ hfin
  unfold slkI
  rw [int_low (by rw [hl1]; exact ho), int_low (by rw [hl]; exact hk), int_low (by rw [hl]; exact hk)]
  by_cases e1 : j = k
  · by_cases e2 : j = o
    · subst e1 e2
      rw [if_pos rfl, if_pos rfl]
      have h1 := (h0.step nn hd).step (fun x hx => by rcases hx with hx | hx; exact nn x hx; omega) hd
      exact h1.congr fun x => ⟨fun h => by rcases h with (h | h) | h; exact .inl h; exact .inr ⟨.inl rfl, h⟩; exact .inr ⟨.inl rfl, h⟩, fun h => by rcases h with h | ⟨_, h⟩; exact .inl (.inl h); exact .inr h⟩
    · rw [if_neg e2, if_pos e1, ← e1]
      rw [e1] at h0 nn ⊢
      exact (h0.step nn hd).congr fun x => ⟨fun h => by rcases h with h | h; exact .inl h; exact .inr ⟨.inl rfl, h⟩, fun h => by rcases h with h | ⟨_, h⟩; exact .inl h; exact .inr h⟩
  · by_cases e2 : j = o
    · rw [if_pos e2, if_neg (by omega), ← e2]
      rw [e2] at h0 nn ⊢
      exact (h0.step nn hd).congr fun x => ⟨fun h => by rcases h with h | h; exact .inl h; exact .inr ⟨.inr rfl, h⟩, fun h => by rcases h with h | ⟨_, h⟩; exact .inl h; exact .inr h⟩
    · rw [if_neg e2, if_neg e1]
      exact h0.congr fun x => ⟨.inl, fun h => by rcases h with h | ⟨h, _⟩; exact h; rcases h with h | h; exact absurd h e1; exact absurd h e2⟩
theorem SlInv.inner {k : Nat} (hk : k < es.length) : ∀ (J : List Nat) {Q : Nat → Nat → Prop} {D : List Int}, SlInv es Q D → (∀ k o, Q k o → ew es k ≤ ew es o) → (∀ o ∈ J, o < es.length ∧ ew es k ≤ ew es o) →
    SlInv es (fun k' o' => Q k' o' ∨ (k' = k ∧ o' ∈ J)) (J.foldl (slkI es k) D) := by
  intro J
  induction J with
  | nil =>
    intro Q D h _ _
    refine ⟨h.1, fun j hj => (h.2 j hj).congr fun x => ?_⟩
    exact ⟨fun ⟨k, o, h1, h2⟩ => ⟨k, o, .inl h1, h2⟩, fun ⟨k, o, h1, h2⟩ => ⟨k, o, h1.elim id (fun h => by simp at h), h2⟩⟩
  | cons o J ih =>
    intro Q D h hQ hJ
    obtain ⟨h1, h2⟩ := hJ o (List.mem_cons_self ..)
    have := ih (h.step hQ hk h1 h2) (fun k' o' hq => by rcases hq with hq | ⟨rfl, rfl⟩; exact hQ _ _ hq; exact h2) fun o' ho' => hJ o' (List.mem_cons_of_mem _ ho')
    rw [List.foldl_cons]
    refine ⟨this.1, fun j hj => (this.2 j hj).congr fun x => ?_⟩
    constructor
    · rintro ⟨k', o', (h1 | ⟨rfl, rfl⟩) | ⟨h1, h2⟩, h3⟩
      · exact ⟨k', o', .inl h1, h3⟩
      · exact ⟨k', o', .inr ⟨rfl, List.mem_cons_self ..⟩, h3⟩
      · exact ⟨k', o', .inr ⟨h1, List.mem_cons_of_mem _ h2⟩, h3⟩
    · rintro ⟨k', o', h1 | ⟨h1, h2⟩, h3⟩
      · exact ⟨k', o', .inl (.inl h1), h3⟩
      · rcases List.mem_cons.1 h2 with e | h2
        · exact ⟨k', o', .inl (.inr ⟨h1, e⟩), h3⟩
        · exact ⟨k', o', .inr ⟨h1, h2⟩, h3⟩
theorem SlInv.outer {T : List Nat} (hT : ∀ k ∈ T, ∀ o ∈ insN n es T k, o < es.length ∧ ew es k ≤ ew es o) : ∀ (l : List Nat) {Q : Nat → Nat → Prop} {D : List Int}, (∀ k ∈ l, k ∈ T ∧ k < es.length) → SlInv es Q D → (∀ k o, Q k o → ew es k ≤ ew es o) →
    SlInv es (fun k' o' => Q k' o' ∨ (k' ∈ l ∧ o' ∈ insN n es T k')) (l.foldl (slkO n es T) D) := by
  intro l
  induction l with
  | nil =>
    intro Q D _ h _
    refine ⟨h.1, fun j hj => (h.2 j hj).congr fun x => ?_⟩
    exact ⟨fun ⟨k, o, h1, h2⟩ => ⟨k, o, .inl h1, h2⟩, fun ⟨k, o, h1, h2⟩ => ⟨k, o, h1.elim id (fun h => by simp at h), h2⟩⟩
  | cons k l ih =>
    intro Q D hl h hQ
    obtain ⟨hk1, hk2⟩ := hl k (List.mem_cons_self ..)
    have h1 := h.inner hk2 (insN n es T k) hQ (hT k hk1)
    have := ih (fun j hj => hl j (List.mem_cons_of_mem _ hj)) h1 (fun k' o' hq => by rcases hq with hq | ⟨rfl, hq⟩; exact hQ _ _ hq; exact (hT _ hk1 _ hq).2)
    rw [List.foldl_cons]
    refine ⟨this.1, fun j hj => (this.2 j hj).congr fun x => ?_⟩
    constructor
    · rintro ⟨k', o', (h1 | ⟨rfl, h2⟩) | ⟨h1, h2⟩, h3⟩
      · exact ⟨k', o', .inl h1, h3⟩
      · exact ⟨k', o', .inr ⟨List.mem_cons_self .., h2⟩, h3⟩
      · exact ⟨k', o', .inr ⟨List.mem_cons_of_mem _ h1, h2⟩, h3⟩
    · rintro ⟨k', o', h1 | ⟨h1, h2⟩, h3⟩
      · exact ⟨k', o', .inl (.inl h1), h3⟩
      · rcases List.mem_cons.1 h1 with e | h1
        · subst e; exact ⟨k', o', .inl (.inr ⟨rfl, h2⟩), h3⟩
        · exact ⟨k', o', .inr ⟨h1, h2⟩, h3⟩
theorem exch_congr {F F' : List Nat} (h : ∀ x, x ∈ F ↔ x ∈ F') {x y : Nat} : Exch es F x y ↔ Exch es F' x y := by
  unfold Exch
  have hc : Con es (· ∈ dl F x) (ed_ es y).a (ed_ es y).b ↔ Con es (· ∈ dl F' x) (ed_ es y).a (ed_ es y).b :=
    ⟨fun hc => hc.mono fun k hk => by rw [mem_dl] at hk ⊢; exact ⟨(h k).1 hk.1, hk.2⟩, fun hc => hc.mono fun k hk => by rw [mem_dl] at hk ⊢; exact ⟨(h k).2 hk.1, hk.2⟩⟩
  rw [h x, h y, hc]
theorem slkP_inv (hn : Net n es) (hok : firstOk n es = true) : (slkP n es).length = es.length ∧ ∀ j, j < es.length → MinOf (pS es (firstL n es) j) (int_ (slkP n es) j) := by
  have hF := first_tr hn hok
  have hO := first_opt (n := n) hn
  have hTl : ∀ x ∈ treeP n es, x < es.length := treeP_lt
  have hE : ∀ {x y}, x ∈ treeP n es → (y ∈ insN n es (treeP n es) x ↔ Exch es (firstL n es) x y) := fun hx => by
    rw [insN_iff hn hTl hx]; exact exch_congr fun z => mem_treeP
  have hT : ∀ k ∈ treeP n es, ∀ o ∈ insN n es (treeP n es) k, o < es.length ∧ ew es k ≤ ew es o := fun k hk o ho => by
    have := (hE hk).1 ho
    exact ⟨this.2.1, opt_local hO this⟩
  have h0 : SlInv es (fun _ _ => False) (List.replicate es.length (-1)) := ⟨by simp, fun j hj => by
    rw [int_get (by simpa using hj)]
    simp only [List.getElem_replicate]
    exact .inl ⟨rfl, fun d ⟨_, _, h, _⟩ => h⟩⟩
  have h := SlInv.outer hT (treeP n es) (fun k hk => ⟨hk, hTl k hk⟩) h0 (fun _ _ h => h.elim)
  refine ⟨h.1, fun j hj => (h.2 j hj).congr fun x => ?_⟩
  constructor
  · rintro ⟨k, o, h1 | ⟨h1, h2⟩, h3, h4⟩
    · exact h1.elim
    · have he := (hE h1).1 h2
      rcases h3 with rfl | rfl
      · exact .inl ⟨o, he, h4⟩
      · exact .inr ⟨k, he, h4⟩
  · rintro (⟨y, he, h4⟩ | ⟨k, he, h4⟩)
    · exact ⟨j, y, .inr ⟨mem_treeP.2 he.1, (hE (mem_treeP.2 he.1)).2 he⟩, .inl rfl, h4⟩
    · exact ⟨k, j, .inr ⟨mem_treeP.2 he.1, (hE (mem_treeP.2 he.1)).2 he⟩, .inr rfl, h4⟩
theorem slk_eq (hn : Net n es) (hok : firstOk n es = true) : slkP n es = slkR n es := by
  obtain ⟨h1, h2⟩ := slkP_inv hn hok
  have hl : (slkR n es).length = es.length := by simp [slkR]
  refine List.ext_getElem (by omega) fun j hj1 hj2 => ?_
  rw [← int_get hj1, ← int_get hj2]
  exact (h2 j (by omega)).uniq (slkR_min hn hok (by omega))
/-- Each street that is not in the tree can stand for one of its streets. -/
theorem exch_ex (hn : Net n es) {T : List Nat} (hT : Tr n es T) {y : Nat} (hy : y < es.length) (hyT : y ∉ T) : ∃ x, Exch es T x y := by
  obtain ⟨ha, hb⟩ := ed_ends hn hy
  obtain ⟨S, hs, hc, hp⟩ := path (hT.ends hn) hT.rkl (hT.all hn _ _ ha hb)
  rcases S with _ | ⟨x, S⟩
  · exfalso
    have h0 : (ed_ es y).a = (ed_ es y).b := hc (fun a b => a = b) ⟨fun _ => rfl, fun _ _ h => h.symm, fun _ _ _ h k => h.trans k⟩ (fun k hk => by simp at hk)
    exact (hn.ends _ (ed_mem hy)).2.2.1 h0
  · exact ⟨x, hs x (List.mem_cons_self ..), hy, hyT, hp x (List.mem_cons_self ..)⟩
theorem slk_out (hn : Net n es) (hok : firstOk n es = true) {j : Nat} (hj : j < es.length) (hjF : j ∉ firstL n es) : 0 ≤ int_ (slkP n es) j := by
  rcases (slkP_inv hn hok).2 j hj with ⟨_, h⟩ | ⟨h, _⟩
  · obtain ⟨x, hx⟩ := exch_ex hn (first_tr hn hok) hj hjF
    exact absurd (.inr ⟨x, hx, rfl⟩) (h _)
  · exact pS_nn (first_opt hn) h
theorem crit_eq (hn : Net n es) (hok : firstOk n es = true) : alwP n es = critA n es ∧ nevP n es = critN n es := by
  have hm : ∀ k, decide (k ∈ treeP n es) = hasN (firstL n es) k := fun k => by
    rw [Bool.eq_iff_iff, decide_eq_true_eq, hasN_iff, mem_treeP]
  constructor
  · unfold alwP critA
    refine List.filter_congr fun k _ => ?_
    unfold alwB crA
    rw [hm, slk_eq hn hok]
  · unfold nevP critN
    refine List.filter_congr fun k hk => ?_
    have hk := List.mem_range.1 hk
    unfold nevB crN
    rw [hm, ← slk_eq hn hok]
    cases h : hasN (firstL n es) k with
    | true => rfl
    | false =>
      have hkF : k ∉ firstL n es := fun h' => by rw [hasN_iff.2 h'] at h; cases h
      have := slk_out hn hok hk hkF
      simp only [Bool.not_false, Bool.true_and, decide_eq_decide]
      omega

/-- The second weight: the least weight of a tree that one exchange makes. -/
theorem secN_spec (hn : Net n es) (hok : firstOk n es = true) : (secN n es = farN ∨ ∃ x y, Exch es (firstL n es) x y ∧ secN n es = wsum es (swL (firstL n es) x y)) ∧ ∀ x y, Exch es (firstL n es) x y → secN n es ≤ wsum es (swL (firstL n es) x y) := by
  have hF := first_tr hn hok
  have hx : ∀ x y, x ∈ firstL n es → y < es.length → ((!hasN (firstL n es) y && isTreeN n es (swL (firstL n es) x y)) = true ↔ Exch es (firstL n es) x y) := fun x y hxm hy => by
    rw [Bool.and_eq_true, Bool.not_eq_true']
    constructor
    · rintro ⟨h1, h2⟩
      exact exch_of_tr hn hxm hy (fun h' => by rw [hasN_iff.2 h'] at h1; cases h1) ((isTreeN_iff hn).1 h2)
    · intro hE
      exact ⟨by rw [Bool.eq_false_iff]; intro h'; exact hE.2.2.1 (hasN_iff.1 h'), (isTreeN_iff hn).2 (exch_tr hn hF hE)⟩
  have inner : ∀ (y : Nat), y < es.length → ∀ (l : List Nat) (b : Nat), (∀ x ∈ l, x ∈ firstL n es) →
      (l.foldl (secI n es (firstL n es) y) b = b ∨ ∃ x, x ∈ l ∧ Exch es (firstL n es) x y ∧ l.foldl (secI n es (firstL n es) y) b = wsum es (swL (firstL n es) x y)) ∧
      l.foldl (secI n es (firstL n es) y) b ≤ b ∧ ∀ x ∈ l, Exch es (firstL n es) x y → l.foldl (secI n es (firstL n es) y) b ≤ wsum es (swL (firstL n es) x y) := by
    intro y hy l
    induction l with
    | nil => intro b _; exact ⟨.inl rfl, Nat.le_refl _, fun x hx => by simp at hx⟩
    | cons x l ih =>
      intro b hl
      rw [List.foldl_cons]
      obtain ⟨h1, h2, h3⟩ := ih (secI n es (firstL n es) y b x) fun z hz => hl z (List.mem_cons_of_mem _ hz)
      have hxm := hl x (List.mem_cons_self ..)
      have hs : secI n es (firstL n es) y b x = if (!hasN (firstL n es) y && isTreeN n es (swL (firstL n es) x y)) = true then min b (wsum es (swL (firstL n es) x y)) else b := rfl
      by_cases hE : Exch es (firstL n es) x y
      · rw [if_pos ((hx x y hxm hy).2 hE)] at hs
        refine ⟨?_, by omega, fun z hz hze => ?_⟩
        · rcases h1 with h1 | ⟨z, hz, hze, h1⟩
          · rw [hs] at h1
            rcases Nat.le_total b (wsum es (swL (firstL n es) x y)) with h | h
            · left; rw [hs, h1, Nat.min_eq_left h]
            · right; exact ⟨x, List.mem_cons_self .., hE, by rw [hs, h1, Nat.min_eq_right h]⟩
          · exact .inr ⟨z, List.mem_cons_of_mem _ hz, hze, h1⟩
        · rcases List.mem_cons.1 hz with e | hz
          · subst e; rw [hs] at h2 ⊢; omega
          · exact h3 z hz hze
      · rw [if_neg (fun h => hE ((hx x y hxm hy).1 h))] at hs
        rw [hs] at h1 h2 h3 ⊢
        refine ⟨?_, h2, fun z hz hze => ?_⟩
        · rcases h1 with h1 | ⟨z, hz, h1⟩
          · exact .inl h1
          · exact .inr ⟨z, List.mem_cons_of_mem _ hz, h1⟩
        · rcases List.mem_cons.1 hz with e | hz
          · subst e; exact absurd hze hE
          · exact h3 z hz hze
  have outer : ∀ (l : List Nat) (b : Nat), (∀ y ∈ l, y < es.length) →
      (l.foldl (secO n es (firstL n es)) b = b ∨ ∃ x y, y ∈ l ∧ Exch es (firstL n es) x y ∧ l.foldl (secO n es (firstL n es)) b = wsum es (swL (firstL n es) x y)) ∧
      l.foldl (secO n es (firstL n es)) b ≤ b ∧ ∀ x y, y ∈ l → Exch es (firstL n es) x y → l.foldl (secO n es (firstL n es)) b ≤ wsum es (swL (firstL n es) x y) := by
    intro l
    induction l with
    | nil => intro b _; exact ⟨.inl rfl, Nat.le_refl _, fun x y hy => by simp at hy⟩
    | cons y l ih =>
      intro b hl
      rw [List.foldl_cons]
      obtain ⟨h1, h2, h3⟩ := ih (secO n es (firstL n es) b y) fun z hz => hl z (List.mem_cons_of_mem _ hz)
      obtain ⟨g1, g2, g3⟩ := inner y (hl y (List.mem_cons_self ..)) (firstL n es) b fun _ h => h
      have hs : secO n es (firstL n es) b y = (firstL n es).foldl (secI n es (firstL n es) y) b := rfl
      rw [← hs] at g1 g2 g3
      refine ⟨?_, by omega, fun x z hz hze => ?_⟩
      · rcases h1 with h1 | ⟨x, z, hz, hze, h1⟩
        · rcases g1 with g1 | ⟨x, hx, hxe, g1⟩
          · left; rw [h1, g1]
          · right; exact ⟨x, y, List.mem_cons_self .., hxe, by rw [h1, g1]⟩
        · exact .inr ⟨x, z, List.mem_cons_of_mem _ hz, hze, h1⟩
      · rcases List.mem_cons.1 hz with e | hz
        · subst e; have := g3 x hze.1 hze; omega
        · exact h3 x z hz hze
  obtain ⟨h1, _, h3⟩ := outer (List.range es.length) farN fun y hy => List.mem_range.1 hy
  have hs : secN n es = (List.range es.length).foldl (secO n es (firstL n es)) farN := by unfold secN; rw [if_pos hok]
  rw [hs]
  refine ⟨?_, fun x y hE => h3 x y (List.mem_range.2 hE.2.1) hE⟩
  rcases h1 with h1 | ⟨x, y, _, hE, h1⟩
  · exact .inl h1
  · exact .inr ⟨x, y, hE, h1⟩
theorem all_in (hn : Net n es) (_ : firstOk n es = true) : (treeP n es).length = es.length ↔ ∀ y, y < es.length → y ∈ firstL n es := by
  have hnd : (treeP n es).Nodup := kruT_nd (hn.Ends ordL_lt)
  constructor
  · intro h y hy
    refine Classical.byContradiction fun hno => ?_
    have := (List.nodup_cons.2 ⟨fun h => hno (mem_treeP.1 h), hnd⟩).length_le_of_subset (l₂ := List.range es.length) fun z hz => by
      rcases List.mem_cons.1 hz with e | hz
      · rw [e]; exact List.mem_range.2 hy
      · exact List.mem_range.2 (treeP_lt z hz)
    rw [List.length_cons, List.length_range] at this
    omega
  · intro h
    have h1 := List.nodup_range.length_le_of_subset (l₁ := List.range es.length) (l₂ := treeP n es) fun z hz => mem_treeP.2 (h z (List.mem_range.1 hz))
    rw [List.length_range] at h1
    have := treeP_len n es
    omega
theorem farN_big (hn : Net n es) (l : List Nat) (hl : l.length ≤ 1000) : wsum es l < farN := by
  have := wsum_le hn l
  unfold farN; omega
/-- Where all streets are in the tree there is no other one. -/
theorem sec_none (hn : Net n es) (hok : firstOk n es = true) (h : (treeP n es).length = es.length) : secN n es = farN := by
  rcases (secN_spec hn hok).1 with h1 | ⟨x, y, hE, _⟩
  · exact h1
  · exact absurd ((all_in hn hok).1 h y hE.2.1) hE.2.2.1
theorem morP_min (hn : Net n es) (hok : firstOk n es = true) : MinOf (fun d => ∃ x y, Exch es (firstL n es) x y ∧ d = (ew es y : Int) - ew es x) (morP n es) := by
  have hO := first_opt (n := n) hn
  have hm : ∀ k, (!decide (k ∈ treeP n es)) = true ↔ k ∉ firstL n es := fun k => by
    rw [Bool.not_eq_true', decide_eq_false_iff_not, mem_treeP]
  have hf := MinOf.fold (c := fun k => !decide (k ∈ treeP n es)) (f := fun k => int_ (slkP n es) k) (l := List.range es.length)
    (fun k hk hc => slk_out hn hok (List.mem_range.1 hk) ((hm k).1 hc)) (fun _ h => h.elim) MinOf.none_
  have e : morP n es = (List.range es.length).foldl (fun b k => if (!decide (k ∈ treeP n es)) = true then minB b (int_ (slkP n es) k) else b) (-1) := rfl
  rw [e]
  rcases hf with ⟨h1, h2⟩ | ⟨h1, h2⟩
  · refine .inl ⟨h1, ?_⟩
    rintro d ⟨x, y, hE, rfl⟩
    exact h2 (int_ (slkP n es) y) (.inr ⟨y, List.mem_range.2 hE.2.1, (hm y).2 hE.2.2.1, rfl⟩)
  · right
    constructor
    · rcases h1 with h1 | ⟨k, hk, hc, h1⟩
      · exact h1.elim
      · have hkF := (hm k).1 hc
        have hkl := List.mem_range.1 hk
        rcases (slkP_inv hn hok).2 k hkl with ⟨_, h⟩ | ⟨h, _⟩
        · obtain ⟨x, hx⟩ := exch_ex hn (first_tr hn hok) hkl hkF
          exact absurd (.inr ⟨x, hx, rfl⟩) (h _)
        · rw [h1]
          rcases h with ⟨y, hE, _⟩ | ⟨x, hE, h⟩
          · exact absurd hE.1 hkF
          · exact ⟨x, k, hE, h⟩
    · rintro d ⟨x, y, hE, rfl⟩
      have h3 := h2 (int_ (slkP n es) y) (.inr ⟨y, List.mem_range.2 hE.2.1, (hm y).2 hE.2.2.1, rfl⟩)
      rcases (slkP_inv hn hok).2 y hE.2.1 with ⟨_, h⟩ | ⟨_, h⟩
      · exact absurd (.inr ⟨x, hE, rfl⟩) (h _)
      · have := h _ (.inr ⟨x, hE, rfl⟩); omega
theorem sec_some (hn : Net n es) (hok : firstOk n es = true) (h : (treeP n es).length ≠ es.length) : secN n es < farN ∧ ((wsum es (treeP n es) : Nat) : Int) + morP n es = (secN n es : Int) := by
  have hF := first_tr hn hok
  obtain ⟨y, hy, hyF⟩ : ∃ y, y < es.length ∧ y ∉ firstL n es := Classical.byContradiction fun hno => h ((all_in hn hok).2 fun y hy => Classical.byContradiction fun h' => hno ⟨y, hy, h'⟩)
  obtain ⟨x, hE⟩ := exch_ex hn hF hy hyF
  obtain ⟨h1, h2⟩ := secN_spec hn hok
  have hsw : ∀ x y, Exch es (firstL n es) x y → wsum es (swL (firstL n es) x y) + ew es x = wsum es (firstL n es) + ew es y := fun x y h => wsum_swL hF.nodup h.1
  have hlt : ∀ x y, Exch es (firstL n es) x y → wsum es (swL (firstL n es) x y) < farN := fun x y h => farN_big hn _ (by rw [swL_len hF.nodup h.1]; have := hF.len; have := hn.n16; omega)
  rw [treeP_wsum hn]
  have hb := h2 x y hE
  have hb2 := hlt x y hE
  refine ⟨by omega, ?_⟩
  rcases morP_min hn hok with ⟨_, g2⟩ | ⟨⟨x1, y1, hE1, g1⟩, g2⟩
  · exact absurd ⟨x, y, hE, rfl⟩ (g2 _)
  · have a1 := h2 x1 y1 hE1
    have a2 := hsw x1 y1 hE1
    rcases h1 with h1 | ⟨x2, y2, hE2, h1⟩
    · omega
    · have a3 := g2 _ ⟨x2, y2, hE2, rfl⟩
      have a4 := hsw x2 y2 hE2
      omega
end

end Go.Proofs.Ytpfbichomgojoaa
