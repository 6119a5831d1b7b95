/- Plain: connected vertices, groups by labels, ranks. -/
import Derived.Test.YtpfbichomgojoaaMO
namespace Go.Proofs.Ytpfbichomgojoaa

theorem snoc_ind {α : Type} {p : List α → Prop} (h0 : p []) (h1 : ∀ l x, p l → p (l ++ [x])) (l : List α) : p l := by
  rw [← List.reverse_reverse l]
  induction l.reverse with
  | nil => exact h0
  | cons x l ih => rw [List.reverse_cons]; exact h1 _ _ ih

def Eqv (R : Nat → Nat → Prop) : Prop := (∀ x, R x x) ∧ (∀ x y, R x y → R y x) ∧ (∀ x y z, R x y → R y z → R x z)
/-- Two vertices are connected by streets of P. -/
def Con (es : List Ed) (P : Nat → Prop) (u v : Nat) : Prop := ∀ R, Eqv R → (∀ k, P k → R (ed_ es k).a (ed_ es k).b) → R u v

section
variable {es : List Ed} {P Q : Nat → Prop} {u v x : Nat}
theorem Con.refl : Con es P u u := fun _ h _ => h.1 u
theorem Con.symm (h : Con es P u v) : Con es P v u := fun R hR hk => hR.2.1 _ _ (h R hR hk)
theorem Con.trans (h : Con es P u v) (h2 : Con es P v x) : Con es P u x := fun R hR hk => hR.2.2 _ _ _ (h R hR hk) (h2 R hR hk)
theorem Con.edge {k : Nat} (h : P k) : Con es P (ed_ es k).a (ed_ es k).b := fun _ _ hk => hk k h
theorem Con.eqv : Eqv (Con es P) := ⟨fun _ => Con.refl, fun _ _ => Con.symm, fun _ _ _ => Con.trans⟩
theorem Con.of (h : ∀ k, P k → Con es Q (ed_ es k).a (ed_ es k).b) (hc : Con es P u v) : Con es Q u v := hc _ Con.eqv h
theorem Con.mono (h : ∀ k, P k → Q k) (hc : Con es P u v) : Con es Q u v := hc.of fun k hk => Con.edge (h k hk)
/-- One street more. -/
theorem Con.add {k : Nat} (h : Con es Q u v) (hq : ∀ x, Q x → P x ∨ x = k) :
    Con es P u v ∨ (Con es P u (ed_ es k).a ∧ Con es P (ed_ es k).b v) ∨ (Con es P u (ed_ es k).b ∧ Con es P (ed_ es k).a v) := by
  generalize ha : (ed_ es k).a = a
  generalize hb : (ed_ es k).b = b
  refine h (fun u v => Con es P u v ∨ (Con es P u a ∧ Con es P b v) ∨ (Con es P u b ∧ Con es P a v)) ⟨fun x => .inl Con.refl, ?_, ?_⟩ ?_
  · rintro x y (h | ⟨h1, h2⟩ | ⟨h1, h2⟩)
    · exact .inl h.symm
    · exact .inr (.inr ⟨h2.symm, h1.symm⟩)
    · exact .inr (.inl ⟨h2.symm, h1.symm⟩)
  · rintro x y z (h | ⟨h1, h2⟩ | ⟨h1, h2⟩) (g | ⟨g1, g2⟩ | ⟨g1, g2⟩)
    · exact .inl (h.trans g)
    · exact .inr (.inl ⟨h.trans g1, g2⟩)
    · exact .inr (.inr ⟨h.trans g1, g2⟩)
    · exact .inr (.inl ⟨h1, h2.trans g⟩)
    · exact .inr (.inl ⟨h1, g2⟩)
    · exact .inl (h1.trans g2)
    · exact .inr (.inr ⟨h1, h2.trans g⟩)
    · exact .inl (h1.trans g2)
    · exact .inr (.inr ⟨h1, g2⟩)
  · intro x hx
    rcases hq x hx with h | h
    · exact .inl (Con.edge h)
    · subst h; exact .inr (.inl ⟨by rw [← ha]; exact Con.refl, by rw [← hb]; exact Con.refl⟩)
end

/-- The streets of S join vertices of the net. -/
def Ends (n : Nat) (es : List Ed) (S : List Nat) : Prop := ∀ k ∈ S, (ed_ es k).a < n ∧ (ed_ es k).b < n
theorem Ends.sub {n : Nat} {es : List Ed} {S S' : List Nat} (h : Ends n es S') (hs : ∀ k ∈ S, k ∈ S') : Ends n es S := fun k hk => h k (hs k hk)
theorem Ends.append {n : Nat} {es : List Ed} {S S' : List Nat} (h : Ends n es S) (h' : Ends n es S') : Ends n es (S ++ S') := fun k hk => by
  rcases List.mem_append.1 hk with hk | hk
  · exact h k hk
  · exact h' k hk
theorem ed_ends {n : Nat} {es : List Ed} (h : Net n es) {k : Nat} (hk : k < es.length) : (ed_ es k).a < n ∧ (ed_ es k).b < n := ⟨(h.ends _ (ed_mem hk)).1, (h.ends _ (ed_mem hk)).2.1⟩
theorem Net.Ends {n : Nat} {es : List Ed} (h : Net n es) {S : List Nat} (hs : ∀ k ∈ S, k < es.length) : Ends n es S := fun k hk => ed_ends h (hs k hk)

theorem joinL_eq {g : List Nat} {a b : Nat} (h : nat_ g a = nat_ g b) : joinL g a b = g := by
  unfold joinL
  rw [← h]
  conv => rhs; rw [← List.map_id g]
  apply List.map_congr_left
  intro x _
  simp only [Nat.max_self, Nat.min_self, id_eq]
  split
  · rename_i e; exact e.symm
  · rfl
theorem kruF_snoc (n : Nat) (es : List Ed) (S : List Nat) (k : Nat) : kruF n es (S ++ [k]) = kruS es (kruF n es S) k := by unfold kruF; rw [List.foldl_append]; rfl
theorem kruG_snoc (n : Nat) (es : List Ed) (S : List Nat) (k : Nat) : kruG n es (S ++ [k]) = joinL (kruG n es S) (ed_ es k).a (ed_ es k).b := by
  unfold kruG
  rw [kruF_snoc]
  unfold kruS
  split
  · rename_i h; rw [joinL_eq h]
  · rfl
theorem kruG_nil (n : Nat) (es : List Ed) : kruG n es [] = List.range n := rfl
theorem kruG_length (n : Nat) (es : List Ed) (S : List Nat) : (kruG n es S).length = n := by
  induction S using snoc_ind with
  | h0 => simp [kruG_nil]
  | h1 l x ih => rw [kruG_snoc, joinL_length, ih]
theorem nat_join_eq {g : List Nat} {u v a b : Nat} (hu : u < g.length) (hv : v < g.length) :
    nat_ (joinL g a b) u = nat_ (joinL g a b) v ↔ nat_ g u = nat_ g v ∨ (nat_ g u = nat_ g a ∧ nat_ g b = nat_ g v) ∨ (nat_ g u = nat_ g b ∧ nat_ g a = nat_ g v) := by
  rw [nat_join a b hu, nat_join a b hv]
  split <;> split <;> omega

theorem cn_iff {n : Nat} {es : List Ed} {S : List Nat} (hS : Ends n es S) : ∀ {u v : Nat}, u < n → v < n →
    (nat_ (kruG n es S) u = nat_ (kruG n es S) v ↔ Con es (· ∈ S) u v) := by
  induction S using snoc_ind with
  | h0 =>
    intro u v hu hv
    rw [kruG_nil, nat_range hu, nat_range hv]
    constructor
    · rintro rfl; exact Con.refl
    · intro h; exact h (fun x y => x = y) ⟨fun _ => rfl, fun _ _ h => h.symm, fun _ _ _ h g => h.trans g⟩ (fun k hk => by simp at hk)
  | h1 l k ih =>
    intro u v hu hv
    have hl : Ends n es l := hS.sub fun k hk => List.mem_append_left _ hk
    obtain ⟨ha, hb⟩ := hS k (by simp)
    rw [kruG_snoc, nat_join_eq (by rw [kruG_length]; exact hu) (by rw [kruG_length]; exact hv), ih hl hu hv, ih hl hu ha, ih hl hb hv, ih hl hu hb, ih hl ha hv]
    have up : ∀ {x y}, Con es (· ∈ l) x y → Con es (· ∈ l ++ [k]) x y := fun h => h.mono fun k hk => List.mem_append_left _ hk
    have hk : Con es (· ∈ l ++ [k]) (ed_ es k).a (ed_ es k).b := Con.edge (by simp)
    constructor
    · rintro (h | ⟨h1, h2⟩ | ⟨h1, h2⟩)
      · exact up h
      · exact ((up h1).trans hk).trans (up h2)
      · exact ((up h1).trans hk.symm).trans (up h2)
    · intro h
      exact h.add (k := k) fun x hx => by simpa using hx

/-- Each label is the least vertex of its group. -/
def Can (n : Nat) (g : List Nat) : Prop := g.length = n ∧ ∀ v, v < n → nat_ g v ≤ v ∧ nat_ g (nat_ g v) = nat_ g v
theorem Can.join {n : Nat} {g : List Nat} (h : Can n g) {a b : Nat} (ha : a < n) (hb : b < n) : Can n (joinL g a b) := by
  refine ⟨by rw [joinL_length]; exact h.1, fun v hv => ?_⟩
  have hl := h.1
  obtain ⟨h1, h2⟩ := h.2 v hv
  obtain ⟨a1, a2⟩ := h.2 a ha
  obtain ⟨b1, b2⟩ := h.2 b hb
  have hm : nat_ g (min (nat_ g a) (nat_ g b)) = min (nat_ g a) (nat_ g b) := by
    rcases Nat.le_total (nat_ g a) (nat_ g b) with h | h
    · rw [Nat.min_eq_left h]; exact a2
    · rw [Nat.min_eq_right h]; exact b2
  rw [nat_join a b (by omega)]
  split
  · refine ⟨by omega, ?_⟩
    rw [nat_join a b (by omega), hm]
    split <;> omega
  · refine ⟨h1, ?_⟩
    rw [nat_join a b (by omega), h2]
    split <;> omega
theorem kru_can {n : Nat} {es : List Ed} {S : List Nat} (hS : Ends n es S) : Can n (kruG n es S) := by
  induction S using snoc_ind with
  | h0 => exact ⟨by simp [kruG_nil], fun v hv => by rw [kruG_nil, nat_range hv]; exact ⟨Nat.le_refl _, nat_range hv⟩⟩
  | h1 l k ih =>
    obtain ⟨ha, hb⟩ := hS k (by simp)
    rw [kruG_snoc]
    exact (ih (hS.sub fun k hk => List.mem_append_left _ hk)).join ha hb
theorem list_ext {xs ys : List Nat} {n : Nat} (h1 : xs.length = n) (h2 : ys.length = n) (h : ∀ v, v < n → nat_ xs v = nat_ ys v) : xs = ys := by
  apply List.ext_getElem (by omega)
  intro i h3 h4
  rw [← nat_get h3, ← nat_get h4]
  exact h i (by omega)
/-- Groups are told by what is connected. -/
theorem can_eq {n : Nat} {g g' : List Nat} (h : Can n g) (h' : Can n g') (hc : ∀ u v, u < n → v < n → (nat_ g u = nat_ g v ↔ nat_ g' u = nat_ g' v)) : g = g' := by
  refine list_ext h.1 h'.1 fun v hv => ?_
  obtain ⟨a1, a2⟩ := h.2 v hv
  obtain ⟨b1, b2⟩ := h'.2 v hv
  have e1 := (hc (nat_ g v) v (by omega) hv).1 a2
  have e2 := (hc (nat_ g' v) v (by omega) hv).2 b2
  have c1 := (h'.2 (nat_ g v) (by omega)).1
  have c2 := (h.2 (nat_ g' v) (by omega)).1
  omega
theorem kruG_congr {n : Nat} {es es' : List Ed} {S S' : List Nat} (hS : Ends n es S) (hS' : Ends n es' S') (hc : ∀ u v, u < n → v < n → (Con es (· ∈ S) u v ↔ Con es' (· ∈ S') u v)) :
    kruG n es S = kruG n es' S' :=
  can_eq (kru_can hS) (kru_can hS') fun u v hu hv => by rw [cn_iff hS hu hv, cn_iff hS' hu hv]; exact hc u v hu hv

/-- How many groups. -/
def cmp_ (g : List Nat) : Nat := (List.range g.length).countP (fun v => decide (nat_ g v = v))
theorem countP_drop {l : List Nat} {p : Nat → Bool} {x : Nat} (hn : l.Nodup) (hx : x ∈ l) (hp : p x = true) : l.countP (fun v => p v && decide (v ≠ x)) + 1 = l.countP p := by
  induction l with
  | nil => simp at hx
  | cons y l ih =>
    rw [List.nodup_cons] at hn
    by_cases e : y = x
    · subst e
      have hs : l.countP (fun v => p v && decide (v ≠ y)) = l.countP p := by
        apply List.countP_congr
        intro v hv
        have : v ≠ y := by rintro rfl; exact hn.1 hv
        simp [this]
      rw [List.countP_cons, List.countP_cons, hs]; simp [hp]
    · have hx' : x ∈ l := by rcases List.mem_cons.1 hx with h | h; exact absurd h.symm e; exact h
      have := ih hn.2 hx'
      rw [List.countP_cons, List.countP_cons]
      simp only [e, decide_true, Bool.and_true, ne_eq, not_false_eq_true] at this ⊢
      omega
theorem cmp_join {n : Nat} {g : List Nat} (h : Can n g) {a b : Nat} (ha : a < n) (hb : b < n) (hne : nat_ g a ≠ nat_ g b) : cmp_ (joinL g a b) + 1 = cmp_ g := by
  obtain ⟨a1, a2⟩ := h.2 a ha
  obtain ⟨b1, b2⟩ := h.2 b hb
  have hl := h.1
  have hM : nat_ g (max (nat_ g a) (nat_ g b)) = max (nat_ g a) (nat_ g b) := by
    rcases Nat.le_total (nat_ g a) (nat_ g b) with h | h
    · rw [Nat.max_eq_right h]; exact b2
    · rw [Nat.max_eq_left h]; exact a2
  unfold cmp_
  rw [joinL_length, ← countP_drop (p := fun v => decide (nat_ g v = v)) (x := max (nat_ g a) (nat_ g b)) List.nodup_range (List.mem_range.2 (by omega)) (by simpa using hM)]
  congr 1
  apply List.countP_congr
  intro v hv
  have hv := List.mem_range.1 hv
  have h2 := h.2 v (by omega)
  simp only [decide_eq_true_eq, Bool.and_eq_true]
  rw [nat_join a b hv]
  split
  · rename_i e
    have : ¬ v = max (nat_ g a) (nat_ g b) ∨ v = max (nat_ g a) (nat_ g b) := by omega
    constructor
    · intro h; omega
    · rintro ⟨h, h'⟩; omega
  · rename_i e
    constructor
    · intro h
      refine ⟨h, ?_⟩
      rintro rfl
      exact e hM
    · rintro ⟨h, _⟩; exact h

/-- The rank of streets: how many of them are taken. -/
def rk (n : Nat) (es : List Ed) (S : List Nat) : Nat := (kruT n es S).length
theorem kruT_snoc_yes {n : Nat} {es : List Ed} {S : List Nat} {k : Nat} (h : nat_ (kruG n es S) (ed_ es k).a ≠ nat_ (kruG n es S) (ed_ es k).b) : kruT n es (S ++ [k]) = kruT n es S ++ [k] := by
  unfold kruT; rw [kruF_snoc, kruS_yes h]
theorem kruT_snoc_no {n : Nat} {es : List Ed} {S : List Nat} {k : Nat} (h : nat_ (kruG n es S) (ed_ es k).a = nat_ (kruG n es S) (ed_ es k).b) : kruT n es (S ++ [k]) = kruT n es S := by
  unfold kruT; rw [kruF_snoc, kruS_no h]
section
variable {n : Nat} {es : List Ed} {S S' : List Nat} {k : Nat}
theorem rk_yes (hS : Ends n es S) (hk : Ends n es [k]) (h : ¬ Con es (· ∈ S) (ed_ es k).a (ed_ es k).b) : rk n es (S ++ [k]) = rk n es S + 1 := by
  obtain ⟨ha, hb⟩ := hk k (by simp)
  unfold rk
  rw [kruT_snoc_yes (fun e => h ((cn_iff hS ha hb).1 e))]; simp
theorem rk_no (hS : Ends n es S) (hk : Ends n es [k]) (h : Con es (· ∈ S) (ed_ es k).a (ed_ es k).b) : rk n es (S ++ [k]) = rk n es S := by
  obtain ⟨ha, hb⟩ := hk k (by simp)
  unfold rk
  rw [kruT_snoc_no ((cn_iff hS ha hb).2 h)]
theorem rk_snoc_le (S : List Nat) (k : Nat) : rk n es (S ++ [k]) ≤ rk n es S + 1 ∧ rk n es S ≤ rk n es (S ++ [k]) := by
  unfold rk
  by_cases h : nat_ (kruG n es S) (ed_ es k).a = nat_ (kruG n es S) (ed_ es k).b
  · rw [kruT_snoc_no h]; omega
  · rw [kruT_snoc_yes h]; simp
theorem rk_append (S R : List Nat) : rk n es (S ++ R) ≤ rk n es S + R.length ∧ rk n es S ≤ rk n es (S ++ R) := by
  induction R using snoc_ind with
  | h0 => simp
  | h1 R x ih =>
    rw [← List.append_assoc]
    have := rk_snoc_le (n := n) (es := es) (S ++ R) x
    simp only [List.length_append, List.length_singleton]; omega
theorem rk_cmp (hS : Ends n es S) : rk n es S + cmp_ (kruG n es S) = n := by
  induction S using snoc_ind with
  | h0 =>
    rw [kruG_nil]
    unfold cmp_
    have : rk n es [] = 0 := rfl
    rw [this, Nat.zero_add, List.length_range, List.countP_eq_length.2]
    · simp
    · intro v hv; simpa using nat_range (List.mem_range.1 hv)
  | h1 l k ih =>
    have hl : Ends n es l := hS.sub fun k hk => List.mem_append_left _ hk
    obtain ⟨ha, hb⟩ := hS k (by simp)
    have h := ih hl
    rw [kruG_snoc]
    by_cases e : nat_ (kruG n es l) (ed_ es k).a = nat_ (kruG n es l) (ed_ es k).b
    · rw [joinL_eq e]; unfold rk at h ⊢; rw [kruT_snoc_no e]; exact h
    · have := cmp_join (kru_can hl) ha hb e
      unfold rk at h ⊢
      rw [kruT_snoc_yes e]
      simp only [List.length_append, List.length_singleton]; omega
theorem rk_congr (hS : Ends n es S) (hS' : Ends n es S') (hc : ∀ u v, u < n → v < n → (Con es (· ∈ S) u v ↔ Con es (· ∈ S') u v)) : rk n es S = rk n es S' := by
  have h1 := rk_cmp hS
  have h2 := rk_cmp hS'
  rw [kruG_congr hS hS' hc] at h1
  omega
theorem rk_set (hS : Ends n es S) (h : ∀ x, x ∈ S ↔ x ∈ S') : rk n es S = rk n es S' :=
  rk_congr hS (fun k hk => hS k ((h k).2 hk)) fun u v _ _ => ⟨fun hc => hc.mono fun k hk => (h k).1 hk, fun hc => hc.mono fun k hk => (h k).2 hk⟩
theorem rk_mono (hS' : Ends n es S') (h : ∀ x ∈ S, x ∈ S') : rk n es S ≤ rk n es S' := by
  have hS : Ends n es S := hS'.sub h
  have h1 := (rk_append (n := n) (es := es) S S').2
  have h2 : rk n es (S ++ S') = rk n es S' := rk_set (hS.append hS') fun x => by
    rw [List.mem_append]; exact ⟨fun hx => hx.elim (h x) id, .inr⟩
  omega
/-- Streets of the same rank connect the same. -/
theorem con_of_rk (hS' : Ends n es S') (h : ∀ x ∈ S, x ∈ S') (hr : rk n es S = rk n es S') {u v : Nat} (hc : Con es (· ∈ S') u v) : Con es (· ∈ S) u v := by
  refine hc.of fun k hk => ?_
  by_cases hcon : Con es (· ∈ S) (ed_ es k).a (ed_ es k).b
  · exact hcon
  · exfalso
    have hS : Ends n es S := hS'.sub h
    have h1 := rk_yes hS (k := k) (fun x hx => by rw [List.mem_singleton.1 hx]; exact hS' k hk) hcon
    have h2 : rk n es (S ++ [k]) ≤ rk n es S' := rk_mono hS' fun x hx => by
      rcases List.mem_append.1 hx with hx | hx
      · exact h x hx
      · rw [List.mem_singleton.1 hx]; exact hk
    omega
theorem root0 {g : List Nat} (h : Can n g) (hn : 0 < n) : nat_ g 0 = 0 := by have := (h.2 0 hn).1; omega
theorem cmp_pos {g : List Nat} (h : Can n g) (hn : 0 < n) : 0 < cmp_ g := by
  unfold cmp_
  rw [List.countP_pos_iff]
  exact ⟨0, List.mem_range.2 (by rw [h.1]; exact hn), by simpa using root0 h hn⟩
theorem rk_lt (hS : Ends n es S) (hn : 0 < n) : rk n es S + 1 ≤ n := by
  have := rk_cmp hS; have := cmp_pos (kru_can hS) hn; omega
/-- All vertices are connected. -/
def AllC (n : Nat) (es : List Ed) (P : Nat → Prop) : Prop := ∀ u v, u < n → v < n → Con es P u v
theorem rk_all (hS : Ends n es S) (hn : 0 < n) : rk n es S + 1 = n ↔ AllC n es (· ∈ S) := by
  have h1 := rk_cmp hS
  have hc := kru_can hS
  have h2 := cmp_pos hc hn
  have h0 := root0 hc hn
  have hd := countP_drop (l := List.range n) (p := fun v => decide (nat_ (kruG n es S) v = v)) (x := 0) List.nodup_range (List.mem_range.2 hn) (by simpa using h0)
  have hcm : cmp_ (kruG n es S) = (List.range n).countP (fun v => decide (nat_ (kruG n es S) v = v)) := by unfold cmp_; rw [kruG_length]
  constructor
  · intro h
    have hz : (List.range n).countP (fun v => decide (nat_ (kruG n es S) v = v) && decide (v ≠ 0)) = 0 := by omega
    rw [List.countP_eq_zero] at hz
    have hall : ∀ v, v < n → nat_ (kruG n es S) v = 0 := fun v hv => by
      obtain ⟨a1, a2⟩ := hc.2 v hv
      have := hz (nat_ (kruG n es S) v) (List.mem_range.2 (by omega))
      simp only [Bool.and_eq_true, decide_eq_true_eq, not_and, ne_eq, Decidable.not_not] at this
      exact this a2
    intro u v hu hv
    rw [← cn_iff hS hu hv, hall u hu, hall v hv]
  · intro h
    have hz : (List.range n).countP (fun v => decide (nat_ (kruG n es S) v = v) && decide (v ≠ 0)) = 0 := by
      rw [List.countP_eq_zero]
      intro v hv
      have hv := List.mem_range.1 hv
      have := (cn_iff hS hv hn).2 (h v 0 hv hn)
      simp only [Bool.and_eq_true, decide_eq_true_eq, not_and, ne_eq, Decidable.not_not]
      omega
    omega
/-- What is left of streets without one. -/
def dl (T : List Nat) (x : Nat) : List Nat := T.filter (fun y => decide (y ≠ x))
theorem mem_dl {T : List Nat} {x y : Nat} : y ∈ dl T x ↔ y ∈ T ∧ y ≠ x := by simp [dl]
theorem dl_length {T : List Nat} {x : Nat} (hn : T.Nodup) (hx : x ∈ T) : (dl T x).length + 1 = T.length := by
  have := countP_drop (l := T) (p := fun _ => true) (x := x) hn hx rfl
  unfold dl
  rw [← List.countP_eq_length_filter]
  simp only [Bool.true_and] at this
  rw [this]; simp
theorem dl_length_lt {T : List Nat} {x : Nat} (hx : x ∈ T) : (dl T x).length < T.length := by
  unfold dl
  rcases Nat.lt_or_ge (T.filter (fun y => decide (y ≠ x))).length T.length with h | h
  · exact h
  · have := List.length_filter_le (fun y => decide (y ≠ x)) T
    have e := List.length_filter_eq_length_iff.1 (Nat.le_antisymm this h) x hx
    simp at e
/-- Streets without a way round. -/
theorem acyc {T : List Nat} (hT : Ends n es T) (hr : rk n es T = T.length) {x : Nat} (hx : x ∈ T) : ¬ Con es (· ∈ dl T x) (ed_ es x).a (ed_ es x).b := by
  intro h
  have hd : Ends n es (dl T x) := hT.sub fun k hk => (mem_dl.1 hk).1
  have h1 := rk_no hd (k := x) (fun y hy => by rw [List.mem_singleton.1 hy]; exact hT x hx) h
  have h2 : rk n es (dl T x ++ [x]) = rk n es T := rk_set (hd.append fun y hy => by rw [List.mem_singleton.1 hy]; exact hT x hx) fun y => by
    rw [List.mem_append, mem_dl, List.mem_singleton]
    constructor
    · rintro (h | rfl)
      · exact h.1
      · exact hx
    · intro hy
      by_cases e : y = x
      · exact .inr e
      · exact .inl ⟨hy, e⟩
  have h3 := kruT_length_le n es (dl T x)
  have h4 := dl_length_lt hx
  unfold rk kruT at h1 h2 hr
  omega
/-- The streets of the way between two vertices. -/
theorem path {T : List Nat} (hT : Ends n es T) (hr : rk n es T = T.length) {a b : Nat} (h : Con es (· ∈ T) a b) :
    ∃ S : List Nat, (∀ x ∈ S, x ∈ T) ∧ Con es (· ∈ S) a b ∧ ∀ x ∈ S, ¬ Con es (· ∈ dl T x) a b := by
  have key : ∀ m (S : List Nat), S.length = m → (∀ x ∈ S, x ∈ T) → Con es (· ∈ S) a b →
      ∃ S : List Nat, (∀ x ∈ S, x ∈ T) ∧ Con es (· ∈ S) a b ∧ ∀ x ∈ S, ¬ Con es (· ∈ dl S x) a b := by
    intro m
    induction m using Nat.strongRecOn with
    | _ m ih =>
      intro S hm hs hc
      by_cases hx : ∃ x ∈ S, Con es (· ∈ dl S x) a b
      · obtain ⟨x, hx, hcx⟩ := hx
        exact ih _ (by rw [← hm]; exact dl_length_lt hx) (dl S x) rfl (fun y hy => hs y (mem_dl.1 hy).1) hcx
      · exact ⟨S, hs, hc, fun x hx' h => hx ⟨x, hx', h⟩⟩
  obtain ⟨S, hs, hc, hmin⟩ := key _ T rfl (fun _ h => h) h
  refine ⟨S, hs, hc, fun x hx hcT => ?_⟩
  have hac := acyc hT hr (hs x hx)
  have up : ∀ {u v}, Con es (· ∈ dl S x) u v → Con es (· ∈ dl T x) u v := fun h => h.mono fun k hk => mem_dl.2 ⟨hs k (mem_dl.1 hk).1, (mem_dl.1 hk).2⟩
  rcases hc.add (P := (· ∈ dl S x)) (k := x) (fun y hy => by
      by_cases e : y = x
      · exact .inr e
      · exact .inl (mem_dl.2 ⟨hy, e⟩)) with h | ⟨h1, h2⟩ | ⟨h1, h2⟩
  · exact hmin x hx h
  · exact hac (((up h1).symm.trans hcT).trans (up h2).symm)
  · exact hac (((up h2).trans hcT.symm).trans (up h1))
end

end Go.Proofs.Ytpfbichomgojoaa
