/- Plain: spanning trees, their weights, exchanges. -/
import Derived.Test.YtpfbichomgojoaaG1
namespace Go.Proofs.Ytpfbichomgojoaa

/-- A spanning tree: its streets in ascending order. -/
structure Tr (n : Nat) (es : List Ed) (T : List Nat) : Prop where
  asc : T.Pairwise (· < ·)
  lt : ∀ x ∈ T, x < es.length
  len : T.length + 1 = n
  rk1 : rk n es T + 1 = n
section
variable {n : Nat} {es : List Ed} {T T' S S' : List Nat}
theorem asc_nodup (h : T.Pairwise (· < ·)) : T.Nodup := h.imp fun h => Nat.ne_of_lt h
theorem Tr.nodup (h : Tr n es T) : T.Nodup := asc_nodup h.asc
theorem Tr.ends (h : Tr n es T) (hn : Net n es) : Ends n es T := hn.Ends h.lt
theorem Tr.rkl (h : Tr n es T) : rk n es T = T.length := by have := h.len; have := h.rk1; omega
theorem Tr.all (h : Tr n es T) (hn : Net n es) : AllC n es (· ∈ T) := (rk_all (h.ends hn) hn.n1).1 h.rk1
theorem tr_of_all (hn : Net n es) (h1 : T.Pairwise (· < ·)) (h2 : ∀ x ∈ T, x < es.length) (h3 : T.length + 1 = n) (h4 : AllC n es (· ∈ T)) : Tr n es T :=
  ⟨h1, h2, h3, (rk_all (hn.Ends h2) hn.n1).2 h4⟩

theorem rk_le_len (S : List Nat) : rk n es S ≤ S.length := kruT_length_le n es S
theorem rk_le_con (hS : Ends n es S) (hS' : Ends n es S') (h : ∀ k ∈ S, Con es (· ∈ S') (ed_ es k).a (ed_ es k).b) : rk n es S ≤ rk n es S' := by
  have h1 := (rk_append (n := n) (es := es) S S').2
  have h2 : rk n es (S ++ S') = rk n es S' := rk_congr (hS.append hS') hS' fun u v _ _ => ⟨fun hc => hc.of fun k hk => by
    rcases List.mem_append.1 hk with hk | hk
    · exact h k hk
    · exact Con.edge hk, fun hc => hc.mono fun k hk => List.mem_append_right _ hk⟩
  omega
/-- A part of streets without a way round has none. -/
theorem rk_part (hT : Ends n es T) (hr : rk n es T = T.length) (p : Nat → Bool) : rk n es (T.filter p) = (T.filter p).length := by
  have hsub : ∀ q : Nat → Bool, ∀ x ∈ T.filter q, x ∈ T := fun q x hx => (List.mem_filter.1 hx).1
  have h1 := (rk_append (n := n) (es := es) (T.filter p) (T.filter (fun x => !p x))).1
  have h2 : rk n es (T.filter p ++ T.filter (fun x => !p x)) = rk n es T := rk_set ((hT.sub (hsub _)).append (hT.sub (hsub _))) fun x => by
    rw [List.mem_append, List.mem_filter, List.mem_filter]
    cases p x <;> simp
  have h3 : (T.filter p).length + (T.filter (fun x => !p x)).length = T.length := by
    rw [← List.countP_eq_length_filter, ← List.countP_eq_length_filter, List.length_eq_countP_add_countP p (l := T)]
    congr 1
    apply List.countP_congr
    intro x _
    simp
  have h4 := rk_le_len (n := n) (es := es) (T.filter p)
  omega

/-- The streets of at most weight t. -/
def leT (es : List Ed) (t : Nat) (T : List Nat) : List Nat := T.filter (fun k => decide (ew es k ≤ t))
theorem mem_leT {t x : Nat} : x ∈ leT es t T ↔ x ∈ T ∧ ew es x ≤ t := by simp [leT]
def cntT (es : List Ed) (T : List Nat) (t : Nat) : Nat := (leT es t T).length
theorem sum_le {c : Nat} : ∀ (m : Nat), ((List.range m).map (fun t => if c ≤ t then 1 else 0)).sum = m - c := by
  intro m
  induction m with
  | zero => simp
  | succ m ih =>
    rw [List.range_succ, List.map_append, List.sum_append, ih]
    simp only [List.map_cons, List.map_nil, List.sum_cons, List.sum_nil]
    split <;> omega
theorem sum_add {α : Type} (l : List α) (f g : α → Nat) : (l.map (fun x => f x + g x)).sum = (l.map f).sum + (l.map g).sum := by
  induction l with
  | nil => rfl
  | cons x l ih => simp only [List.map_cons, List.sum_cons, ih]; omega
theorem wsum_cons (es : List Ed) (x : Nat) (l : List Nat) : wsum es (x :: l) = ew es x + wsum es l := by simp [wsum]
theorem wsum_cnt (hn : Net n es) (T : List Nat) : wsum es T + ((List.range 1001).map (cntT es T)).sum = 1001 * T.length := by
  induction T with
  | nil =>
    have hz : ∀ l : List Nat, (l.map (cntT es [])).sum = 0 := by
      intro l
      induction l with
      | nil => rfl
      | cons x l ih => rw [List.map_cons, List.sum_cons, ih]; rfl
    rw [hz]; rfl
  | cons x T ih =>
    have e : (List.range 1001).map (cntT es (x :: T)) = (List.range 1001).map (fun t => (if ew es x ≤ t then 1 else 0) + cntT es T t) := by
      apply List.map_congr_left
      intro t _
      unfold cntT leT
      rw [List.filter_cons]
      by_cases h : ew es x ≤ t
      · simp [h]; omega
      · simp [h]
    rw [e, sum_add, sum_le, wsum_cons, List.length_cons]
    have := ew_le hn x
    omega
theorem sum_mono {l : List Nat} {f g : Nat → Nat} (h : ∀ x ∈ l, f x ≤ g x) : (l.map f).sum ≤ (l.map g).sum := by
  induction l with
  | nil => simp
  | cons x l ih =>
    have := h x (List.mem_cons_self ..)
    have := ih fun y hy => h y (List.mem_cons_of_mem _ hy)
    simp only [List.map_cons, List.sum_cons]; omega
theorem sum_eq_all {l : List Nat} {f g : Nat → Nat} (h : ∀ x ∈ l, f x ≤ g x) (he : (l.map f).sum = (l.map g).sum) : ∀ x ∈ l, f x = g x := by
  induction l with
  | nil => intro x hx; simp at hx
  | cons y l ih =>
    have h1 := h y (List.mem_cons_self ..)
    have hl : ∀ x ∈ l, f x ≤ g x := fun x hx => h x (List.mem_cons_of_mem _ hx)
    have h2 := sum_mono hl
    simp only [List.map_cons, List.sum_cons] at he
    intro x hx
    rcases List.mem_cons.1 hx with e | hx
    · subst e; omega
    · exact ih hl (by omega) x hx

/-- No exchange makes the tree lighter: each street's ends are connected by streets of the tree that are no heavier. -/
def Opt (es : List Ed) (T : List Nat) : Prop := ∀ k, k < es.length → Con es (fun x => x ∈ T ∧ ew es x ≤ ew es k) (ed_ es k).a (ed_ es k).b
theorem opt_cnt (hn : Net n es) (hT : Tr n es T) (ho : Opt es T) (hT' : Tr n es T') (t : Nat) : cntT es T' t ≤ cntT es T t := by
  have h1 : rk n es (leT es t T') = (leT es t T').length := rk_part (hT'.ends hn) hT'.rkl _
  have h2 : rk n es (leT es t T) = (leT es t T).length := rk_part (hT.ends hn) hT.rkl _
  have h3 : rk n es (leT es t T') ≤ rk n es (leT es t T) := rk_le_con ((hT'.ends hn).sub fun x hx => (mem_leT.1 hx).1) ((hT.ends hn).sub fun x hx => (mem_leT.1 hx).1) fun k hk => by
    obtain ⟨hk, hw⟩ := mem_leT.1 hk
    exact (ho k (hT'.lt k hk)).mono fun x hx => mem_leT.2 ⟨hx.1, by omega⟩
  unfold cntT; omega
theorem opt_le (hn : Net n es) (hT : Tr n es T) (ho : Opt es T) (hT' : Tr n es T') : wsum es T ≤ wsum es T' := by
  have h1 := wsum_cnt hn T
  have h2 := wsum_cnt hn T'
  have h3 := sum_mono (l := List.range 1001) fun t _ => opt_cnt hn hT ho hT' t
  have := hT.len; have := hT'.len
  have e : T.length = T'.length := by omega
  rw [e] at h1
  omega
theorem opt_of_eq (hn : Net n es) (hT : Tr n es T) (ho : Opt es T) (hT' : Tr n es T') (he : wsum es T' = wsum es T) : Opt es T' := by
  have h1 := wsum_cnt hn T
  have h2 := wsum_cnt hn T'
  have := hT.len; have := hT'.len
  have e : T.length = T'.length := by omega
  rw [e] at h1
  have hall := sum_eq_all (l := List.range 1001) (fun t _ => opt_cnt hn hT ho hT' t) (by omega)
  intro k hk
  have hw := ew_le hn k
  have hc := hall (ew es k) (List.mem_range.2 (by omega))
  have g1 : rk n es (leT es (ew es k) T') = (leT es (ew es k) T').length := rk_part (hT'.ends hn) hT'.rkl _
  have g2 : rk n es (leT es (ew es k) T) = (leT es (ew es k) T).length := rk_part (hT.ends hn) hT.rkl _
  have e1 : Ends n es (leT es (ew es k) T') := (hT'.ends hn).sub fun x hx => (mem_leT.1 hx).1
  have e2 : Ends n es (leT es (ew es k) T) := (hT.ends hn).sub fun x hx => (mem_leT.1 hx).1
  have g3 : rk n es (leT es (ew es k) T' ++ leT es (ew es k) T) ≤ rk n es (leT es (ew es k) T) := rk_le_con (e1.append e2) e2 fun j hj => by
    rcases List.mem_append.1 hj with hj | hj
    · obtain ⟨hj, hjw⟩ := mem_leT.1 hj
      exact (ho j (hT'.lt j hj)).mono fun x hx => mem_leT.2 ⟨hx.1, by omega⟩
    · exact Con.edge hj
  have g4 := (rk_append (n := n) (es := es) (leT es (ew es k) T') (leT es (ew es k) T)).2
  have hcon := con_of_rk (S := leT es (ew es k) T') (e1.append e2) (fun x hx => List.mem_append_left _ hx) (by unfold cntT at hc; omega)
    ((ho k hk).mono (Q := (· ∈ leT es (ew es k) T' ++ leT es (ew es k) T)) fun x hx => List.mem_append_right _ (mem_leT.2 hx))
  exact hcon.mono fun x hx => mem_leT.1 hx
/-- Street y can stand for street x of the tree. -/
def Exch (es : List Ed) (T : List Nat) (x y : Nat) : Prop := x ∈ T ∧ y < es.length ∧ y ∉ T ∧ ¬ Con es (· ∈ dl T x) (ed_ es y).a (ed_ es y).b
theorem opt_of_local (hn : Net n es) (hT : Tr n es T) (hl : ∀ x y, Exch es T x y → ew es x ≤ ew es y) : Opt es T := by
  intro k hk
  by_cases hkT : k ∈ T
  · exact Con.edge (P := fun x => x ∈ T ∧ ew es x ≤ ew es k) ⟨hkT, Nat.le_refl _⟩
  · obtain ⟨ha, hb⟩ := ed_ends hn hk
    obtain ⟨S, hs, hc, hp⟩ := path (hT.ends hn) hT.rkl (hT.all hn _ _ ha hb)
    exact hc.mono fun x hx => ⟨hs x hx, hl x k ⟨hs x hx, hk, hkT, hp x hx⟩⟩
theorem opt_local (ho : Opt es T) {x y : Nat} (h : Exch es T x y) : ew es x ≤ ew es y := by
  obtain ⟨_, hy, _, hc⟩ := h
  rcases Nat.lt_or_ge (ew es y) (ew es x) with hlt | hge
  · exfalso
    refine hc ((ho y hy).mono fun z hz => mem_dl.2 ⟨hz.1, ?_⟩)
    rintro rfl; omega
  · exact hge
/-- Symmetric exchange. -/
theorem sym_exch (hn : Net n es) (hT : Tr n es T) (hT' : Tr n es T') {x : Nat} (hx : x ∈ T) (hx' : x ∉ T') : ∃ y, Exch es T x y ∧ Exch es T' y x := by
  obtain ⟨ha, hb⟩ := ed_ends hn (hT.lt x hx)
  obtain ⟨S, hs, hc, hp⟩ := path (hT'.ends hn) hT'.rkl (hT'.all hn _ _ ha hb)
  by_cases hex : ∃ y ∈ S, ¬ Con es (· ∈ dl T x) (ed_ es y).a (ed_ es y).b
  · obtain ⟨y, hy, hcy⟩ := hex
    refine ⟨y, ⟨hx, hT'.lt y (hs y hy), fun hyT => hcy (Con.edge (mem_dl.2 ⟨hyT, ?_⟩)), hcy⟩, hs y hy, hT.lt x hx, hx', hp y hy⟩
    rintro rfl; exact hx' (hs y hy)
  · exact absurd (hc.of fun y hy => Classical.byContradiction fun h => hex ⟨y, hy, h⟩) (acyc (hT.ends hn) hT.rkl hx)

/-- A list in which one number stands for another one, in closed form. -/
theorem swL_eq (l : List Nat) (out inn : Nat) :
    swL l out inn = dl (l.takeWhile (fun x => decide (x ≤ inn))) out ++ [inn] ++ dl (l.dropWhile (fun x => decide (x ≤ inn))) out := by
  have done : ∀ (l acc : List Nat), l.foldl (swS out inn) (acc, true) = (acc ++ dl l out, true) := by
    intro l
    induction l with
    | nil => intro acc; simp [dl]
    | cons x l ih =>
      intro acc
      rw [List.foldl_cons]
      by_cases h : x = out
      · have : swS out inn (acc, true) x = (acc, true) := by simp [swS, h]
        rw [this, ih]; simp [dl, h]
      · have : swS out inn (acc, true) x = (acc ++ [x], true) := by simp [swS, h]
        rw [this, ih]; simp [dl, h]
  have key : ∀ (l acc : List Nat), (if (l.foldl (swS out inn) (acc, false)).2 then (l.foldl (swS out inn) (acc, false)).1 else (l.foldl (swS out inn) (acc, false)).1 ++ [inn]) =
      acc ++ (dl (l.takeWhile (fun x => decide (x ≤ inn))) out ++ [inn] ++ dl (l.dropWhile (fun x => decide (x ≤ inn))) out) := by
    intro l
    induction l with
    | nil => intro acc; simp [dl]
    | cons x l ih =>
      intro acc
      rw [List.foldl_cons]
      by_cases hx : x ≤ inn
      · have hx' : ¬ inn < x := by omega
        rw [List.takeWhile_cons_of_pos (by simpa using hx), List.dropWhile_cons_of_pos (by simpa using hx)]
        by_cases h : x = out
        · have : swS out inn (acc, false) x = (acc, false) := by simp only [swS, hx', h]; simp; omega
          rw [this, ih]; simp [dl, h]
        · have : swS out inn (acc, false) x = (acc ++ [x], false) := by simp [swS, hx', h]
          rw [this, ih]; simp [dl, h]
      · have hx' : inn < x := by omega
        rw [List.takeWhile_cons_of_neg (by simpa using hx), List.dropWhile_cons_of_neg (by simpa using hx)]
        by_cases h : x = out
        · have : swS out inn (acc, false) x = (acc ++ [inn], true) := by simp only [swS, hx', h]; simp; omega
          rw [this, done]; simp [dl, h]
        · have : swS out inn (acc, false) x = (acc ++ [inn] ++ [x], true) := by simp [swS, hx', h]
          rw [this, done]; simp [dl, h]
  have := key l []
  rw [List.nil_append] at this
  rw [← this]; rfl
theorem dl_append (l l' : List Nat) (x : Nat) : dl (l ++ l') x = dl l x ++ dl l' x := List.filter_append ..
theorem swL_perm (l : List Nat) (out inn : Nat) : (swL l out inn).Perm (inn :: dl l out) := by
  rw [swL_eq]
  conv => rhs; rw [← List.takeWhile_append_dropWhile (p := fun x => decide (x ≤ inn)) (l := l), dl_append]
  rw [List.append_assoc, List.singleton_append]
  exact List.perm_middle
theorem mem_swL_iff {l : List Nat} {out inn x : Nat} : x ∈ swL l out inn ↔ x = inn ∨ (x ∈ l ∧ x ≠ out) := by
  rw [(swL_perm l out inn).mem_iff, List.mem_cons, mem_dl]
theorem drop_gt {l : List Nat} {c : Nat} (h : l.Pairwise (· < ·)) : ∀ x ∈ l.dropWhile (fun x => decide (x ≤ c)), c < x := by
  induction l with
  | nil => intro x hx; simp at hx
  | cons y l ih =>
    rw [List.pairwise_cons] at h
    by_cases hy : y ≤ c
    · rw [List.dropWhile_cons_of_pos (by simpa using hy)]; exact ih h.2
    · rw [List.dropWhile_cons_of_neg (by simpa using hy)]
      intro x hx
      rcases List.mem_cons.1 hx with e | hx
      · omega
      · have := h.1 x hx; omega
theorem take_le {l : List Nat} {c : Nat} : ∀ x ∈ l.takeWhile (fun x => decide (x ≤ c)), x ≤ c := by
  induction l with
  | nil => intro x hx; simp at hx
  | cons y l ih =>
    intro x hx
    by_cases hy : y ≤ c
    · rw [List.takeWhile_cons_of_pos (by simpa using hy)] at hx
      rcases List.mem_cons.1 hx with e | hx
      · omega
      · exact ih x hx
    · rw [List.takeWhile_cons_of_neg (by simpa using hy)] at hx; simp at hx
theorem swL_asc {l : List Nat} {out inn : Nat} (h : l.Pairwise (· < ·)) (hi : inn ∉ l) : (swL l out inn).Pairwise (· < ·) := by
  rw [swL_eq]
  have hd := fun x => drop_gt (c := inn) h x
  have ht : ∀ x ∈ l.takeWhile (fun x => decide (x ≤ inn)), x < inn := fun x hx => by
    have h1 := take_le x hx
    have h2 : x ≠ inn := by rintro rfl; exact hi ((List.takeWhile_sublist _).subset hx)
    omega
  rw [List.append_assoc, List.pairwise_append]
  refine ⟨(h.sublist (List.takeWhile_sublist _)).filter _, ?_, ?_⟩
  · rw [List.singleton_append, List.pairwise_cons]
    exact ⟨fun x hx => hd x (mem_dl.1 hx).1, (h.sublist (List.dropWhile_sublist _)).filter _⟩
  · intro x hx y hy
    have h1 := ht x (mem_dl.1 hx).1
    rcases List.mem_append.1 hy with hy | hy
    · rw [List.mem_singleton.1 hy]; exact h1
    · have := hd y (mem_dl.1 hy).1; omega
theorem wsum_perm {l l' : List Nat} (h : l.Perm l') : wsum es l = wsum es l' := by unfold wsum; exact (h.map _).sum_nat
theorem wsum_dl {l : List Nat} {x : Nat} (hn : l.Nodup) (hx : x ∈ l) : wsum es (dl l x) + ew es x = wsum es l := by
  induction l with
  | nil => simp at hx
  | cons y l ih =>
    rw [List.nodup_cons] at hn
    by_cases e : y = x
    · subst e
      have : dl (y :: l) y = l := by
        unfold dl
        rw [List.filter_cons]
        simp only [ne_eq, not_true_eq_false, decide_false, Bool.false_eq_true, ↓reduceIte]
        apply List.filter_eq_self.2
        intro z hz
        have : z ≠ y := by rintro rfl; exact hn.1 hz
        simpa using this
      rw [this, wsum_cons]; omega
    · have hx' : x ∈ l := by rcases List.mem_cons.1 hx with h | h; exact absurd h.symm e; exact h
      have : dl (y :: l) x = y :: dl l x := by unfold dl; rw [List.filter_cons]; simp [e]
      rw [this, wsum_cons, wsum_cons]
      have := ih hn.2 hx'
      omega
theorem wsum_swL {l : List Nat} {out inn : Nat} (hn : l.Nodup) (ho : out ∈ l) : wsum es (swL l out inn) + ew es out = wsum es l + ew es inn := by
  rw [wsum_perm (swL_perm l out inn), wsum_cons]
  have := wsum_dl (es := es) hn ho
  omega
theorem swL_len {l : List Nat} {out inn : Nat} (hn : l.Nodup) (ho : out ∈ l) : (swL l out inn).length = l.length := by
  rw [(swL_perm l out inn).length_eq, List.length_cons]; exact dl_length hn ho
/-- The exchange makes a spanning tree. -/
theorem exch_tr (hn : Net n es) (hT : Tr n es T) {x y : Nat} (h : Exch es T x y) : Tr n es (swL T x y) := by
  obtain ⟨hx, hy, hyT, hc⟩ := h
  have hlt : ∀ z ∈ swL T x y, z < es.length := fun z hz => by
    rcases mem_swL_iff.1 hz with rfl | h
    · exact hy
    · exact hT.lt z h.1
  have hd : Ends n es (dl T x) := (hT.ends hn).sub fun z hz => (mem_dl.1 hz).1
  have hE1 : ∀ z, z < es.length → Ends n es [z] := fun z hz k hk => by rw [List.mem_singleton.1 hk]; exact ed_ends hn hz
  refine ⟨swL_asc hT.asc hyT, hlt, by rw [swL_len hT.nodup hx]; exact hT.len, ?_⟩
  have h1 := rk_yes hd (hE1 y hy) hc
  have h2 : rk n es (dl T x ++ [x]) = rk n es T := rk_set (hd.append (hE1 x (hT.lt x hx))) fun z => by
    rw [List.mem_append, mem_dl, List.mem_singleton]
    constructor
    · rintro (h | rfl)
      · exact h.1
      · exact hx
    · intro hz
      by_cases e : z = x
      · exact .inr e
      · exact .inl ⟨hz, e⟩
  have h3 := (rk_snoc_le (n := n) (es := es) (dl T x) x).1
  have h4 := rk_le_len (n := n) (es := es) (dl T x)
  have h5 := dl_length hT.nodup hx
  have h6 : rk n es (dl T x ++ [y]) = rk n es (swL T x y) := rk_set (hd.append (hE1 y hy)) fun z => by
    rw [List.mem_append, mem_dl, List.mem_singleton, mem_swL_iff]
    constructor
    · rintro (h | h)
      · exact .inr h
      · exact .inl h
    · rintro (h | h)
      · exact .inr h
      · exact .inl h
  have := hT.len; have := hT.rk1
  omega
theorem exch_of_tr (hn : Net n es) {x y : Nat} (hx : x ∈ T) (hy : y < es.length) (hyT : y ∉ T) (h : Tr n es (swL T x y)) : Exch es T x y := by
  refine ⟨hx, hy, hyT, ?_⟩
  have := acyc (h.ends hn) h.rkl (x := y) (mem_swL_iff.2 (.inl rfl))
  intro hc
  refine this (hc.mono fun z hz => mem_dl.2 ⟨mem_swL_iff.2 (.inr (mem_dl.1 hz)), ?_⟩)
  rintro rfl; exact hyT (mem_dl.1 hz).1
end

/-- What is taken is connected as all is. -/
theorem kruT_con {n : Nat} {es : List Ed} {S : List Nat} (hS : Ends n es S) : ∀ k ∈ S, Con es (· ∈ kruT n es S) (ed_ es k).a (ed_ es k).b := by
  induction S using snoc_ind with
  | h0 => intro k hk; simp at hk
  | h1 l x ih =>
    have hl : Ends n es l := hS.sub fun k hk => List.mem_append_left _ hk
    obtain ⟨ha, hb⟩ := hS x (by simp)
    have ih := ih hl
    by_cases e : nat_ (kruG n es l) (ed_ es x).a = nat_ (kruG n es l) (ed_ es x).b
    · rw [kruT_snoc_no e]
      intro k hk
      rcases List.mem_append.1 hk with hk | hk
      · exact ih k hk
      · rw [List.mem_singleton.1 hk]; exact ((cn_iff hl ha hb).1 e).of ih
    · rw [kruT_snoc_yes e]
      intro k hk
      rcases List.mem_append.1 hk with hk | hk
      · exact (ih k hk).mono fun z hz => List.mem_append_left _ hz
      · rw [List.mem_singleton.1 hk]; exact Con.edge (P := (· ∈ kruT n es l ++ [x])) (by simp)
theorem kruT_con_iff {n : Nat} {es : List Ed} {S : List Nat} (hS : Ends n es S) {u v : Nat} : Con es (· ∈ kruT n es S) u v ↔ Con es (· ∈ S) u v :=
  ⟨fun h => h.mono fun _ hk => kruT_mem hk, fun h => h.of (kruT_con hS)⟩
theorem kruT_nd {n : Nat} {es : List Ed} {S : List Nat} (hS : Ends n es S) : (kruT n es S).Nodup := by
  induction S using snoc_ind with
  | h0 => exact List.nodup_nil
  | h1 l x ih =>
    have hl : Ends n es l := hS.sub fun k hk => List.mem_append_left _ hk
    obtain ⟨ha, hb⟩ := hS x (by simp)
    by_cases e : nat_ (kruG n es l) (ed_ es x).a = nat_ (kruG n es l) (ed_ es x).b
    · rw [kruT_snoc_no e]; exact ih hl
    · rw [kruT_snoc_yes e, List.nodup_append]
      refine ⟨ih hl, by simp, ?_⟩
      intro y hy z hz
      rw [List.mem_singleton.1 hz]
      rintro rfl
      exact e ((cn_iff hl ha hb).2 (Con.edge (kruT_mem hy)))
theorem kruT_rk {n : Nat} {es : List Ed} {S : List Nat} (hS : Ends n es S) : rk n es (kruT n es S) = (kruT n es S).length :=
  rk_congr (hS.sub fun _ hk => kruT_mem hk) hS fun _ _ _ _ => kruT_con_iff hS
theorem kruT_prefix {n : Nat} {es : List Ed} (A B : List Nat) : ∀ x ∈ kruT n es A, x ∈ kruT n es (A ++ B) := by
  induction B using snoc_ind with
  | h0 => intro x hx; simpa using hx
  | h1 B y ih =>
    intro x hx
    rw [← List.append_assoc]
    by_cases e : nat_ (kruG n es (A ++ B)) (ed_ es y).a = nat_ (kruG n es (A ++ B)) (ed_ es y).b
    · rw [kruT_snoc_no e]; exact ih x hx
    · rw [kruT_snoc_yes e]; exact List.mem_append_left _ (ih x hx)

/-- The reference's taking is the program's. -/
theorem takF_kru {n : Nat} {es : List Ed} {o : List Nat} (ho : ∀ k ∈ o, k < es.length) :
    (takF n es o).1 = kruG n es o ∧ (takF n es o).2.length = es.length ∧ ∀ i, i < es.length → bool_ (takF n es o).2 i = decide (i ∈ kruT n es o) := by
  induction o using snoc_ind with
  | h0 => exact ⟨rfl, by simp [takF, takI], fun i hi => by simp [takF, takI, bool_, hi, kruT, kruF]⟩
  | h1 l x ih =>
    obtain ⟨h1, h2, h3⟩ := ih fun k hk => ho k (List.mem_append_left _ hk)
    have hx := ho x (by simp)
    have hs : takF n es (l ++ [x]) = takS es (takF n es l) x := by unfold takF; rw [List.foldl_append]; rfl
    rw [hs, kruG_snoc]
    by_cases e : nat_ (kruG n es l) (ed_ es x).a = nat_ (kruG n es l) (ed_ es x).b
    · rw [takS_no (by rw [h1]; exact e), joinL_eq e, kruT_snoc_no e]; exact ⟨h1, h2, h3⟩
    · rw [takS_yes (by rw [h1]; exact e), kruT_snoc_yes e]
      refine ⟨by rw [h1], by rw [List.length_set]; exact h2, fun i hi => ?_⟩
      have hb : ∀ (bs : List Bool) (x i : Nat), x < bs.length → bool_ (bs.set x true) i = if x = i then true else bool_ bs i := by
        intro bs x i hx
        unfold bool_
        rw [List.getD_eq_getElem?_getD, List.getD_eq_getElem?_getD, List.getElem?_set]
        by_cases e : x = i
        · subst e; simp [hx]
        · simp [e]
      rw [hb _ _ _ (by rw [h2]; exact hx), h3 i hi]
      by_cases e : x = i
      · subst e; simp
      · rw [if_neg e]
        congr 1
        rw [List.mem_append, List.mem_singleton]
        apply propext
        constructor
        · exact .inl
        · rintro (h | h)
          · exact h
          · exact absurd h.symm e
theorem mem_takL {n : Nat} {es : List Ed} {o : List Nat} (ho : ∀ k ∈ o, k < es.length) {x : Nat} : x ∈ takL n es o ↔ x ∈ kruT n es o := by
  unfold takL
  rw [List.mem_filter, List.mem_range]
  constructor
  · rintro ⟨h1, h2⟩
    rw [(takF_kru ho).2.2 x h1] at h2
    simpa using h2
  · intro h
    have hx := ho x (kruT_mem h)
    exact ⟨hx, by rw [(takF_kru ho).2.2 x hx]; simpa using h⟩
theorem takG_kru {n : Nat} {es : List Ed} {o : List Nat} (ho : ∀ k ∈ o, k < es.length) : takG n es o = kruG n es o := (takF_kru ho).1
theorem range_asc (m : Nat) : (List.range m).Pairwise (· < ·) := by
  exact List.pairwise_lt_range
theorem takL_asc {n : Nat} {es : List Ed} {o : List Nat} : (takL n es o).Pairwise (· < ·) := (range_asc _).filter _
theorem nodup_len {l l' : List Nat} (h : l.Nodup) (h' : l'.Nodup) (hm : ∀ x, x ∈ l ↔ x ∈ l') : l.length = l'.length :=
  ((List.perm_ext_iff_of_nodup h h').2 hm).length_eq
theorem takL_length {n : Nat} {es : List Ed} {o : List Nat} (hn : Net n es) (ho : ∀ k ∈ o, k < es.length) : (takL n es o).length = rk n es o :=
  nodup_len (asc_nodup takL_asc) (kruT_nd (hn.Ends ho)) fun _ => mem_takL ho

/-- The test of a spanning tree. -/
theorem ascI_iff {m : Nat} {xs : List Int} : ascI m xs = true ↔ (∀ i, i < xs.length → okAt m xs i = true) := by
  constructor
  · intro h i hi
    unfold ascI at h
    rw [List.all_eq_true] at h
    exact h i (List.mem_range.2 hi)
  · exact ascI_yes
theorem int_natI {l : List Nat} {i : Nat} (h : i < l.length) : int_ (natI l) i = (nat_ l i : Int) := by
  rw [int_get (by simpa [natI] using h), nat_get h]; simp [natI]
theorem asc_of_next : ∀ {l : List Nat}, (∀ i, 0 < i → i < l.length → nat_ l (i - 1) < nat_ l i) → l.Pairwise (· < ·) := by
  intro l h
  have key : ∀ d i j, j = i + d + 1 → j < l.length → nat_ l i < nat_ l j := by
    intro d
    induction d with
    | zero => intro i j hj hl; subst hj; exact h (i + 0 + 1) (by omega) hl
    | succ d ih =>
      intro i j hj hl
      have h1 := ih i (i + d + 1) rfl (by omega)
      have h2 := h j (by omega) hl
      have e : j - 1 = i + d + 1 := by omega
      rw [e] at h2
      omega
  rw [List.pairwise_iff_getElem]
  intro i j hi hj hij
  rw [← nat_get hi, ← nat_get hj]
  exact key (j - i - 1) i j (by omega) hj
theorem natI_toNat (l : List Nat) : (natI l).map Int.toNat = l := by
  unfold natI
  rw [List.map_map]
  conv => rhs; rw [← List.map_id l]
  apply List.map_congr_left
  intro x _
  simp
theorem isTreeN_iff {n : Nat} {es : List Ed} {l : List Nat} (hn : Net n es) : isTreeN n es l = true ↔ Tr n es l := by
  unfold isTreeN isTreeI
  rw [natI_toNat]
  simp only [Bool.and_eq_true, decide_eq_true_eq]
  rw [ascI_iff]
  have hll : (natI l).length = l.length := by simp [natI]
  rw [hll]
  constructor
  · rintro ⟨⟨h1, h2⟩, h3⟩
    have hlt : ∀ x ∈ l, x < es.length := by
      intro x hx
      obtain ⟨i, hi, rfl⟩ := List.mem_iff_getElem.1 hx
      have := (okAt_lt (h1 i hi)).2
      rw [int_natI hi, nat_get hi] at this
      omega
    refine ⟨asc_of_next fun i h0 hi => ?_, hlt, h2, by rw [takL_length hn hlt] at h3; exact h3⟩
    have := h1 i hi
    unfold okAt at this
    simp only [Bool.and_eq_true, Bool.or_eq_true, decide_eq_true_eq] at this
    rcases this.2 with h | h
    · omega
    · rw [int_natI hi, int_natI (by omega)] at h; omega
  · intro h
    refine ⟨⟨fun i hi => ?_, h.len⟩, by rw [takL_length hn h.lt]; exact h.rk1⟩
    unfold okAt
    simp only [Bool.and_eq_true, Bool.or_eq_true, decide_eq_true_eq]
    have hm := h.lt _ (nat_mem hi)
    rw [int_natI hi]
    refine ⟨⟨by omega, by omega⟩, ?_⟩
    rcases Nat.eq_zero_or_pos i with h0 | h0
    · exact .inl h0
    · refine .inr ?_
      rw [int_natI (by omega)]
      have := (List.pairwise_iff_getElem.1 h.asc) (i - 1) i (by omega) hi (by omega)
      rw [← nat_get, ← nat_get] at this
      omega
theorem hasN_iff {l : List Nat} {x : Nat} : hasN l x = true ↔ x ∈ l := by
  unfold hasN hasI natI
  rw [List.contains_iff_mem, List.mem_map]
  constructor
  · rintro ⟨y, hy, e⟩
    have : y = x := by omega
    rw [← this]; exact hy
  · intro h; exact ⟨x, h, rfl⟩

section
variable {n : Nat} {es : List Ed}
theorem mem_firstL {x : Nat} : x ∈ firstL n es ↔ x ∈ kruT n es (ordL es) := mem_takL fun k hk => (ordL_mem es k).1 hk
theorem ordL_lt : ∀ k ∈ ordL es, k < es.length := fun k hk => (ordL_mem es k).1 hk
theorem firstL_length (hn : Net n es) : (firstL n es).length = (kruT n es (ordL es)).length := takL_length hn ordL_lt
theorem firstL_con (hn : Net n es) {u v : Nat} : Con es (· ∈ firstL n es) u v ↔ Con es (· < es.length) u v := by
  have h1 : Con es (· ∈ firstL n es) u v ↔ Con es (· ∈ kruT n es (ordL es)) u v := ⟨fun h => h.mono fun k hk => mem_firstL.1 hk, fun h => h.mono fun k hk => mem_firstL.2 hk⟩
  rw [h1, kruT_con_iff (hn.Ends ordL_lt)]
  exact ⟨fun h => h.mono fun k hk => ordL_lt k hk, fun h => h.mono fun k hk => (ordL_mem es k).2 hk⟩
theorem firstOk_iff (hn : Net n es) : firstOk n es = true ↔ AllC n es (· < es.length) := by
  unfold firstOk
  rw [decide_eq_true_eq, firstL_length hn]
  have h := rk_all (hn.Ends (ordL_lt (es := es))) hn.n1
  show rk n es (ordL es) + 1 = n ↔ _
  rw [h]
  exact ⟨fun h u v hu hv => (h u v hu hv).mono fun k hk => ordL_lt k hk, fun h u v hu hv => (h u v hu hv).mono fun k hk => (ordL_mem es k).2 hk⟩
theorem first_tr (hn : Net n es) (ho : firstOk n es = true) : Tr n es (firstL n es) := by
  refine tr_of_all hn takL_asc takL_lt ?_ fun u v hu hv => (firstL_con hn).2 ((firstOk_iff hn).1 ho u v hu hv)
  unfold firstOk at ho
  simpa using ho
theorem tr_first (hn : Net n es) {T : List Nat} (hT : Tr n es T) : firstOk n es = true :=
  (firstOk_iff hn).2 fun u v hu hv => (hT.all hn u v hu hv).mono fun k hk => hT.lt k hk
theorem first_opt (hn : Net n es) : Opt es (firstL n es) := by
  intro k hk
  obtain ⟨A, B, hAB⟩ := List.append_of_mem ((ordL_mem es k).2 hk)
  have hs := ordL_sorted es
  rw [hAB, List.pairwise_append] at hs
  have hE : Ends n es (A ++ [k]) := hn.Ends fun x hx => ordL_lt x (by
    rw [hAB]
    rcases List.mem_append.1 hx with h | h
    · exact List.mem_append_left _ h
    · rw [List.mem_singleton.1 h]; simp)
  refine (kruT_con hE k (by simp)).mono fun x hx => ⟨mem_firstL.2 ?_, ?_⟩
  · rw [hAB]
    have := kruT_prefix (n := n) (es := es) (A ++ [k]) B x hx
    simpa using this
  · rcases List.mem_append.1 (kruT_mem hx) with h | h
    · have := hs.2.2 x h k (List.mem_cons_self ..)
      unfold bef at this; omega
    · rw [List.mem_singleton.1 h]; exact Nat.le_refl _
theorem first_le (hn : Net n es) {T : List Nat} (hT : Tr n es T) : wsum es (firstL n es) ≤ wsum es T :=
  opt_le hn (first_tr hn (tr_first hn hT)) (first_opt hn) hT
end

end Go.Proofs.Ytpfbichomgojoaa
