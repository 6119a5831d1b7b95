/- Plain: what the program counts is the number of smallest spanning trees. -/
import Derived.Test.YtpfbichomgojoaaQC
import Derived.Test.YtpfbichomgojoaaQE
namespace Go.Proofs.Ytpfbichomgojoaa

theorem filter_range_snoc (f : Nat → Bool) (q : Nat) : (List.range (q + 1)).filter f = (List.range q).filter f ++ (if f q then [q] else []) := filter_range_succ f q
theorem addP_sq {p e s a b : Nat} {M : List (List Nat)} (h : Sq s M) (ha : a < s ∨ s ≤ a) : Sq s (addP p e M a b) := by
  unfold addP
  rcases ha with ha | ha
  · exact h.set (by rw [List.length_set]; exact h.2 a ha)
  · rw [List.set_eq_of_length_le (by rw [h.1]; exact ha)]; exact h
theorem addP_at {p e s a b : Nat} {d : Int} {M : List (List Nat)} (h : Sq s M) (he : Cg p (e : Int) d) {i j : Nat} (hi : i < s) (hj : j < s) :
    Cg p (nat_ (row_ (addP p e M a b) i) j : Int) ((nat_ (row_ M i) j : Int) + if i = a ∧ j = b then d else 0) := by
  unfold addP
  rw [row_set']
  by_cases e1 : a = i
  · subst e1
    rw [if_pos ⟨rfl, by rw [h.1]; exact hi⟩, nat_set']
    by_cases e2 : b = j
    · subst e2
      rw [if_pos ⟨rfl, by rw [h.2 a hi]; exact hj⟩, if_pos ⟨rfl, rfl⟩]
      refine (Cg.mod _).trans ?_
      rw [Int.natCast_add]
      exact (Cg.refl _).add he
    · rw [if_neg (fun h => e2 h.1), if_neg (fun h => e2 h.2.symm)]
      exact Cg.of_eq (by omega)
  · rw [if_neg (fun h => e1 h.1), if_neg (fun h => e1 h.1.symm)]
    exact Cg.of_eq (by omega)
theorem ind_mul {P Q : Prop} [Decidable P] [Decidable Q] {d : Int} : (if P ∧ Q then d else 0) = (if P then 1 else 0) * (if Q then 1 else 0) * d := by
  by_cases h1 : P <;> by_cases h2 : Q <;> simp [h1, h2]
theorem LtM_addP {p e i j : Nat} {M : List (List Nat)} (hp : 0 < p) (h : LtM p M) : LtM p (addP p e M i j) := h.set fun k => by
  rw [nat_set']
  split
  · exact Nat.mod_lt _ hp
  · exact h i k
theorem nat_append_left {A B : List Nat} {i : Nat} (h : i < A.length) : nat_ (A ++ B) i = nat_ A i := by
  unfold nat_; rw [List.getD_eq_getElem?_getD, List.getD_eq_getElem?_getD, List.getElem?_append_left h]
theorem zeroM_sq (s : Nat) : Sq s (zeroM s) := ⟨by simp [zeroM], fun i hi => by unfold zeroM; rw [row_get (by simpa using hi)]; simp⟩
theorem nat_rep {s i : Nat} : nat_ (List.replicate s 0) i = 0 := by
  by_cases h : i < s
  · rw [nat_get (by simpa using h)]; simp
  · unfold nat_; rw [List.getD_eq_getElem?_getD, List.getElem?_eq_none (by simp; omega)]; rfl
theorem zeroM_at {s i j : Nat} : nat_ (row_ (zeroM s) i) j = 0 := by
  unfold zeroM
  by_cases h : i < s
  · rw [row_get (by simpa using h)]; simp only [List.getElem_replicate]; exact nat_rep
  · rw [row_out (by simp; omega)]; rfl

section
variable {n : Nat} {es : List Ed} (hn : Net n es) (t top : Nat)
include hn
/-- The program's matrix. -/
theorem spF_lap {p : Nat} (hp : 1 < p) {V : List Nat} {z : Nat} (hC : comC n (kruG n es (ltE es t)) (kruG n es (ltE es (t + 1))) top = V ++ [z]) : ∀ q, q ≤ es.length →
    Sq V.length (spF p es (kruG n es (ltE es t)) (V ++ [z]) t q) ∧ LtM p (spF p es (kruG n es (ltE es t)) (V ++ [z]) t q) ∧
    ∀ i j, i < V.length → j < V.length → Cg p (nat_ (row_ (spF p es (kruG n es (ltE es t)) (V ++ [z]) t q) i) j : Int)
      (lap es V (labF n es (ltE es t)) ((List.range q).filter (fun k => decide (nat_ (kruG n es (ltE es (t + 1))) (ea es k) = top) && decide (ew es k = t))) i j) := by
  have hnd : (V ++ [z]).Nodup := by rw [← hC]; exact comC_nodup _ _ _ _
  have hVd : V.Nodup := by rw [List.nodup_append] at hnd; exact hnd.1
  intro q
  induction q with
  | zero =>
    intro _
    have e : spF p es (kruG n es (ltE es t)) (V ++ [z]) t 0 = zeroM V.length := by unfold spF; simp
    rw [e]
    refine ⟨zeroM_sq _, fun i j => by rw [zeroM_at]; omega, fun i j _ _ => ?_⟩
    rw [zeroM_at]
    exact Cg.of_eq rfl
  | succ q ih =>
    intro hq
    obtain ⟨i1, i2, i3⟩ := ih (by omega)
    have hs : spF p es (kruG n es (ltE es t)) (V ++ [z]) t (q + 1) = spK p es (kruG n es (ltE es t)) (V ++ [z]) t (spF p es (kruG n es (ltE es t)) (V ++ [z]) t q) q := by unfold spF; exact foldl_range
    rw [hs]
    generalize spF p es (kruG n es (ltE es t)) (V ++ [z]) t q = M at *
    obtain ⟨ha, hb⟩ := ed_ends hn (k := q) (by omega)
    have hxC : nat_ (kruG n es (ltE es t)) (ed_ es q).a ∈ V ++ [z] ↔ nat_ (kruG n es (ltE es (t + 1))) (ea es q) = top := by
      rw [← hC, mem_comC]
      have h1 := (lab_can hn t).2 _ ha
      have h2 := lab_lab hn t ha
      unfold labF at h2
      rw [h2]
      exact ⟨fun h => h.2.2, fun h => ⟨by omega, h1.2, h⟩⟩
    rw [filter_range_snoc]
    unfold spK
    by_cases hsel : nat_ (kruG n es (ltE es (t + 1))) (ea es q) = top ∧ ew es q = t
    · have hf : (decide (nat_ (kruG n es (ltE es (t + 1))) (ea es q) = top) && decide (ew es q = t)) = true := by simp [hsel]
      rw [if_pos hf]
      have hmem : q ∈ comL es (kruG n es (ltE es (t + 1))) t top := by
        unfold comL
        rw [List.mem_filter]
        exact ⟨mem_lvl.2 ⟨by omega, hsel.2⟩, by simpa using hsel.1⟩
      obtain ⟨hx, hy⟩ := com_lab hn t hmem
      rw [hC] at hx hy
      have hx' : nat_ (kruG n es (ltE es t)) (ed_ es q).a ∈ V ++ [z] := hx
      have hy' : nat_ (kruG n es (ltE es t)) (ed_ es q).b ∈ V ++ [z] := hy
      have hxl : labF n es (ltE es t) (ea es q) = nat_ (kruG n es (ltE es t)) (ed_ es q).a := rfl
      have hyl : labF n es (ltE es t) (eb es q) = nat_ (kruG n es (ltE es t)) (ed_ es q).b := rfl
      have hat : ∀ x, x ∈ V ++ [z] → atC (V ++ [z]) x = idxC (V ++ [z]) x := fun x hx => if_pos hx
      have hdl : ∀ x, x ∈ V ++ [z] → ∀ i, i < V.length → dlt (nat_ V i) x = if i = idxC (V ++ [z]) x then 1 else 0 := fun x hx i hi => by
        unfold dlt
        rw [← nat_append_left (B := [z]) hi]
        by_cases e : i = idxC (V ++ [z]) x
        · rw [if_pos e, e, idxC_at hx, if_pos rfl]
        · rw [if_neg e, if_neg]
          intro e2
          exact e (by rw [← e2, idxC_of hnd (by simp; omega)])
      have hent : ∀ i j, i < V.length → j < V.length → lap es V (labF n es (ltE es t)) ((List.range q).filter (fun k => decide (nat_ (kruG n es (ltE es (t + 1))) (ea es k) = top) && decide (ew es k = t)) ++ [q]) i j =
          lap es V (labF n es (ltE es t)) ((List.range q).filter (fun k => decide (nat_ (kruG n es (ltE es (t + 1))) (ea es k) = top) && decide (ew es k = t))) i j +
          ((if i = idxC (V ++ [z]) (nat_ (kruG n es (ltE es t)) (ed_ es q).a) then 1 else 0) - (if i = idxC (V ++ [z]) (nat_ (kruG n es (ltE es t)) (ed_ es q).b) then 1 else 0)) *
          ((if j = idxC (V ++ [z]) (nat_ (kruG n es (ltE es t)) (ed_ es q).a) then 1 else 0) - (if j = idxC (V ++ [z]) (nat_ (kruG n es (ltE es t)) (ed_ es q).b) then 1 else 0)) := fun i j hi hj => by
        rw [lap_append]
        congr 1
        rw [lap, lap]
        unfold ent
        rw [hxl, hyl, hdl _ hx' i hi, hdl _ hy' i hi, hdl _ hx' j hj, hdl _ hy' j hj]
        omega
      unfold spB
      rw [hat _ hx', hat _ hy']
      by_cases hij : idxC (V ++ [z]) (nat_ (kruG n es (ltE es t)) (ed_ es q).a) = idxC (V ++ [z]) (nat_ (kruG n es (ltE es t)) (ed_ es q).b)
      · rw [if_neg (by simp [hij])]
        refine ⟨i1, i2, fun i j hi hj => ?_⟩
        rw [hent i j hi hj, hij]
        refine (i3 i j hi hj).trans (Cg.of_eq ?_)
        simp
      · rw [if_pos (by simp [hij, hx', hsel.2])]
        generalize idxC (V ++ [z]) (nat_ (kruG n es (ltE es t)) (ed_ es q).a) = a at *
        generalize idxC (V ++ [z]) (nat_ (kruG n es (ltE es t)) (ed_ es q).b) = b at *
        unfold spA
        have hp0 : 0 < p := by omega
        have c1 : Cg p ((p + 1 : Nat) : Int) 1 := ⟨1, by rw [Int.natCast_add]; omega⟩
        have c2 : Cg p ((p - 1 : Nat) : Int) (-1) := ⟨1, by omega⟩
        have s1 := addP_sq (p := p) (e := p + 1) (b := a) i1 (Nat.lt_or_ge a V.length)
        have s2 := addP_sq (p := p) (e := p + 1) (b := b) s1 (Nat.lt_or_ge b V.length)
        have s3 := addP_sq (p := p) (e := p - 1) (b := b) s2 (Nat.lt_or_ge a V.length)
        have s4 := addP_sq (p := p) (e := p - 1) (b := a) s3 (Nat.lt_or_ge b V.length)
        refine ⟨s4, LtM_addP hp0 (LtM_addP hp0 (LtM_addP hp0 (LtM_addP hp0 i2))), fun i j hi hj => ?_⟩
        rw [hent i j hi hj]
        have t1 := addP_at (a := a) (b := a) i1 c1 hi hj
        have t2 := addP_at (a := b) (b := b) s1 c1 hi hj
        have t3 := addP_at (a := a) (b := b) s2 c2 hi hj
        have t4 := addP_at (a := b) (b := a) s3 c2 hi hj
        refine t4.trans (((t3.trans (((t2.trans (((t1.trans ((i3 i j hi hj).add (Cg.refl _))).add (Cg.refl _)))).add (Cg.refl _)))).add (Cg.refl _)).trans (Cg.of_eq ?_))
        rw [ind_mul, ind_mul, ind_mul, ind_mul]
        generalize (if i = a then (1 : Int) else 0) = x1
        generalize (if i = b then (1 : Int) else 0) = x2
        generalize (if j = a then (1 : Int) else 0) = x3
        generalize (if j = b then (1 : Int) else 0) = x4
        grind
    · have hf : (decide (nat_ (kruG n es (ltE es (t + 1))) (ea es q) = top) && decide (ew es q = t)) = false := by
        rw [Bool.eq_false_iff]; simp only [ne_eq, Bool.and_eq_true, decide_eq_true_eq]; exact hsel
      have hfl : (if (decide (nat_ (kruG n es (ltE es (t + 1))) (ea es q) = top) && decide (ew es q = t)) = true then [q] else []) = [] := by rw [hf]; rfl
      rw [hfl, List.append_nil]
      have hsp : spB es (kruG n es (ltE es t)) (V ++ [z]) t q = false := by
        rw [Bool.eq_false_iff]
        unfold spB
        simp only [ne_eq, Bool.and_eq_true, decide_eq_true_eq]
        rintro ⟨⟨h1, h2⟩, _⟩
        exact hsel ⟨hxC.1 h1, h2⟩
      rw [if_neg (by rw [hsp]; simp)]
      exact ⟨i1, i2, i3⟩
theorem comL_eq : comL es (kruG n es (ltE es (t + 1))) t top = (List.range es.length).filter (fun k => decide (nat_ (kruG n es (ltE es (t + 1))) (ea es k) = top) && decide (ew es k = t)) := by
  have _ := hn
  unfold comL lvl
  rw [List.filter_filter]
theorem sp_det {p : Nat} (hp : Prm p) (h2 : 1 < (comC n (kruG n es (ltE es t)) (kruG n es (ltE es (t + 1))) top).length) :
    Cg p (detP p (spM p es (kruG n es (ltE es t)) (comC n (kruG n es (ltE es t)) (kruG n es (ltE es (t + 1))) top) t) : Int)
      (Nn es (comL es (kruG n es (ltE es (t + 1))) t top) (labF n es (ltE es t)) ((comC n (kruG n es (ltE es t)) (kruG n es (ltE es (t + 1))) top).length - 1) : Int) := by
  obtain ⟨V, z, hC⟩ : ∃ V z, comC n (kruG n es (ltE es t)) (kruG n es (ltE es (t + 1))) top = V ++ [z] := by
    rcases List.eq_nil_or_concat (comC n (kruG n es (ltE es t)) (kruG n es (ltE es (t + 1))) top) with h | ⟨V, z, h⟩
    · rw [h] at h2; simp at h2
    · exact ⟨V, z, by rw [h, List.concat_eq_append]⟩
  have hnd := comC_nodup n (kruG n es (ltE es t)) (kruG n es (ltE es (t + 1))) top
  rw [hC] at hnd
  have hnd2 := hnd
  rw [List.nodup_append] at hnd2
  obtain ⟨s1, s2, s3⟩ := spF_lap hn t top hp.1 hC es.length (Nat.le_refl _)
  rw [hC]
  have hl : (V ++ [z]).length - 1 = V.length := by simp
  rw [hl]
  have hd := (detP_spec hp s1 s2).2
  unfold spM
  refine hd.trans ?_
  have hm := mt _ (comL es (kruG n es (ltE es (t + 1))) t top) (labF n es (ltE es t)) V z rfl hnd2.1 (fun hz => hnd2.2.2 z hz z (by simp) rfl) fun k hk => by
    have := com_lab hn t hk
    rw [hC] at this
    simp only [List.mem_append, List.mem_singleton] at this
    exact ⟨this.1.elim .inr .inl, this.2.elim .inr .inl⟩
  rw [← hm]
  refine Cg.det fun i j hi hj => ?_
  unfold blkM
  rw [Nat.zero_add, Nat.zero_add, comL_eq hn]
  exact s3 i j hi hj
theorem sp_prod {p : Nat} (hp : Prm p) : Cg p (spP p n es (kruG n es (ltE es t)) (kruG n es (ltE es (t + 1))) t : Int) (Nn es (lvl es t) (labF n es (ltE es t)) (rT n es t) : Int) := by
  rw [lvl_prod hn t]
  unfold spP
  have key : ∀ q, Cg p (((List.range q).foldl (spS p n es (kruG n es (ltE es t)) (kruG n es (ltE es (t + 1))) t) 1 : Nat) : Int)
      ((prodN (fun top => Nn es (comL es (kruG n es (ltE es (t + 1))) t top) (labF n es (ltE es t)) ((comC n (kruG n es (ltE es t)) (kruG n es (ltE es (t + 1))) top).length - 1)) q : Nat) : Int) := by
    intro q
    induction q with
    | zero => exact Cg.of_eq rfl
    | succ q ih =>
      rw [foldl_range, prodN, Int.natCast_mul]
      unfold spS
      by_cases h : (comC n (kruG n es (ltE es t)) (kruG n es (ltE es (t + 1))) q).length ≤ 1
      · rw [if_pos h, show (comC n (kruG n es (ltE es t)) (kruG n es (ltE es (t + 1))) q).length - 1 = 0 by omega, Nn_zero]
        exact ih.trans (Cg.of_eq (by omega))
      · rw [if_neg h]
        refine (Cg.mod _).trans ?_
        rw [Int.natCast_mul]
        exact ih.mul (sp_det hn t q hp (by omega))
  exact key n
end

section
variable {n : Nat} {es : List Ed}
theorem ord_le {i j : Nat} (hij : i ≤ j) (hj : j < es.length) : ew es (nat_ (ordL es) i) ≤ ew es (nat_ (ordL es) j) := by
  rcases Nat.lt_or_ge i j with h | h
  · have hl := ordL_length es
    have := List.pairwise_iff_getElem.1 (ordL_sorted es) i j (by omega) (by omega) h
    rw [← nat_get, ← nat_get] at this
    unfold bef at this; omega
  · have : i = j := by omega
    subst this; exact Nat.le_refl _
theorem ord_idx {k : Nat} (hk : k < es.length) : ∃ i, i < es.length ∧ nat_ (ordL es) i = k := by
  obtain ⟨i, hi, e⟩ := List.mem_iff_getElem.1 ((ordL_mem es k).2 hk)
  exact ⟨i, by rw [ordL_length] at hi; exact hi, by rw [nat_get hi]; exact e⟩
/-- The weight of the street at place q of the order. -/
def wtQ (es : List Ed) (q : Nat) : Nat := if q < es.length then ew es (nat_ (ordL es) q) else 1001
def lvF (n : Nat) (es : List Ed) (t : Nat) : Nat := Nn es (lvl es t) (labF n es (ltE es t)) (rT n es t)
theorem ltE_gap {a b : Nat} (hab : a ≤ b) (h : ∀ k, k < es.length → ew es k < a ∨ b ≤ ew es k) : ltE es b = ltE es a := by
  unfold ltE
  apply List.filter_congr
  intro k hk
  have := h k (List.mem_range.1 hk)
  rw [decide_eq_decide]; omega
theorem lvF_gap {a : Nat} : ∀ {b : Nat}, a ≤ b → (∀ k, k < es.length → ew es k < a ∨ b ≤ ew es k) → prodN (lvF n es) b = prodN (lvF n es) a := by
  intro b
  induction b with
  | zero => intro h _; have : a = 0 := by omega
            subst this; rfl
  | succ b ih =>
    intro hab h
    by_cases e : a = b + 1
    · subst e; rfl
    · rw [prodN, ih (by omega) (fun k hk => by have := h k hk; omega)]
      have h1 : lvl es b = [] := by
        unfold lvl
        rw [List.filter_eq_nil_iff]
        intro k hk
        have := h k (List.mem_range.1 hk)
        simp; omega
      have h2 : ltE es (b + 1) = ltE es b := ltE_gap (by omega) fun k hk => by have := h k hk; omega
      unfold lvF rT
      rw [h1, h2, Nat.sub_self, Nn]
      simp
theorem kruG_ltE_take (hn : Net n es) {q : Nat} (hq : q < es.length) (hend : ∀ j, q < j → j < es.length → ew es (nat_ (ordL es) q) < ew es (nat_ (ordL es) j)) :
    kruG n es ((ordL es).take (q + 1)) = kruG n es (ltE es (ew es (nat_ (ordL es) q) + 1)) := by
  have hmem : ∀ x, x ∈ (ordL es).take (q + 1) ↔ x ∈ ltE es (ew es (nat_ (ordL es) q) + 1) := fun x => by
    rw [mem_ltE]
    constructor
    · intro hx
      obtain ⟨i, hi, e⟩ := List.mem_iff_getElem.1 hx
      rw [List.length_take, ordL_length] at hi
      rw [List.getElem_take, ← nat_get (by rw [ordL_length]; omega)] at e
      rw [← e]
      have := ord_le (es := es) (i := i) (j := q) (by omega) hq
      exact ⟨(ordL_mem es _).1 (nat_mem (by rw [ordL_length]; omega)), by omega⟩
    · rintro ⟨h1, h2⟩
      obtain ⟨i, hi, e⟩ := ord_idx h1
      have hiq : i ≤ q := by
        rcases Nat.lt_or_ge q i with h | h
        · have := hend i h hi; rw [e] at this; omega
        · exact h
      rw [← e, nat_get (by rw [ordL_length]; exact hi)]
      exact List.mem_iff_getElem.2 ⟨i, by rw [List.length_take, ordL_length]; omega, by rw [List.getElem_take]⟩
  exact kruG_congr (hn.Ends fun x hx => (mem_ltE.1 ((hmem x).1 hx)).1) (hn.Ends fun x hx => (mem_ltE.1 hx).1) fun u v _ _ =>
    ⟨fun h => h.mono fun k hk => (hmem k).1 hk, fun h => h.mono fun k hk => (hmem k).2 hk⟩
/-- The end of a weight in the order: all before is lighter or as light, all behind is heavier. -/
theorem wtQ_end {q : Nat} (hq : q < es.length) (hb : smB es (ordL es) q = false) : wtQ es q < wtQ es (q + 1) ∨ 1000 < wtQ es q := by
  unfold wtQ
  rw [if_pos hq]
  unfold smB at hb
  rw [ordL_length] at hb
  by_cases h : q + 1 < es.length
  · rw [if_pos h]
    have := ord_le (es := es) (i := q) (j := q + 1) (by omega) h
    simp only [h, decide_true, Bool.true_and, decide_eq_false_iff_not] at hb
    omega
  · rw [if_neg h]; omega
theorem gap_start : ∀ k, k < es.length → ew es k < 0 ∨ wtQ es 0 ≤ ew es k := fun k hk => by
  obtain ⟨i, hi, e⟩ := ord_idx hk
  have := ord_le (es := es) (i := 0) (j := i) (by omega) hi
  unfold wtQ
  rw [if_pos (by omega), ← e]; omega
theorem gap_step {q : Nat} (hq : q < es.length) : ∀ k, k < es.length → ew es k < wtQ es q + 1 ∨ wtQ es (q + 1) ≤ ew es k := fun k hk => by
  obtain ⟨i, hi, e⟩ := ord_idx hk
  have e1 : wtQ es q = ew es (nat_ (ordL es) q) := if_pos hq
  rw [e1]
  rcases Nat.lt_or_ge q i with h | h
  · refine .inr ?_
    have := ord_le (es := es) (i := q + 1) (j := i) (by omega) hi
    unfold wtQ
    rw [if_pos (by omega), ← e]; exact this
  · refine .inl ?_
    have := ord_le (es := es) (i := i) (j := q) h hq
    rw [← e]; omega
theorem smF_spec (hn : Net n es) {p : Nat} (hp : Prm p) : ∀ q, q ≤ es.length → (smF p n es q).1 < p ∧ (smF p n es q).2 = kruG n es (ltE es (wtQ es q)) ∧ Cg p ((smF p n es q).1 : Int) (prodN (lvF n es) (wtQ es q) : Int) := by
  intro q
  induction q with
  | zero =>
    intro _
    have h0 := lvF_gap (n := n) (a := 0) (Nat.zero_le _) (gap_start (es := es))
    have h1 := ltE_gap (a := 0) (Nat.zero_le _) (gap_start (es := es))
    have h2 : ltE es 0 = [] := by unfold ltE; rw [List.filter_eq_nil_iff]; intro k _; simp
    rw [h0, h1, h2]
    exact ⟨hp.1, rfl, Cg.of_eq rfl⟩
  | succ q ih =>
    intro hq
    obtain ⟨i1, i2, i3⟩ := ih (by omega)
    have hs : smF p n es (q + 1) = smS p n es (ordL es) (smF p n es q) q := by unfold smF; exact foldl_range
    rw [hs]
    unfold smS
    cases hb : smB es (ordL es) q with
    | true =>
      rw [if_pos rfl]
      have : wtQ es (q + 1) = wtQ es q := by
        unfold smB at hb
        rw [ordL_length] at hb
        simp only [Bool.and_eq_true, decide_eq_true_eq] at hb
        unfold wtQ
        rw [if_pos hb.1, if_pos (by omega), hb.2]
      rw [this]
      exact ⟨i1, i2, i3⟩
    | false =>
      rw [if_neg (by simp)]
      have hql : q < es.length := by omega
      have e1 : wtQ es q = ew es (nat_ (ordL es) q) := if_pos hql
      have hlt : wtQ es q + 1 ≤ wtQ es (q + 1) := by
        rcases wtQ_end hql hb with h | h
        · exact h
        · have := ew_le hn (nat_ (ordL es) q); omega
      have hG := ltE_gap hlt (gap_step hql)
      have hP := lvF_gap (n := n) hlt (gap_step hql)
      have hta := kruG_ltE_take hn hql fun j h1 h2 => by
        have a1 := ord_le (es := es) (i := q + 1) (j := j) (by omega) h2
        have a2 : wtQ es (q + 1) = ew es (nat_ (ordL es) (q + 1)) := if_pos (by omega)
        omega
      rw [hta, i2, hG, hP, ← e1]
      refine ⟨Nat.mod_lt _ (by have := hp.1; omega), rfl, (Cg.mod _).trans ?_⟩
      rw [prodN, Int.natCast_mul, Int.natCast_mul]
      exact i3.mul (sp_prod hn (wtQ es q) hp)
/-- The program's count modulo a prime. -/
theorem smP_spec (hn : Net n es) (hok : firstOk n es = true) {p : Nat} (hp : Prm p) : smP p n es = mstN n es % p := by
  obtain ⟨h1, _, h3⟩ := smF_spec hn hp es.length (Nat.le_refl _)
  have e : wtQ es es.length = 1001 := if_neg (by omega)
  rw [e] at h3
  have hm : prodN (lvF n es) 1001 = mstN n es := (mst_prod hn hok).symm
  rw [hm] at h3
  have h4 := h3.trans (Cg.mod (mstN n es)).symm
  exact Cg.eq h4 h1 (Nat.mod_lt _ (by have := hp.1; omega))
theorem crt_spec {p q N : Nat} (_ : 1 < p) (hq : Prm q) (hpq : p % q ≠ 0) (hN : N < p * q) : crtN p q (N % p) (N % q) = N := by
  have hq1 := hq.1
  have hinv := hq.inv (a := p % q) (Nat.pos_of_ne_zero hpq) (Nat.mod_lt _ (by omega))
  unfold crtN
  generalize hI : powP (p % q) (q - 2) q = inv at *
  have hk : N / p < q := Nat.div_lt_of_lt_mul hN
  have hd := Nat.div_add_mod N p
  have key : ((N % q + q - N % p % q) % q * inv % q) = N / p := by
    refine Cg.eq (p := q) ?_ (Nat.mod_lt _ (by omega)) hk
    have hle : N % p % q ≤ N % q + q := Nat.le_of_lt (Nat.lt_of_lt_of_le (Nat.mod_lt _ (by omega)) (Nat.le_add_left _ _))
    have c1 : Cg q ((N % q + q - N % p % q : Nat) : Int) ((p : Int) * (N / p : Nat)) := by
      rw [Int.natCast_sub hle, Int.natCast_add]
      have a1 : Cg q ((N % q : Nat) : Int) (N : Int) := Cg.mod _
      have a2 : Cg q ((N % p % q : Nat) : Int) ((N % p : Nat) : Int) := Cg.mod _
      have a3 := (a1.add Cg.self).add a2.neg
      refine (Cg.of_eq (by omega)).trans (a3.trans (Cg.of_eq ?_))
      have hd' : (N : Int) = (p : Int) * (N / p : Nat) + (N % p : Nat) := by rw [← Int.natCast_mul, ← Int.natCast_add, hd]
      omega
    have c2 : Cg q (((p % q) * inv : Nat) : Int) 1 := by
      have := (Cg.mod (p := q) ((p % q) * inv)).symm
      rw [hinv] at this
      exact this
    have c3 : Cg q (((p % q : Nat)) : Int) (p : Int) := Cg.mod _
    refine (Cg.mod _).trans ?_
    rw [Int.natCast_mul]
    refine (((Cg.mod _).trans c1).mul (Cg.refl _)).trans ?_
    have c4 : Cg q ((p : Int) * inv) 1 := by
      rw [Int.natCast_mul] at c2
      exact ((c3.symm).mul (Cg.refl _)).trans c2
    have c5 := (Cg.refl ((N / p : Nat) : Int)).mul c4
    exact (Cg.of_eq (by grind)).trans (c5.trans (Cg.of_eq (by omega)))
  rw [key]
  omega
end

end Go.Proofs.Ytpfbichomgojoaa
