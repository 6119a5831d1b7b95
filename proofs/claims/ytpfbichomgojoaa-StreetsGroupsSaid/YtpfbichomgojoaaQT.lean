/- Plain: the sets of streets that join all groups, counted, and determinants (the matrix-tree theorem). -/
import Derived.Test.YtpfbichomgojoaaQD
import Derived.Test.YtpfbichomgojoaaG2
namespace Go.Proofs.Ytpfbichomgojoaa

/-- The groups x and y become one. -/
def rel (g : Nat → Nat) (x y : Nat) : Nat → Nat := fun v => if g v = x then y else g v
def ea (es : List Ed) (k : Nat) : Nat := (ed_ es k).a
def eb (es : List Ed) (k : Nat) : Nat := (ed_ es k).b
/-- How many sets of r of the streets make no way round, where vertices of one group are one. -/
def Nn (es : List Ed) : List Nat → (Nat → Nat) → Nat → Nat
  | [], _, r => if r = 0 then 1 else 0
  | k :: L, g, r => if g (ea es k) = g (eb es k) then Nn es L g r else Nn es L g r + (if r = 0 then 0 else Nn es L (rel g (g (ea es k)) (g (eb es k))) (r - 1))
section
variable {es : List Ed}
theorem Nn_loop {L : List Nat} {g : Nat → Nat} {r k : Nat} (h : g (ea es k) = g (eb es k)) : Nn es (k :: L) g r = Nn es L g r := by rw [Nn, if_pos h]
theorem Nn_step {L : List Nat} {g : Nat → Nat} {r k : Nat} (h : g (ea es k) ≠ g (eb es k)) : Nn es (k :: L) g (r + 1) = Nn es L g (r + 1) + Nn es L (rel g (g (ea es k)) (g (eb es k))) r := by
  rw [Nn, if_neg h, if_neg (by omega)]; rfl
theorem Nn_zero {L : List Nat} {g : Nat → Nat} : Nn es L g 0 = 1 := by
  induction L with
  | nil => rfl
  | cons k L ih =>
    rw [Nn]
    split
    · exact ih
    · rw [ih]; rfl
theorem rel_eq {g : Nat → Nat} {a b x y : Nat} : rel g (g a) (g b) x = rel g (g a) (g b) y ↔ g x = g y ∨ (g x = g a ∧ g b = g y) ∨ (g x = g b ∧ g a = g y) := by
  unfold rel; split <;> split <;> omega
theorem rel_iff {g : Nat → Nat} {a b x y : Nat} : rel g (g a) (g b) x = rel g (g a) (g b) y ↔ ∀ R, Eqv R → (∀ u v, g u = g v → R u v) → R a b → R x y := by
  constructor
  · intro h R hR hk hab
    rcases rel_eq.1 h with h | ⟨h1, h2⟩ | ⟨h1, h2⟩
    · exact hk _ _ h
    · exact hR.2.2 _ _ _ (hR.2.2 _ _ _ (hk _ _ h1) hab) (hk _ _ h2)
    · exact hR.2.2 _ _ _ (hR.2.2 _ _ _ (hk _ _ h1) (hR.2.1 _ _ hab)) (hk _ _ h2)
  · intro h
    exact h (fun u v => rel g (g a) (g b) u = rel g (g a) (g b) v) ⟨fun _ => rfl, fun _ _ h => h.symm, fun _ _ _ h k => h.trans k⟩ (fun u v e => rel_eq.2 (.inl e)) (rel_eq.2 (.inr (.inl ⟨rfl, rfl⟩)))
theorem rel_ker {g : Nat → Nat} {a b : Nat} {R : Nat → Nat → Prop} (hR : Eqv R) : (∀ u v, rel g (g a) (g b) u = rel g (g a) (g b) v → R u v) ↔ (∀ u v, g u = g v → R u v) ∧ R a b :=
  ⟨fun h => ⟨fun u v e => h u v (rel_eq.2 (.inl e)), h a b (rel_eq.2 (.inr (.inl ⟨rfl, rfl⟩)))⟩, fun ⟨h1, h2⟩ _ _ e => rel_iff.1 e R hR h1 h2⟩
theorem rel_rel {g : Nat → Nat} {a b c d x y : Nat} :
    rel (rel g (g a) (g b)) (rel g (g a) (g b) c) (rel g (g a) (g b) d) x = rel (rel g (g a) (g b)) (rel g (g a) (g b) c) (rel g (g a) (g b) d) y ↔ ∀ R, Eqv R → (∀ u v, g u = g v → R u v) → R a b → R c d → R x y := by
  rw [rel_iff]
  exact ⟨fun h R hR h1 h2 h3 => h R hR ((rel_ker hR).2 ⟨h1, h2⟩) h3, fun h R hR h1 h3 => h R hR ((rel_ker hR).1 h1).1 ((rel_ker hR).1 h1).2 h3⟩
def Vtx (es : List Ed) (L : List Nat) (x : Nat) : Prop := ∃ k ∈ L, x = ea es k ∨ x = eb es k
theorem Vtx.head_a {L : List Nat} {k : Nat} : Vtx es (k :: L) (ea es k) := ⟨k, List.mem_cons_self .., .inl rfl⟩
theorem Vtx.head_b {L : List Nat} {k : Nat} : Vtx es (k :: L) (eb es k) := ⟨k, List.mem_cons_self .., .inr rfl⟩
theorem Vtx.tail {L : List Nat} {k x : Nat} (h : Vtx es L x) : Vtx es (k :: L) x := by obtain ⟨j, hj, h⟩ := h; exact ⟨j, List.mem_cons_of_mem _ hj, h⟩
/-- The count depends on which vertices are one group alone. -/
theorem Nn_sim : ∀ {L : List Nat} {g g' : Nat → Nat} {r : Nat}, (∀ x y, Vtx es L x → Vtx es L y → (g x = g y ↔ g' x = g' y)) → Nn es L g r = Nn es L g' r := by
  intro L
  induction L with
  | nil => intro g g' r _; rfl
  | cons k L ih =>
    intro g g' r h
    have hk := h _ _ Vtx.head_a Vtx.head_b
    have ht : ∀ r, Nn es L g r = Nn es L g' r := fun r => ih fun x y hx hy => h x y hx.tail hy.tail
    by_cases hl : g (ea es k) = g (eb es k)
    · rw [Nn_loop hl, Nn_loop (hk.1 hl)]; exact ht r
    · rcases r with _ | r
      · rw [Nn_zero, Nn_zero]
      · rw [Nn_step hl, Nn_step (fun e => hl (hk.2 e)), ht]
        congr 1
        refine ih fun x y hx hy => ?_
        rw [rel_eq, rel_eq, h x y hx.tail hy.tail, h x _ hx.tail Vtx.head_a, h x _ hx.tail Vtx.head_b, h _ y Vtx.head_b hy.tail, h _ y Vtx.head_a hy.tail]
theorem Nn_perm {L L' : List Nat} (h : L.Perm L') : ∀ (g : Nat → Nat) (r : Nat), Nn es L g r = Nn es L' g r := by
  induction h with
  | nil => intro g r; rfl
  | cons k _ ih => intro g r; rw [Nn, Nn, ih, ih]
  | trans _ _ ih1 ih2 => intro g r; rw [ih1, ih2]
  | swap k j L =>
    intro g r
    rcases r with _ | r
    · rw [Nn_zero, Nn_zero]
    · have rl : ∀ {a b x y : Nat}, g x = g y → rel g (g a) (g b) x = rel g (g a) (g b) y := fun h => rel_eq.2 (.inl h)
      by_cases hj : g (ea es j) = g (eb es j)
      · by_cases hk : g (ea es k) = g (eb es k)
        · rw [Nn_loop hj, Nn_loop hk, Nn_loop hk, Nn_loop hj]
        · rw [Nn_loop hj, Nn_step hk, Nn_step hk, Nn_loop hj, Nn_loop (rl hj)]
      · by_cases hk : g (ea es k) = g (eb es k)
        · rw [Nn_step hj, Nn_loop hk, Nn_loop (rl hk), Nn_loop hk, Nn_step hj]
        · rw [Nn_step hj, Nn_step hk, Nn_step hk, Nn_step hj]
          have par : rel g (g (ea es j)) (g (eb es j)) (ea es k) = rel g (g (ea es j)) (g (eb es j)) (eb es k) ↔ rel g (g (ea es k)) (g (eb es k)) (ea es j) = rel g (g (ea es k)) (g (eb es k)) (eb es j) := by
            rw [rel_eq, rel_eq]; omega
          by_cases hp : rel g (g (ea es j)) (g (eb es j)) (ea es k) = rel g (g (ea es j)) (g (eb es j)) (eb es k)
          · rw [Nn_loop hp, Nn_loop (par.1 hp)]; omega
          · rcases r with _ | r
            · simp only [Nn_zero]
            · rw [Nn_step hp, Nn_step (fun e => hp (par.2 e))]
              have : Nn es L (rel (rel g (g (ea es j)) (g (eb es j))) (rel g (g (ea es j)) (g (eb es j)) (ea es k)) (rel g (g (ea es j)) (g (eb es j)) (eb es k))) r =
                  Nn es L (rel (rel g (g (ea es k)) (g (eb es k))) (rel g (g (ea es k)) (g (eb es k)) (ea es j)) (rel g (g (ea es k)) (g (eb es k)) (eb es j))) r := by
                refine Nn_sim fun x y _ _ => ?_
                rw [rel_rel, rel_rel]
                exact ⟨fun h R hR h1 h2 h3 => h R hR h1 h3 h2, fun h R hR h1 h2 h3 => h R hR h1 h3 h2⟩
              omega
/-- No more than the groups allow. -/
theorem Nn_cap : ∀ {L : List Nat} {g : Nat → Nat} {V : List Nat} {r : Nat}, V ≠ [] → V.length ≤ r → (∀ k ∈ L, g (ea es k) = g (eb es k) ∨ (g (ea es k) ∈ V ∧ g (eb es k) ∈ V)) → Nn es L g r = 0 := by
  intro L
  induction L with
  | nil =>
    intro g V r hV hr _
    have := List.length_pos_iff.2 hV
    rw [Nn, if_neg (by omega)]
  | cons k L ih =>
    intro g V r hV hr h
    have ht := ih hV hr fun j hj => h j (List.mem_cons_of_mem _ hj)
    by_cases hl : g (ea es k) = g (eb es k)
    · rw [Nn_loop hl]; exact ht
    · have hpos := List.length_pos_iff.2 hV
      obtain ⟨r, rfl⟩ : ∃ q, r = q + 1 := ⟨r - 1, by omega⟩
      rw [Nn_step hl, ht]
      obtain ⟨ha, hb⟩ := (h k (List.mem_cons_self ..)).resolve_left hl
      have hd := dl_length_lt ha
      have hmem : g (eb es k) ∈ dl V (g (ea es k)) := mem_dl.2 ⟨hb, fun e => hl e.symm⟩
      rw [ih (V := dl V (g (ea es k))) (List.ne_nil_of_mem hmem) (by omega) fun j hj => ?_]
      rcases h j (List.mem_cons_of_mem _ hj) with e | ⟨h1, h2⟩
      · exact .inl (rel_eq.2 (.inl e))
      · refine .inr ⟨?_, ?_⟩
        · unfold rel; split
          · exact hmem
          · exact mem_dl.2 ⟨h1, by assumption⟩
        · unfold rel; split
          · exact hmem
          · exact mem_dl.2 ⟨h2, by assumption⟩
/-- Streets of which none touches a group of the others: the counts are multiplied. -/
theorem Nn_mul {B : List Nat} {V : List Nat} : ∀ {A : List Nat} {g : Nat → Nat} {rA rB : Nat}, (∀ r, rA < r → Nn es A g r = 0) → (∀ r, rB < r → Nn es B g r = 0) →
    (∀ k ∈ A, g (ea es k) ∈ V ∧ g (eb es k) ∈ V) → (∀ k ∈ B, g (ea es k) ∉ V ∧ g (eb es k) ∉ V) → Nn es (A ++ B) g (rA + rB) = Nn es A g rA * Nn es B g rB := by
  intro A
  induction A with
  | nil =>
    intro g rA rB _ hB _ _
    rcases rA with _ | rA
    · rw [Nn_zero]; simp
    · rw [List.nil_append, hB _ (by omega), Nn, if_neg (by omega)]; simp
  | cons k A ih =>
    intro g rA rB hA hB h1 h2
    obtain ⟨ka, kb⟩ := h1 k (List.mem_cons_self ..)
    have h1' : ∀ k ∈ A, g (ea es k) ∈ V ∧ g (eb es k) ∈ V := fun j hj => h1 j (List.mem_cons_of_mem _ hj)
    by_cases hl : g (ea es k) = g (eb es k)
    · rw [List.cons_append, Nn_loop hl, Nn_loop hl]
      exact ih (fun r hr => by rw [← Nn_loop (es := es) hl]; exact hA r hr) hB h1' h2
    · have hr0 : rA ≠ 0 := by
        rintro rfl
        have := hA 1 (by omega)
        rw [Nn_step hl, Nn_zero] at this
        omega
      obtain ⟨rA, rfl⟩ : ∃ q, rA = q + 1 := ⟨rA - 1, by omega⟩
      have hB2 : ∀ r, Nn es B (rel g (g (ea es k)) (g (eb es k))) r = Nn es B g r := fun r => Nn_sim fun x y hx hy => by
        have hout : ∀ x, Vtx es B x → g x ≠ g (ea es k) := fun x hx e => by
          obtain ⟨j, hj, hx⟩ := hx
          have := h2 j hj
          rcases hx with rfl | rfl
          · exact this.1 (e ▸ ka)
          · exact this.2 (e ▸ ka)
        unfold rel
        rw [if_neg (hout x hx), if_neg (hout y hy)]
      have hA1 : ∀ r, rA + 1 < r → Nn es A g r = 0 ∧ Nn es A (rel g (g (ea es k)) (g (eb es k))) (r - 1) = 0 := fun r hr => by
        obtain ⟨r, rfl⟩ : ∃ q, r = q + 1 := ⟨r - 1, by omega⟩
        have := hA (r + 1) hr
        rw [Nn_step hl] at this
        simp only [Nat.add_sub_cancel]
        omega
      have i1 := ih (fun r hr => (hA1 r hr).1) hB h1' h2
      have i2 := ih (g := rel g (g (ea es k)) (g (eb es k))) (rA := rA) (rB := rB) (fun r hr => (hA1 (r + 1) (by omega)).2) (fun r hr => by rw [hB2]; exact hB r hr)
        (fun j hj => by
          obtain ⟨a, b⟩ := h1' j hj
          unfold rel
          exact ⟨by split <;> assumption, by split <;> assumption⟩)
        (fun j hj => by
          obtain ⟨a, b⟩ := h2 j hj
          unfold rel
          refine ⟨?_, ?_⟩
          · rw [if_neg (fun e : g (ea es j) = g (ea es k) => a (by rw [e]; exact ka))]; exact a
          · rw [if_neg (fun e : g (eb es j) = g (ea es k) => b (by rw [e]; exact ka))]; exact b)
      rw [List.cons_append, show rA + 1 + rB = rA + rB + 1 by omega, Nn_step hl, Nn_step hl, show rA + rB + 1 = rA + 1 + rB by omega, i1, i2, hB2, Nat.add_mul]
/-- A bound. -/
theorem Nn_bound : ∀ {L : List Nat} {g : Nat → Nat} {r : Nat}, Nn es L g r * 2 ^ L.length ≤ 3 ^ L.length * 2 ^ r := by
  intro L
  induction L with
  | nil =>
    intro g r
    rw [Nn]
    have := Nat.pow_pos (n := r) (show 0 < 2 by omega)
    split <;> simp; omega
  | cons k L ih =>
    intro g r
    have i1 := ih (g := g) (r := r)
    have p3 := Nat.pow_pos (n := L.length) (show 0 < 3 by omega)
    rw [List.length_cons, Nat.pow_succ, Nat.pow_succ]
    by_cases hl : g (ea es k) = g (eb es k)
    · rw [Nn_loop hl]
      calc Nn es L g r * (2 ^ L.length * 2) = (Nn es L g r * 2 ^ L.length) * 2 := by grind
        _ ≤ (3 ^ L.length * 2 ^ r) * 3 := Nat.mul_le_mul i1 (by omega)
        _ = _ := by grind
    · rcases r with _ | r
      · rw [Nn_zero] at i1 ⊢
        omega
      · rw [Nn_step hl]
        have i2 := ih (g := rel g (g (ea es k)) (g (eb es k))) (r := r)
        rw [Nat.pow_succ] at i1 ⊢
        generalize Nn es L g (r + 1) = x at *
        generalize Nn es L _ r = y at *
        generalize 2 ^ L.length = c at *
        generalize 3 ^ L.length = d at *
        generalize 2 ^ r = e at *
        have : (x + y) * (c * 2) = 2 * (x * c) + 2 * (y * c) := by grind
        have : d * 3 * (e * 2) = 2 * (d * (e * 2)) + 2 * (d * e) := by grind
        omega

/-- The Laplacian. -/
def dlt (x y : Nat) : Int := if x = y then 1 else 0
def ent (es : List Ed) (V : List Nat) (g : Nat → Nat) (k i j : Nat) : Int := (dlt (nat_ V i) (g (ea es k)) - dlt (nat_ V i) (g (eb es k))) * (dlt (nat_ V j) (g (ea es k)) - dlt (nat_ V j) (g (eb es k)))
def lap (es : List Ed) (V : List Nat) (g : Nat → Nat) : List Nat → Nat → Nat → Int
  | [], _, _ => 0
  | k :: L, i, j => lap es V g L i j + ent es V g k i j
theorem lap_perm {V : List Nat} {g : Nat → Nat} {L L' : List Nat} (h : L.Perm L') (i j : Nat) : lap es V g L i j = lap es V g L' i j := by
  induction h with
  | nil => rfl
  | cons k _ ih => rw [lap, lap, ih]
  | trans _ _ ih1 ih2 => rw [ih1, ih2]
  | swap k j L => rw [lap, lap, lap, lap]; omega
theorem lap_append {V : List Nat} {g : Nat → Nat} (L L' : List Nat) (i j : Nat) : lap es V g (L ++ L') i j = lap es V g L i j + lap es V g L' i j := by
  induction L with
  | nil => simp [lap]
  | cons k L ih => rw [List.cons_append, lap, lap, ih]; omega
theorem nat_inj {V : List Nat} (h : V.Nodup) {i j : Nat} (hi : i < V.length) (hj : j < V.length) (e : nat_ V i = nat_ V j) : i = j := by
  rw [nat_get hi, nat_get hj] at e
  exact (List.getElem_inj h).1 e
theorem nat_eraseIdx {V : List Nat} {p i : Nat} (hp : p < V.length) : nat_ (V.eraseIdx p) i = nat_ V (sk p i) := by
  unfold nat_ sk
  rw [List.getD_eq_getElem?_getD, List.getD_eq_getElem?_getD, List.getElem?_eraseIdx]
  split <;> rfl
theorem sum_dlt {V : List Nat} (h : V.Nodup) {x : Nat} (hx : x ∈ V) : sumN (fun i => dlt (nat_ V i) x) V.length = 1 := by
  obtain ⟨i, hi, rfl⟩ := List.mem_iff_getElem.1 hx
  rw [sumN_one hi (fun j hj hne => ?_)]
  · unfold dlt; rw [nat_get hi, if_pos rfl]
  · unfold dlt
    rw [if_neg (fun e => hne (nat_inj h hj hi (by rw [nat_get hi]; exact e)))]
theorem lap_col {V : List Nat} (hV : V.Nodup) {g : Nat → Nat} {L : List Nat} (h : ∀ k ∈ L, g (ea es k) = g (eb es k) ∨ (g (ea es k) ∈ V ∧ g (eb es k) ∈ V)) (j : Nat) : sumN (fun i => lap es V g L i j) V.length = 0 := by
  induction L with
  | nil => exact sumN_zero fun _ _ => rfl
  | cons k L ih =>
    have ih := ih fun j hj => h j (List.mem_cons_of_mem _ hj)
    have e : sumN (fun i => lap es V g (k :: L) i j) V.length = 1 * sumN (fun i => lap es V g L i j) V.length + 1 * sumN (fun i => ent es V g k i j) V.length := by
      rw [← sumN_lin]; exact sumN_congr fun i _ => by rw [lap]; omega
    rw [e, ih]
    have h0 : sumN (fun i => ent es V g k i j) V.length = 0 := by
      rcases h k (List.mem_cons_self ..) with e | ⟨h1, h2⟩
      · exact sumN_zero fun i _ => by unfold ent; rw [e]; simp
      · have : sumN (fun i => ent es V g k i j) V.length = (dlt (nat_ V j) (g (ea es k)) - dlt (nat_ V j) (g (eb es k))) * sumN (fun i => 1 * dlt (nat_ V i) (g (ea es k)) + (-1) * dlt (nat_ V i) (g (eb es k))) V.length := by
          rw [← sumN_mul]; exact sumN_congr fun i _ => by unfold ent; grind
        rw [this, sumN_lin, sum_dlt hV h1, sum_dlt hV h2]; simp
    omega
theorem det_zero_mat {n : Nat} {M : Nat → Nat → Int} (h : ∀ i j, M i j = 0) : det n M = if n = 0 then 1 else 0 := by
  rcases n with _ | n
  · rfl
  · rw [if_neg (by omega)]; exact det_col_zero fun i _ => h i 0
/-- The matrix-tree theorem: the groups V and the group z, of which the streets join some. -/
theorem mt : ∀ (m : Nat) (L : List Nat) (g : Nat → Nat) (V : List Nat) (z : Nat), L.length = m → V.Nodup → z ∉ V → (∀ k ∈ L, (g (ea es k) = z ∨ g (ea es k) ∈ V) ∧ (g (eb es k) = z ∨ g (eb es k) ∈ V)) →
    det V.length (lap es V g L) = (Nn es L g V.length : Int) := by
  intro m
  induction m with
  | zero =>
    intro L g V z hm _ _ _
    have : L = [] := List.eq_nil_of_length_eq_zero hm
    subst this
    rw [det_zero_mat (M := lap es V g []) (fun _ _ => rfl), Nn]
    split <;> rfl
  | succ m ih =>
    intro L g V z hm hV hz h
    by_cases hex : ∃ k ∈ L, g (ea es k) ≠ g (eb es k) ∧ (g (ea es k) = z ∨ g (eb es k) = z)
    · obtain ⟨k, hk, hne, hkz⟩ := hex
      have hper := List.perm_cons_erase hk
      have hlen : (L.erase k).length = m := by rw [List.length_erase_of_mem hk]; omega
      have hsub : ∀ j ∈ L.erase k, j ∈ L := fun j hj => List.mem_of_mem_erase hj
      generalize L.erase k = L' at *
      obtain ⟨v, hv, hent, hNn⟩ : ∃ v, v ∈ V ∧ (∀ i j, i < V.length → j < V.length → ent es V g k i j = dlt (nat_ V i) v * dlt (nat_ V j) v) ∧
          ∀ r, Nn es L' (rel g (g (ea es k)) (g (eb es k))) r = Nn es L' (rel g v z) r := by
        have hz0 : ∀ i, i < V.length → dlt (nat_ V i) z = 0 := fun i hi => by
          unfold dlt; rw [if_neg]; intro e; exact hz (e ▸ nat_mem hi)
        rcases hkz with e | e
        · refine ⟨g (eb es k), ((h k hk).2).resolve_left (fun e2 => hne (e.trans e2.symm)), fun i j hi hj => ?_, fun r => Nn_sim fun x y _ _ => ?_⟩
          · unfold ent; rw [e, hz0 i hi, hz0 j hj]; grind
          · rw [← e, rel_eq, rel_eq]; omega
        · refine ⟨g (ea es k), ((h k hk).1).resolve_left (fun e2 => hne (e2.trans e.symm)), fun i j hi hj => ?_, fun r => by rw [e]⟩
          unfold ent; rw [e, hz0 i hi, hz0 j hj]; grind
      obtain ⟨p, hp, hpv⟩ := List.mem_iff_getElem.1 hv
      have hpv : nat_ V p = v := by rw [nat_get hp]; exact hpv
      have hvz : v ≠ z := fun e => hz (e ▸ hv)
      obtain ⟨q, hq⟩ : ∃ q, V.length = q + 1 := ⟨V.length - 1, by omega⟩
      have hdp : ∀ j, j < V.length → dlt (nat_ V j) v = if j = p then 1 else 0 := fun j hj => by
        unfold dlt
        by_cases e : j = p
        · subst e; rw [hpv, if_pos rfl, if_pos rfl]
        · rw [if_neg (fun e2 => e (nat_inj hV hj hp (e2.trans hpv.symm))), if_neg e]
      have hIH := ih L' g V z hlen hV hz fun j hj => h j (hsub j hj)
      have hVl : (V.eraseIdx p).length = q := by rw [List.length_eraseIdx_of_lt hp]; omega
      have hV'n : (V.eraseIdx p).Nodup := hV.sublist (List.eraseIdx_sublist ..)
      have hV'm : ∀ x, x ∈ V.eraseIdx p ↔ x ∈ V ∧ x ≠ v := fun x => by
        constructor
        · intro hx
          obtain ⟨i, hi, e⟩ := List.mem_iff_getElem.1 hx
          have e : nat_ (V.eraseIdx p) i = x := by rw [nat_get hi]; exact e
          rw [nat_eraseIdx hp] at e
          have hsk : sk p i < V.length := by rw [hq]; exact sk_lt (by omega)
          refine ⟨e ▸ nat_mem hsk, fun e2 => sk_ne p i (nat_inj hV hsk hp ?_)⟩
          rw [e, hpv]; exact e2
        · rintro ⟨hx, hne2⟩
          obtain ⟨i, hi, e⟩ := List.mem_iff_getElem.1 hx
          have e : nat_ V i = x := by rw [nat_get hi]; exact e
          have hip : i ≠ p := by rintro rfl; exact hne2 (e.symm.trans hpv)
          obtain ⟨i', hi', hi2⟩ : ∃ i', sk p i' = i ∧ i' < q := by
            unfold sk
            by_cases g : i < p
            · exact ⟨i, by rw [if_pos g], by omega⟩
            · exact ⟨i - 1, by rw [if_neg (by omega)]; omega, by omega⟩
          rw [← e, ← hi', ← nat_eraseIdx hp]
          exact nat_mem (by omega)
      have hIH2 := ih L' (rel g v z) (V.eraseIdx p) z hlen hV'n (fun hz' => hz ((hV'm z).1 hz').1) fun j hj => by
        obtain ⟨h1, h2⟩ := h j (hsub j hj)
        have one : ∀ x, (g x = z ∨ g x ∈ V) → (rel g v z x = z ∨ rel g v z x ∈ V.eraseIdx p) := fun x hx => by
          unfold rel
          split
          · exact .inl rfl
          · rename_i hne2
            rcases hx with hx | hx
            · exact .inl hx
            · exact .inr ((hV'm _).2 ⟨hx, hne2⟩)
        exact ⟨one _ h1, one _ h2⟩
      rw [hVl] at hIH2
      rw [hq] at hIH ⊢
      rw [Nn_perm hper, Nn_step hne, hNn, Int.natCast_add, ← hIH, ← hIH2]
      rw [det_congr (M' := lap es V g (k :: L')) fun i j _ _ => lap_perm hper i j]
      have hlin := det_lin (n := q + 1) (k := p) (M := lap es V g (k :: L')) (P := lap es V g L') (Q := setR (lap es V g L') p (fun j => if j = p then 1 else 0)) (c := 1) (d := 1) (by omega)
        (fun i j hi hj hne2 => by
          rw [setR_ne hne2, lap, hent i j (by omega) (by omega), hdp i (by omega), if_neg hne2]
          constructor <;> omega)
        (fun j hj => by
          rw [setR_at, lap, hent p j (by omega) (by omega), hdp p hp, hdp j (by omega), if_pos rfl]; omega)
      rw [hlin]
      have hun := det_unit_diag (n := q) (a := p) (M := setR (lap es V g L') p (fun j => if j = p then 1 else 0)) (by omega) (fun j _ => by rw [setR_at])
      rw [hun]
      have hfin : det q (fun i j => setR (lap es V g L') p (fun j => if j = p then 1 else 0) (sk p i) (sk p j)) = det q (lap es (V.eraseIdx p) (rel g v z) L') := det_congr fun i j hi hj => by
        rw [setR_ne (sk_ne p i)]
        have hd : ∀ i x, i < q → dlt (nat_ (V.eraseIdx p) i) (rel g v z x) = dlt (nat_ V (sk p i)) (g x) := fun i x hi => by
          have hm := (hV'm _).1 (nat_mem (xs := V.eraseIdx p) (k := i) (by omega))
          rw [nat_eraseIdx hp] at hm ⊢
          unfold rel dlt
          by_cases e : g x = v
          · rw [if_pos e, e, if_neg hm.2, if_neg (fun e2 : _ = z => hz (by rw [← e2]; exact hm.1))]
          · rw [if_neg e]
        have : ∀ L : List Nat, lap es V g L (sk p i) (sk p j) = lap es (V.eraseIdx p) (rel g v z) L i j := fun L => by
          induction L with
          | nil => rfl
          | cons k L ih =>
            rw [lap, lap, ih]
            unfold ent
            rw [hd i _ hi, hd i _ hi, hd j _ hj, hd j _ hj]
        exact this L'
      rw [hfin]
      omega
    · have hin : ∀ k ∈ L, g (ea es k) = g (eb es k) ∨ (g (ea es k) ∈ V ∧ g (eb es k) ∈ V) := fun k hk => by
        by_cases e : g (ea es k) = g (eb es k)
        · exact .inl e
        · obtain ⟨h1, h2⟩ := h k hk
          exact .inr ⟨h1.resolve_left fun e2 => hex ⟨k, hk, e, .inl e2⟩, h2.resolve_left fun e2 => hex ⟨k, hk, e, .inr e2⟩⟩
      by_cases hV0 : V = []
      · subst hV0
        show det 0 _ = _
        rw [List.length_nil, Nn_zero]; rfl
      · obtain ⟨q, hq⟩ : ∃ q, V.length = q + 1 := ⟨V.length - 1, by have := List.length_pos_iff.2 hV0; omega⟩
        rw [Nn_cap hV0 (Nat.le_refl _) hin, hq, det_sum_rows fun j _ => by rw [← hq]; exact lap_col hV hin j]
        rfl
end

end Go.Proofs.Ytpfbichomgojoaa
