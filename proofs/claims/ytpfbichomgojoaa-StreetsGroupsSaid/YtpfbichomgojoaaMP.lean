/- The plain functions of the program's side: parts as a tree of vertices, the streets that are taken. -/
import Derived.Test.YtpfbichomgojoaaM
namespace Go.Proofs.Ytpfbichomgojoaa

/-- The vertex that stands for a part. -/
def rootU (ups : List Nat) (v : Nat) : Nat := if _h : nat_ ups v < v then rootU ups (nat_ ups v) else v
termination_by v
/-- Each vertex lies at or above the one that it points to. -/
def WfU (ups : List Nat) : Prop := ups.length = 16 ∧ ∀ v, v < 16 → nat_ ups v ≤ v
theorem rootU_le (ups : List Nat) (v : Nat) : rootU ups v ≤ v := by
  induction v using Nat.strongRecOn with
  | _ v ih =>
    rw [rootU]
    split
    · rename_i h; exact Nat.le_trans (ih _ h) (Nat.le_of_lt h)
    · exact Nat.le_refl _
theorem rootU_step {ups : List Nat} {v : Nat} (h : nat_ ups v < v) : rootU ups v = rootU ups (nat_ ups v) := by
  conv => lhs; rw [rootU]
  rw [dif_pos h]
theorem rootU_stop {ups : List Nat} {v : Nat} (h : ¬ nat_ ups v < v) : rootU ups v = v := by
  rw [rootU, dif_neg h]
theorem rootU_fix {ups : List Nat} (hw : WfU ups) (v : Nat) (hv : v < 16) : nat_ ups (rootU ups v) = rootU ups v := by
  induction v using Nat.strongRecOn with
  | _ v ih =>
    by_cases h : nat_ ups v < v
    · rw [rootU_step h]; exact ih _ h (by omega)
    · rw [rootU_stop h]; have := hw.2 v hv; omega
theorem nat_set {xs : List Nat} {i x j : Nat} (h : i < xs.length) : nat_ (xs.set i x) j = if i = j then x else nat_ xs j := by
  simp only [nat_, List.getD_eq_getElem?_getD, List.getElem?_set]
  split
  · rename_i e; subst e; simp [h]
  · rfl
theorem WfU.join {ups : List Nat} (hw : WfU ups) {u v : Nat} (hu : u < 16) (hv : v < 16) :
    WfU (ups.set (max (rootU ups u) (rootU ups v)) (min (rootU ups u) (rootU ups v))) := by
  have h1 := rootU_le ups u
  have h2 := rootU_le ups v
  refine ⟨by rw [List.length_set]; exact hw.1, fun x hx => ?_⟩
  rw [nat_set (by rw [hw.1]; omega)]
  split
  · omega
  · exact hw.2 x hx
theorem rootU_join {ups : List Nat} (hw : WfU ups) {u v : Nat} (hu : u < 16) (hv : v < 16) (x : Nat) (hx : x < 16) :
    rootU (ups.set (max (rootU ups u) (rootU ups v)) (min (rootU ups u) (rootU ups v))) x =
      if rootU ups x = max (rootU ups u) (rootU ups v) then min (rootU ups u) (rootU ups v) else rootU ups x := by
  have h1 := rootU_le ups u
  have h2 := rootU_le ups v
  have f1 := rootU_fix hw u hu
  have f2 := rootU_fix hw v hv
  generalize rootU ups u = a at *
  generalize rootU ups v = b at *
  have hM : nat_ ups (max a b) = max a b := by rcases Nat.le_total a b with h | h <;> simp [Nat.max_eq_right, Nat.max_eq_left, h, f1, f2]
  have hm : nat_ ups (min a b) = min a b := by rcases Nat.le_total a b with h | h <;> simp [Nat.min_eq_right, Nat.min_eq_left, h, f1, f2]
  have hml : min a b ≤ max a b := by omega
  have hM16 : max a b < 16 := by omega
  generalize max a b = M at *
  generalize min a b = m at *
  have hset : ∀ j, nat_ (ups.set M m) j = if M = j then m else nat_ ups j := fun j => nat_set (by rw [hw.1]; exact hM16)
  have rm : rootU ups m = m := rootU_stop (by omega)
  have rM : rootU ups M = M := rootU_stop (by omega)
  have rm' : rootU (ups.set M m) m = m := rootU_stop (by rw [hset]; split <;> omega)
  induction x using Nat.strongRecOn with
  | _ x ih =>
    by_cases hxM : M = x
    · subst hxM
      rw [rM, if_pos rfl]
      by_cases hlt : m < M
      · rw [rootU_step (by rw [hset, if_pos rfl]; exact hlt), hset, if_pos rfl, rm']
      · rw [rootU_stop (by rw [hset, if_pos rfl]; exact hlt)]; omega
    · by_cases hlt : nat_ ups x < x
      · rw [rootU_step (by rw [hset, if_neg hxM]; exact hlt), hset, if_neg hxM, rootU_step hlt]
        exact ih _ hlt (by omega)
      · rw [rootU_stop (by rw [hset, if_neg hxM]; exact hlt), rootU_stop hlt, if_neg (fun e => hxM e.symm)]

/-- The parts' tree stands for these groups. -/
def Rep (n : Nat) (ups g : List Nat) : Prop := WfU ups ∧ g.length = n ∧ ∀ v, v < n → rootU ups v = nat_ g v
theorem Rep.join {n : Nat} {ups g : List Nat} (h : Rep n ups g) (hn : n ≤ 16) {u v : Nat} (hu : u < n) (hv : v < n) :
    Rep n (ups.set (max (rootU ups u) (rootU ups v)) (min (rootU ups u) (rootU ups v))) (joinL g u v) := by
  obtain ⟨hw, hg, hr⟩ := h
  refine ⟨hw.join (by omega) (by omega), by rw [joinL_length, hg], fun x hx => ?_⟩
  rw [rootU_join hw (by omega) (by omega) x (by omega), nat_join u v (by rw [hg]; exact hx), hr x hx, hr u hu, hr v hv]
theorem nat_range {n i : Nat} (h : i < n) : nat_ (List.range n) i = i := by rw [nat_get (by simpa using h)]; simp
theorem Rep.start {n : Nat} (hn : n ≤ 16) : Rep n (List.range 16) (List.range n) := by
  refine ⟨⟨by simp, fun v hv => by rw [nat_range hv]; exact Nat.le_refl _⟩, by simp, fun v hv => ?_⟩
  rw [rootU_stop (by rw [nat_range (by omega)]; omega), nat_range hv]

/-- The streets that are taken, in the order in which they are, and the groups. -/
def kruS (es : List Ed) (s : List Nat × List Nat) (k : Nat) : List Nat × List Nat :=
  if nat_ s.1 (ed_ es k).a = nat_ s.1 (ed_ es k).b then s else (joinL s.1 (ed_ es k).a (ed_ es k).b, s.2 ++ [k])
def kruF (n : Nat) (es : List Ed) (l : List Nat) : List Nat × List Nat := l.foldl (kruS es) (List.range n, [])
def kruT (n : Nat) (es : List Ed) (l : List Nat) : List Nat := (kruF n es l).2
def kruG (n : Nat) (es : List Ed) (l : List Nat) : List Nat := (kruF n es l).1
theorem kruF_succ {n : Nat} {es : List Ed} {l : List Nat} {k : Nat} (h : k < l.length) : kruF n es (l.take (k + 1)) = kruS es (kruF n es (l.take k)) (nat_ l k) := foldl_take_nat h
theorem kruS_no {es : List Ed} {s : List Nat × List Nat} {k : Nat} (h : nat_ s.1 (ed_ es k).a = nat_ s.1 (ed_ es k).b) : kruS es s k = s := if_pos h
theorem kruS_yes {es : List Ed} {s : List Nat × List Nat} {k : Nat} (h : ¬ nat_ s.1 (ed_ es k).a = nat_ s.1 (ed_ es k).b) : kruS es s k = (joinL s.1 (ed_ es k).a (ed_ es k).b, s.2 ++ [k]) := if_neg h
theorem kruT_length_le (n : Nat) (es : List Ed) (l : List Nat) : (kruF n es l).2.length ≤ l.length := by
  have key : ∀ (l : List Nat) (s : List Nat × List Nat), (l.foldl (kruS es) s).2.length ≤ s.2.length + l.length := by
    intro l
    induction l with
    | nil => intro s; simp
    | cons x l ih =>
      intro s
      refine Nat.le_trans (ih _) ?_
      unfold kruS
      split
      · simp
      · simp; omega
  have := key l (List.range n, [])
  simp only [List.length_nil, Nat.zero_add] at this
  exact this
theorem kruT_mem {n : Nat} {es : List Ed} {l : List Nat} {x : Nat} (h : x ∈ kruT n es l) : x ∈ l := by
  have key : ∀ (l : List Nat) (s : List Nat × List Nat), x ∈ (l.foldl (kruS es) s).2 → x ∈ l ∨ x ∈ s.2 := by
    intro l
    induction l with
    | nil => intro s h; exact .inr h
    | cons y l ih =>
      intro s h
      rcases ih _ h with h | h
      · exact .inl (List.mem_cons_of_mem _ h)
      · unfold kruS at h
        split at h
        · exact .inr h
        · rcases List.mem_append.1 h with h | h
          · exact .inr h
          · exact .inl (by rw [List.mem_singleton.1 h]; exact List.mem_cons_self ..)
  rcases key l _ h with h | h
  · exact h
  · simp at h

end Go.Proofs.Ytpfbichomgojoaa
