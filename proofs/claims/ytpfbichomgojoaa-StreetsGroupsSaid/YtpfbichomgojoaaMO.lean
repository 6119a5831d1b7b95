/- The program's order of streets is the reference's. -/
import Derived.Test.YtpfbichomgojoaaMP
namespace Go.Proofs.Ytpfbichomgojoaa

/-- Street x comes before street y. -/
def bef (es : List Ed) (x y : Nat) : Prop := ew es x < ew es y ∨ (ew es x = ew es y ∧ x < y)
theorem bef_irr (es : List Ed) (x : Nat) : ¬ bef es x x := by unfold bef; omega
theorem bef_trans {es : List Ed} {x y z : Nat} (h1 : bef es x y) (h2 : bef es y z) : bef es x z := by unfold bef at *; omega
theorem bef_total (es : List Ed) {x y : Nat} (h : x ≠ y) : bef es x y ∨ bef es y x := by unfold bef; omega

/-- Two lists in strict order with the same members are one. -/
theorem sorted_unique {R : Nat → Nat → Prop} (irr : ∀ x, ¬ R x x) (tr : ∀ x y z, R x y → R y z → R x z) :
    ∀ (l l' : List Nat), l.Pairwise R → l'.Pairwise R → (∀ x, x ∈ l ↔ x ∈ l') → l = l'
  | [], [], _, _, _ => rfl
  | [], y :: l', _, _, h => by have := (h y).2 (List.mem_cons_self ..); simp at this
  | x :: l, [], _, _, h => by have := (h x).1 (List.mem_cons_self ..); simp at this
  | x :: l, y :: l', h1, h2, h => by
    rw [List.pairwise_cons] at h1 h2
    have hxy : x = y := by
      have hx := (h x).1 (List.mem_cons_self ..)
      have hy := (h y).2 (List.mem_cons_self ..)
      rcases List.mem_cons.1 hx with e | hx
      · exact e
      · rcases List.mem_cons.1 hy with e | hy
        · exact e.symm
        · exact absurd (tr _ _ _ (h1.1 y hy) (h2.1 x hx)) (irr x)
    subst hxy
    congr 1
    refine sorted_unique irr tr l l' h1.2 h2.2 (fun z => ⟨fun hz => ?_, fun hz => ?_⟩)
    · rcases List.mem_cons.1 ((h z).1 (List.mem_cons_of_mem _ hz)) with e | hz'
      · subst e; exact absurd (h1.1 z hz) (irr z)
      · exact hz'
    · rcases List.mem_cons.1 ((h z).2 (List.mem_cons_of_mem _ hz)) with e | hz'
      · subst e; exact absurd (h2.1 z hz) (irr z)
      · exact hz'

theorem ordK_sorted (es : List Ed) (k : Nat) : (ordK es k).Pairwise (bef es) := by
  induction k with
  | zero => simp [ordK]
  | succ k ih =>
    rw [ordK_succ]
    have hm : ∀ x ∈ ordK es k, x < k := fun x hx => (ordK_mem es k x).1 hx
    generalize ordK es k = out at *
    unfold insL
    have key : ∀ (out : List Nat), out.Pairwise (bef es) → (∀ x ∈ out, x < k) →
        (out.takeWhile (fun j => decide (ew es j ≤ ew es k)) ++ k :: out.dropWhile (fun j => decide (ew es j ≤ ew es k))).Pairwise (bef es) := by
      intro out
      induction out with
      | nil => intro _ _; simp
      | cons x out ih2 =>
        intro hs hl
        rw [List.pairwise_cons] at hs
        by_cases hx : ew es x ≤ ew es k
        · rw [List.takeWhile_cons_of_pos (by simpa using hx), List.dropWhile_cons_of_pos (by simpa using hx), List.cons_append, List.pairwise_cons]
          refine ⟨fun y hy => ?_, ih2 hs.2 (fun y hy => hl y (List.mem_cons_of_mem _ hy))⟩
          have hsplit := List.takeWhile_append_dropWhile (p := fun j => decide (ew es j ≤ ew es k)) (l := out)
          rcases List.mem_append.1 hy with h | h
          · exact hs.1 y (by rw [← hsplit]; exact List.mem_append_left _ h)
          · rcases List.mem_cons.1 h with e | h
            · subst e; have := hl x (List.mem_cons_self ..); unfold bef; omega
            · exact hs.1 y (by rw [← hsplit]; exact List.mem_append_right _ h)
        · rw [List.takeWhile_cons_of_neg (by simpa using hx), List.dropWhile_cons_of_neg (by simpa using hx), List.nil_append, List.pairwise_cons]
          refine ⟨fun y hy => ?_, List.pairwise_cons.2 hs⟩
          have hxy : bef es k x := by unfold bef; omega
          rcases List.mem_cons.1 hy with e | h
          · subst e; exact hxy
          · exact bef_trans hxy (hs.1 y h)
    exact key out ih hm
theorem ordL_sorted (es : List Ed) : (ordL es).Pairwise (bef es) := ordK_sorted es _
/-- Whatever list is in this order, with all positions, is the order. -/
theorem ordL_unique {es : List Ed} {l : List Nat} (h1 : l.Pairwise (bef es)) (h2 : ∀ x, x ∈ l ↔ x < es.length) : l = ordL es :=
  sorted_unique (bef_irr es) (fun _ _ _ => bef_trans) l _ h1 (ordL_sorted es) (fun x => by rw [h2, ordL_mem])

end Go.Proofs.Ytpfbichomgojoaa
