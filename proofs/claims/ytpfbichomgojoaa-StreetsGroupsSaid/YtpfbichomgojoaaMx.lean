/- Square matrices of numbers in memory: an outer row of slices, and rows, apart from each other. -/
import Derived.Test.YtpfbichomgojoaaK
import Derived.Test.YtpfbichomgojoaaQM
namespace Go.Proofs.Ytpfbichomgojoaa
open Go.RowKit

def d_ (ds : List (Option Addr × Nat)) (i : Nat) : Option Addr × Nat := ds.getD i (none, 0)
def rowV (s : Nat) (d : Option Addr × Nat) : Value := .slice d.1 s d.2
theorem d_get {ds : List (Option Addr × Nat)} {i : Nat} (h : i < ds.length) : d_ ds i = ds[i] := by simp [d_, List.getD_eq_getElem?_getD, List.getElem?_eq_getElem h]
theorem d_set {M : List (Option Addr × Nat)} {i j : Nat} {x : Option Addr × Nat} (h : i < M.length) : d_ (M.set i x) j = if i = j then x else d_ M j := by
  unfold d_
  rw [List.getD_eq_getElem?_getD, List.getD_eq_getElem?_getD, List.getElem?_set]
  by_cases e : i = j
  · subst e; simp [h]
  · simp [e]

/-- The matrix M at the slice O. -/
structure Mat (w : World) (B : Nat) (O : Option Addr) (s c : Nat) (ds : List (Option Addr × Nat)) (M : List (List Nat)) : Prop where
  outer : w.ownsRow B 24 1 (.slice O s c) s (ds.map (rowV s))
  len : M.length = s
  row : ∀ i, i < s → OwnN w B (d_ ds i).1 s (d_ ds i).2 (row_ M i)
  apart : ∀ i j, i < s → j < s → i ≠ j → Dj (d_ ds i).1 (d_ ds j).1
  out : ∀ i, i < s → Dj O (d_ ds i).1

section
variable {w w' : World} {B : Nat} {O : Option Addr} {s c : Nat} {ds : List (Option Addr × Nat)} {M : List (List Nat)}
theorem Mat.dlen (h : Mat w B O s c ds M) : ds.length = s := by have := h.outer.1; simpa using this
theorem Mat.below (h : Mat w B O s c ds M) (hb : Below w.heap.size w w') : Mat w' B O s c ds M :=
  ⟨own_below h.outer hb, h.len, fun i hi => own_below (h.row i hi) hb, h.apart, h.out⟩
theorem Mat.at_ (h : Mat w B O s c ds M) {i : Nat} (hi : i < s) : ∃ b, O = some ⟨b, 0, none⟩ ∧ B ≤ b ∧ b < w.heap.size ∧ w.cell? ⟨b, i, none⟩ = some (rowV s (d_ ds i)) := by
  have hd := h.dlen
  obtain ⟨g, e, h1, h2, h3, _⟩ := own_at h.outer (k := i) (v := rowV s (d_ ds i)) (by rw [List.getElem?_map, List.getElem?_eq_getElem (by omega), d_get (by omega)]; rfl)
  exact ⟨g, e, h1, h2, h3⟩
/-- One number written. -/
theorem Mat.put (h : Mat w B O s c ds M) {i j : Nat} (hi : i < s) (hj : j < s) (v : Nat) :
    ∃ g, (d_ ds i).1 = some ⟨g, 0, none⟩ ∧ B ≤ g ∧ g < w.heap.size ∧ w.cell? ⟨g, j, none⟩ = some (.int .i64 ((nat_ (row_ M i) j : Nat) : Int)) ∧ w.frozen? ⟨g, j, none⟩ = false ∧
      Mat (w.setCell ⟨g, j, none⟩ (.int .i64 (v : Int))) B O s c ds (M.set i ((row_ M i).set j v)) ∧ w.grownBy (w.setCell ⟨g, j, none⟩ (.int .i64 (v : Int))) (some g) := by
  have hr := h.row i hi
  have hrl := hr.len
  obtain ⟨g, e, h1, h2, h3, h4, hst⟩ := own_at hr (nv_get (row_ M i) j (by omega))
  obtain ⟨ho, hg⟩ := hst (.int .i64 (v : Int))
  refine ⟨g, e, h1, h2, h3, h4, ⟨own_other h.outer hg ?_, by rw [List.length_set]; exact h.len, fun k hk => ?_, h.apart, h.out⟩, hg⟩
  · intro hb
    exact h.out i hi g hb (by rw [e]; rfl)
  · rw [row_set (by rw [h.len]; exact hi)]
    by_cases hik : i = k
    · subst hik
      rw [if_pos rfl]
      unfold OwnN
      rw [← nv_set]; exact ho
    · rw [if_neg hik]
      exact own_other (h.row k hk) hg (fun hb => h.apart k i hk hi (fun e => hik e.symm) g hb (by rw [e]; rfl))
/-- Two rows exchanged. -/
theorem Mat.swap (h : Mat w B O s c ds M) {i j : Nat} (hi : i < s) (hj : j < s) (g : Nat) (hO : O = some ⟨g, 0, none⟩) :
    Mat ((w.setCell ⟨g, i, none⟩ (rowV s (d_ ds j))).setCell ⟨g, j, none⟩ (rowV s (d_ ds i))) B O s c ((ds.set i (d_ ds j)).set j (d_ ds i)) ((M.set i (row_ M j)).set j (row_ M i)) ∧
      w.grownBy ((w.setCell ⟨g, i, none⟩ (rowV s (d_ ds j))).setCell ⟨g, j, none⟩ (rowV s (d_ ds i))) (some g) := by
  have hd := h.dlen
  subst hO
  have hv : ∀ (ds : List (Option Addr × Nat)) k, k < ds.length → (ds.map (rowV s))[k]? = some (rowV s (d_ ds k)) := fun ds k hk => by
    rw [List.getElem?_map, List.getElem?_eq_getElem hk, d_get hk]; rfl
  obtain ⟨g1, e, _, _, _, _, hst⟩ := own_at h.outer (hv ds i (by omega))
  injection e with e; injection e with e; subst e
  obtain ⟨ho1, hg1⟩ := hst (rowV s (d_ ds j))
  have hm1 : (ds.map (rowV s)).set i (rowV s (d_ ds j)) = (ds.set i (d_ ds j)).map (rowV s) := by rw [List.map_set]
  rw [hm1] at ho1
  obtain ⟨g2, e, _, _, _, _, hst⟩ := own_at ho1 (hv _ j (by rw [List.length_set]; omega))
  injection e with e; injection e with e; subst e
  obtain ⟨ho2, hg2⟩ := hst (rowV s (d_ ds i))
  have hm2 : ((ds.set i (d_ ds j)).map (rowV s)).set j (rowV s (d_ ds i)) = ((ds.set i (d_ ds j)).set j (d_ ds i)).map (rowV s) := by rw [← List.map_set]
  rw [hm2] at ho2
  have hgg := hg1.trans hg2
  have hD : ∀ k, d_ ((ds.set i (d_ ds j)).set j (d_ ds i)) k = if j = k then d_ ds i else if i = k then d_ ds j else d_ ds k := fun k => by
    rw [d_set (by rw [List.length_set]; omega), d_set (by omega)]
  have hM : ∀ k, row_ ((M.set i (row_ M j)).set j (row_ M i)) k = if j = k then row_ M i else if i = k then row_ M j else row_ M k := fun k => by
    have := h.len
    rw [row_set (by rw [List.length_set]; omega), row_set (by omega)]
  have hout : ∀ k, k < s → blk (d_ ds k).1 ≠ some g := fun k hk hb => h.out k hk g rfl hb
  have hrow : ∀ k, k < s → OwnN _ B (d_ ds k).1 s (d_ ds k).2 (row_ M k) := fun k hk => own_other (h.row k hk) hgg (hout k hk)
  refine ⟨⟨ho2, by rw [List.length_set, List.length_set]; exact h.len, fun k hk => ?_, fun a b ha hb hab => ?_, fun k hk => ?_⟩, hgg⟩
  · rw [hD, hM]
    by_cases e1 : j = k
    · rw [if_pos e1, if_pos e1]; exact hrow i hi
    · rw [if_neg e1, if_neg e1]
      by_cases e2 : i = k
      · rw [if_pos e2, if_pos e2]; exact hrow j hj
      · rw [if_neg e2, if_neg e2]; exact hrow k hk
  · have hp : ∀ k, k < s → ∃ q, q < s ∧ d_ ((ds.set i (d_ ds j)).set j (d_ ds i)) k = d_ ds q ∧ q = (if j = k then i else if i = k then j else k) := fun k hk => by
      rw [hD]
      by_cases e1 : j = k
      · exact ⟨i, hi, by rw [if_pos e1], by rw [if_pos e1]⟩
      · by_cases e2 : i = k
        · exact ⟨j, hj, by rw [if_neg e1, if_pos e2], by rw [if_neg e1, if_pos e2]⟩
        · exact ⟨k, hk, by rw [if_neg e1, if_neg e2], by rw [if_neg e1, if_neg e2]⟩
    obtain ⟨q1, hq1, e1, f1⟩ := hp a ha
    obtain ⟨q2, hq2, e2, f2⟩ := hp b hb
    rw [e1, e2]
    refine h.apart q1 q2 hq1 hq2 ?_
    subst f1 f2
    split <;> split <;> (try split) <;> (try split) <;> omega
  · rw [hD]
    by_cases e1 : j = k
    · rw [if_pos e1]; exact h.out i hi
    · rw [if_neg e1]
      by_cases e2 : i = k
      · rw [if_pos e2]; exact h.out j hj
      · rw [if_neg e2]; exact h.out k hk
end
end Go.Proofs.Ytpfbichomgojoaa
