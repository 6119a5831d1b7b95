/- Matrices of whole numbers in memory. -/
import Derived.Test.YtpfbichomgojoaaW8
namespace Go.Proofs.Ytpfbichomgojoaa
open Go.RowKit

theorem rowI_get {M : List (List Int)} {i : Nat} (h : i < M.length) : rowI M i = M[i] := by simp [rowI, List.getD_eq_getElem?_getD, List.getElem?_eq_getElem h]
theorem rowI_set {M : List (List Int)} {i j : Nat} {x : List Int} : rowI (M.set i x) j = if i = j ∧ i < M.length then x else rowI M j := by
  unfold rowI
  rw [List.getD_eq_getElem?_getD, List.getD_eq_getElem?_getD, List.getElem?_set]
  by_cases e : i = j
  · subst e
    by_cases h : i < M.length
    · simp [h]
    · simp [h]
  · simp [e]
theorem int_set {xs : List Int} {i j : Nat} {x : Int} : int_ (xs.set i x) j = if i = j ∧ i < xs.length then x else int_ xs j := by
  unfold int_
  rw [List.getD_eq_getElem?_getD, List.getD_eq_getElem?_getD, List.getElem?_set]
  by_cases e : i = j
  · subst e
    by_cases h : i < xs.length
    · simp [h]
    · simp [h]
  · simp [e]
/-- The matrix M of whole numbers at the slice O: k rows of s. -/
structure MatI (w : World) (B : Nat) (O : Option Addr) (k s c : Nat) (ds : List (Option Addr × Nat)) (M : List (List Int)) : Prop where
  outer : w.ownsRow B 24 1 (.slice O k c) k (ds.map (rowV s))
  len : M.length = k
  row : ∀ i, i < k → OwnI w B (d_ ds i).1 s (d_ ds i).2 (rowI M i)
  apart : ∀ i j, i < k → j < k → i ≠ j → Dj (d_ ds i).1 (d_ ds j).1
  out : ∀ i, i < k → Dj O (d_ ds i).1
section
variable {w w' : World} {B : Nat} {O : Option Addr} {k s c : Nat} {ds : List (Option Addr × Nat)} {M : List (List Int)}
theorem MatI.dlen (h : MatI w B O k s c ds M) : ds.length = k := by have := h.outer.1; simpa using this
theorem MatI.below (h : MatI w B O k s c ds M) (hb : Below w.heap.size w w') : MatI w' B O k s c ds M :=
  ⟨own_below h.outer hb, h.len, fun i hi => own_below (h.row i hi) hb, h.apart, h.out⟩
theorem MatI.nil (w : World) (B s : Nat) : MatI w B none 0 s 0 [] [] := ⟨World.ownsRow_nil _ _ _ _, rfl, fun i hi => by omega, fun i j hi => by omega, fun i hi => by omega⟩
theorem MatI.rd (h : MatI w B O k s c ds M) (e : k = s) : RdMI w O s ds M := by
  subst e
  exact ⟨h.len, h.dlen, own_cells h.outer, fun i hi => (h.row i hi).rd⟩
theorem MatI.lt (h : MatI w B O k s c ds M) {i q : Nat} (hi : i < k) (hb : blk (d_ ds i).1 = some q) : q < w.heap.size := (own_lt (h.row i hi) q hb).2
theorem MatI.at_ (h : MatI w B O k s c ds M) {i : Nat} (hi : i < k) : ∃ b, O = some ⟨b, 0, none⟩ ∧ B ≤ b ∧ b < w.heap.size ∧ w.cell? ⟨b, i, none⟩ = some (rowV s (d_ ds i)) := by
  have hd := h.dlen
  obtain ⟨g, e, h1, h2, h3, _⟩ := own_at h.outer (k := i) (v := rowV s (d_ ds i)) (by rw [List.getElem?_map, List.getElem?_eq_getElem (by omega), d_get (by omega)]; rfl)
  exact ⟨g, e, h1, h2, h3⟩
/-- One number written. -/
theorem MatI.put (h : MatI w B O k s c ds M) {i j : Nat} (hi : i < k) (hj : j < s) (v : Int) :
    ∃ g, (d_ ds i).1 = some ⟨g, 0, none⟩ ∧ B ≤ g ∧ g < w.heap.size ∧ w.cell? ⟨g, j, none⟩ = some (.int .i64 (int_ (rowI M i) j)) ∧ w.frozen? ⟨g, j, none⟩ = false ∧
      MatI (w.setCell ⟨g, j, none⟩ (.int .i64 v)) B O k s c ds (M.set i ((rowI M i).set j v)) ∧ w.grownBy (w.setCell ⟨g, j, none⟩ (.int .i64 v)) (some g) := by
  have hr := h.row i hi
  have hrl := hr.len
  obtain ⟨g, e, h1, h2, h3, h4, hst⟩ := own_at hr (iv_get (rowI M i) j (by omega))
  obtain ⟨ho, hg⟩ := hst (.int .i64 v)
  refine ⟨g, e, h1, h2, h3, h4, ⟨own_other h.outer hg ?_, by rw [List.length_set]; exact h.len, fun q hq => ?_, h.apart, h.out⟩, hg⟩
  · intro hb
    exact h.out i hi g hb (by rw [e]; rfl)
  · rw [rowI_set]
    by_cases hiq : i = q
    · subst hiq
      rw [if_pos ⟨rfl, by rw [h.len]; exact hi⟩]
      unfold OwnI
      rw [← iv_set]; exact ho
    · rw [if_neg (fun e => hiq e.1)]
      exact own_other (h.row q hq) hg (fun hb => h.apart q i hq hi (fun e => hiq e.symm) g hb (by rw [e]; rfl))
/-- One row more. -/
theorem MatI.push {O' A : Option Addr} {c' ca B2 : Nat} {x : List Int} (h : MatI w B O k s c ds M)
    (hr : OwnI w B2 A s ca x) (hB2 : B ≤ B2) (hO : ∀ q, blk O = some q → q < B2) (hd : ∀ i q, i < k → blk (d_ ds i).1 = some q → q < B2)
    (ho : w'.ownsRow B 24 1 (.slice O' (k + 1) c') (k + 1) (ds.map (rowV s) ++ [.slice A s ca])) (hg : Grew w w' O O') : MatI w' B O' (k + 1) s c' (ds ++ [(A, ca)]) (M ++ [x]) := by
  have hdl := h.dlen
  have hD : ∀ i, i < k → d_ (ds ++ [(A, ca)]) i = d_ ds i := fun i hi => by rw [d_snoc, if_pos (by omega)]
  have hDk : d_ (ds ++ [(A, ca)]) k = (A, ca) := by rw [d_snoc, if_neg (by omega), if_pos (by omega)]
  have hM : ∀ i, i < k → rowI (M ++ [x]) i = rowI M i := fun i hi => by
    unfold rowI
    rw [List.getD_eq_getElem?_getD, List.getD_eq_getElem?_getD, List.getElem?_append_left (by rw [h.len]; exact hi)]
  have hMk : rowI (M ++ [x]) k = x := by rw [rowI_get (by simp [h.len])]; simp [h.len]
  have hAO : Dj O A := fun q h1 h2 => by have := hO q h1; have := (own_lt hr q h2).1; omega
  refine ⟨by rw [List.map_append]; exact ho, by simp [h.len], fun i hi => ?_, fun i j hi hj hij => ?_, fun i hi => ?_⟩
  · by_cases e : i = k
    · subst e; rw [hDk, hMk]
      exact own_mono (own_grew hr hg (fun q h1 h2 => hAO q h2 h1)) hB2
    · rw [hD i (by omega), hM i (by omega)]
      exact own_grew (h.row i (by omega)) hg (fun q h1 h2 => h.out i (by omega) q h2 h1)
  · by_cases e1 : i = k
    · rw [e1, hDk, hD j (by omega)]
      intro q h1 h2; have := (own_lt hr q h1).1; have := hd j q (by omega) h2; omega
    · by_cases e2 : j = k
      · rw [e2, hDk, hD i (by omega)]
        intro q h1 h2; have := (own_lt hr q h2).1; have := hd i q (by omega) h1; omega
      · rw [hD i (by omega), hD j (by omega)]; exact h.apart i j (by omega) (by omega) hij
  · by_cases e : i = k
    · subst e; rw [hDk]; exact hAO.push hg hr
    · rw [hD i (by omega)]; exact (h.out i (by omega)).push hg (h.row i (by omega))
end
theorem rowI_replicate {s k : Nat} {x : List Int} (h : k < s) : rowI (List.replicate s x) k = x := by rw [rowI_get (by simpa using h)]; simp
theorem nv_iv0 (s : Nat) : nv (List.replicate s 0) = iv (List.replicate s 0) := by simp [nv, iv]
theorem Mat.toI {w : World} {B : Nat} {O : Option Addr} {s c : Nat} {ds : List (Option Addr × Nat)} (h : Mat w B O s c ds (zeroM s)) : MatI w B O s s c ds (zeroI s) :=
  ⟨h.outer, by simp [zeroI], fun i hi => by
    have := h.row i hi
    unfold zeroM at this
    rw [row_replicate hi] at this
    unfold zeroI
    rw [rowI_replicate hi]
    unfold OwnI
    rw [← nv_iv0]; exact this, h.apart, h.out⟩

theorem addI_at {d : Int} {M : List (List Int)} {a b i j : Nat} (h1 : a < M.length) (h2 : b < (rowI M a).length) : int_ (rowI (addI d M a b) i) j = if i = a ∧ j = b then int_ (rowI M a) b + d else int_ (rowI M i) j := by
  unfold addI
  rw [rowI_set]
  by_cases e1 : a = i
  · subst e1
    rw [if_pos ⟨rfl, h1⟩, int_set]
    by_cases e2 : b = j
    · subst e2; rw [if_pos ⟨rfl, h2⟩, if_pos ⟨rfl, rfl⟩]
    · rw [if_neg (fun h => e2 h.1), if_neg (fun h => e2 h.2.symm)]
  · rw [if_neg (fun h => e1 h.1), if_neg (fun h => e1 h.1.symm)]
/-- A square of whole numbers. -/
def SqI (s : Nat) (M : List (List Int)) : Prop := M.length = s ∧ ∀ i, i < s → (rowI M i).length = s
theorem addI_sq {d : Int} {s : Nat} {M : List (List Int)} {a b : Nat} (h : SqI s M) : SqI s (addI d M a b) := by
  refine ⟨by unfold addI; rw [List.length_set]; exact h.1, fun i hi => ?_⟩
  unfold addI
  rw [rowI_set]
  by_cases e : a = i ∧ a < M.length
  · rw [if_pos e, List.length_set, e.1]; exact h.2 i hi
  · rw [if_neg e]; exact h.2 i hi
theorem zeroI_sq (s : Nat) : SqI s (zeroI s) := ⟨by simp [zeroI], fun i hi => by unfold zeroI; rw [rowI_replicate hi]; simp⟩
theorem int_rep {s i : Nat} : int_ (List.replicate s 0) i = 0 := by
  by_cases h : i < s
  · rw [int_get (by simpa using h)]; simp
  · unfold int_; rw [List.getD_eq_getElem?_getD, List.getElem?_eq_none (by simp; omega)]; rfl
theorem zeroI_at {s i j : Nat} : int_ (rowI (zeroI s) i) j = 0 := by
  unfold zeroI
  by_cases h : i < s
  · rw [rowI_replicate h]; exact int_rep
  · unfold rowI; rw [List.getD_eq_getElem?_getD, List.getElem?_eq_none (by simp; omega)]; rfl
theorem addI_bd {d B : Int} {s : Nat} {M : List (List Int)} {a b : Nat} (hs : SqI s M) (ha : a < s) (hb : b < s) (hd : -1 ≤ d ∧ d ≤ 1) (h : ∀ i j, -B ≤ int_ (rowI M i) j ∧ int_ (rowI M i) j ≤ B) :
    ∀ i j, -(B + 1) ≤ int_ (rowI (addI d M a b) i) j ∧ int_ (rowI (addI d M a b) i) j ≤ B + 1 := by
  intro i j
  rw [addI_at (by rw [hs.1]; exact ha) (by rw [hs.2 a ha]; exact hb)]
  split
  · have := h a b; omega
  · have := h i j; omega
theorem foA_sq {s : Nat} {M : List (List Int)} {a b : Nat} (h : SqI s M) : SqI s (foA M a b) := addI_sq (addI_sq (addI_sq (addI_sq h)))
theorem foA_bd {B : Int} {s : Nat} {M : List (List Int)} {a b : Nat} (hs : SqI s M) (ha : a < s) (hb : b < s) (h : ∀ i j, -B ≤ int_ (rowI M i) j ∧ int_ (rowI M i) j ≤ B) :
    ∀ i j, -(B + 4) ≤ int_ (rowI (foA M a b) i) j ∧ int_ (rowI (foA M a b) i) j ≤ B + 4 := by
  have h1 := addI_bd hs ha ha (d := 1) (by omega) h
  have h2 := addI_bd (addI_sq hs) ha hb (d := -1) (by omega) h1
  have h3 := addI_bd (addI_sq (addI_sq hs)) hb hb (d := 1) (by omega) h2
  have h4 := addI_bd (addI_sq (addI_sq (addI_sq hs))) hb ha (d := -1) (by omega) h3
  intro i j
  have := h4 i j
  unfold foA; omega
/-- The four numbers that a street turns. -/
theorem MatI.four {w : World} {B : Nat} {O : Option Addr} {s c : Nat} {ds : List (Option Addr × Nat)} {M : List (List Int)} (h : MatI w B O s s c ds M) (hs : SqI s M) {a b : Nat} (ha : a < s) (hb : b < s) (hab : a ≠ b) :
    ∃ ga gb, (d_ ds a).1 = some ⟨ga, 0, none⟩ ∧ (d_ ds b).1 = some ⟨gb, 0, none⟩ ∧ ga ≠ gb ∧ B ≤ ga ∧ B ≤ gb ∧ ga < w.heap.size ∧ gb < w.heap.size ∧
      w.cell? ⟨ga, a, none⟩ = some (.int .i64 (int_ (rowI M a) a)) ∧ w.cell? ⟨ga, b, none⟩ = some (.int .i64 (int_ (rowI M a) b)) ∧
      w.cell? ⟨gb, b, none⟩ = some (.int .i64 (int_ (rowI M b) b)) ∧ w.cell? ⟨gb, a, none⟩ = some (.int .i64 (int_ (rowI M b) a)) ∧
      w.frozen? ⟨ga, a, none⟩ = false ∧ w.frozen? ⟨ga, b, none⟩ = false ∧ w.frozen? ⟨gb, b, none⟩ = false ∧ w.frozen? ⟨gb, a, none⟩ = false ∧
      MatI ((((w.setCell ⟨ga, a, none⟩ (.int .i64 (int_ (rowI M a) a + 1))).setCell ⟨ga, b, none⟩ (.int .i64 (int_ (rowI M a) b - 1))).setCell ⟨gb, b, none⟩ (.int .i64 (int_ (rowI M b) b + 1))).setCell ⟨gb, a, none⟩ (.int .i64 (int_ (rowI M b) a - 1))) B O s s c ds (foA M a b) ∧
      ∀ S : Nat → Prop, S ga → S gb → ButS S w ((((w.setCell ⟨ga, a, none⟩ (.int .i64 (int_ (rowI M a) a + 1))).setCell ⟨ga, b, none⟩ (.int .i64 (int_ (rowI M a) b - 1))).setCell ⟨gb, b, none⟩ (.int .i64 (int_ (rowI M b) b + 1))).setCell ⟨gb, a, none⟩ (.int .i64 (int_ (rowI M b) a - 1))) := by
  obtain ⟨ga, eA, hB1, hl1, c1, f1, m1, g1⟩ := h.put ha ha (int_ (rowI M a) a + 1)
  obtain ⟨_, e, _, _, c2', f2', _⟩ := h.put ha hb 0
  rw [eA] at e; injection e with e; injection e with e; subst e
  obtain ⟨gb, eB, hB2, hl2, c3', f3', _⟩ := h.put hb hb 0
  obtain ⟨_, e, _, _, c4', f4', _⟩ := h.put hb ha 0
  rw [eB] at e; injection e with e; injection e with e; subst e
  have hne : ga ≠ gb := by
    rintro rfl
    exact h.apart a b ha hb hab ga (by rw [eA]; rfl) (by rw [eB]; rfl)
  have k1 : M.set a ((rowI M a).set a (int_ (rowI M a) a + 1)) = addI 1 M a a := rfl
  rw [k1] at m1
  have s1 : SqI s (addI 1 M a a) := addI_sq hs
  have v2 : int_ (rowI (addI 1 M a a) a) b = int_ (rowI M a) b := by
    rw [addI_at (by rw [hs.1]; exact ha) (by rw [hs.2 a ha]; exact ha), if_neg (fun e => hab e.2.symm)]
  obtain ⟨_, e, _, _, c2, f2, m2, g2⟩ := m1.put ha hb (int_ (rowI M a) b - 1)
  rw [eA] at e; injection e with e; injection e with e; subst e
  have k2 : (addI 1 M a a).set a ((rowI (addI 1 M a a) a).set b (int_ (rowI M a) b - 1)) = addI (-1) (addI 1 M a a) a b := by unfold addI at v2 ⊢; rw [v2]; rfl
  rw [k2] at m2
  have s2 : SqI s (addI (-1) (addI 1 M a a) a b) := addI_sq s1
  have v3 : int_ (rowI (addI (-1) (addI 1 M a a) a b) b) b = int_ (rowI M b) b := by
    rw [addI_at (by rw [s1.1]; exact ha) (by rw [s1.2 a ha]; exact hb), if_neg (fun e => hab e.1.symm), addI_at (by rw [hs.1]; exact ha) (by rw [hs.2 a ha]; exact ha), if_neg (fun e => hab e.1.symm)]
  obtain ⟨_, e, _, _, c3, f3, m3, g3⟩ := m2.put hb hb (int_ (rowI M b) b + 1)
  rw [eB] at e; injection e with e; injection e with e; subst e
  have k3 : (addI (-1) (addI 1 M a a) a b).set b ((rowI (addI (-1) (addI 1 M a a) a b) b).set b (int_ (rowI M b) b + 1)) = addI 1 (addI (-1) (addI 1 M a a) a b) b b := by
    rw [← v3]; rfl
  rw [k3] at m3
  have s3 : SqI s (addI 1 (addI (-1) (addI 1 M a a) a b) b b) := addI_sq s2
  have v4 : int_ (rowI (addI 1 (addI (-1) (addI 1 M a a) a b) b b) b) a = int_ (rowI M b) a := by
    rw [addI_at (by rw [s2.1]; exact hb) (by rw [s2.2 b hb]; exact hb), if_neg (fun e => hab e.2), addI_at (by rw [s1.1]; exact ha) (by rw [s1.2 a ha]; exact hb), if_neg (fun e => hab e.1.symm),
      addI_at (by rw [hs.1]; exact ha) (by rw [hs.2 a ha]; exact ha), if_neg (fun e => hab e.1.symm)]
  obtain ⟨_, e, _, _, c4, f4, m4, g4⟩ := m3.put hb ha (int_ (rowI M b) a - 1)
  rw [eB] at e; injection e with e; injection e with e; subst e
  have k4 : (addI 1 (addI (-1) (addI 1 M a a) a b) b b).set b ((rowI (addI 1 (addI (-1) (addI 1 M a a) a b) b b) b).set a (int_ (rowI M b) a - 1)) = foA M a b := by
    rw [← v4]; rfl
  rw [k4] at m4
  exact ⟨ga, gb, eA, eB, hne, hB1, hB2, hl1, hl2, c1, c2', c3', c4', f1, f2', f3', f4', m4, fun S h1 h2 => (((ButS.one h1 g1).trans (ButS.one h1 g2)).trans (ButS.one h2 g3)).trans (ButS.one h2 g4)⟩

end Go.Proofs.Ytpfbichomgojoaa
