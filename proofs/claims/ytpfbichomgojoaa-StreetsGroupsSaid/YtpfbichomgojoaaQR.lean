/- Plain: what the program and the reference reckon when they count. -/
import Derived.Test.YtpfbichomgojoaaQM
import Derived.Test.YtpfbichomgojoaaMP
namespace Go.Proofs.Ytpfbichomgojoaa

/-- Where a number stands in a list. -/
def idxC (C : List Nat) (x : Nat) : Nat := C.findIdx (fun y => decide (y = x))
/-- .. and 0 where it is not. -/
def atC (C : List Nat) (x : Nat) : Nat := if x ∈ C then idxC C x else 0
theorem idxC_lt {C : List Nat} {x : Nat} (h : x ∈ C) : idxC C x < C.length := List.findIdx_lt_length_of_exists ⟨x, h, by simp⟩
theorem idxC_at {C : List Nat} {x : Nat} (h : x ∈ C) : nat_ C (idxC C x) = x := by
  have hl := idxC_lt h
  have := List.findIdx_getElem (p := fun y => decide (y = x)) (xs := C) (w := hl)
  rw [nat_get hl]
  exact of_decide_eq_true this
theorem nat_inj' {V : List Nat} (h : V.Nodup) {i j : Nat} (hi : i < V.length) (hj : j < V.length) (e : nat_ V i = nat_ V j) : i = j := by
  rw [nat_get hi, nat_get hj] at e
  exact (List.getElem_inj h).1 e
theorem idxC_of {C : List Nat} (hn : C.Nodup) {i : Nat} (hi : i < C.length) : idxC C (nat_ C i) = i :=
  nat_inj' hn (idxC_lt (nat_mem hi)) hi (idxC_at (nat_mem hi))
theorem atC_snoc {T : List Nat} {x y : Nat} (hn : (T ++ [y]).Nodup) : atC (T ++ [y]) x = if x = y then T.length else atC T x := by
  unfold atC
  by_cases e : x = y
  · subst e
    rw [if_pos (by simp), if_pos rfl]
    have hl : T.length < (T ++ [x]).length := by simp
    have := idxC_of hn hl
    have e2 : nat_ (T ++ [x]) T.length = x := by rw [nat_get hl]; simp
    rwa [e2] at this
  · rw [if_neg e]
    by_cases hx : x ∈ T
    · rw [if_pos (List.mem_append_left _ hx), if_pos hx]
      unfold idxC
      rw [List.findIdx_append]
      have : T.findIdx (fun y => decide (y = x)) < T.length := idxC_lt hx
      rw [if_pos this]
    · rw [if_neg (by simp [hx, e]), if_neg hx]

/-- The groups before that become group 'top'. -/
def comC (n : Nat) (gb ga : List Nat) (top : Nat) : List Nat := (List.range n).filter (fun v => decide (nat_ gb v = v) && decide (nat_ ga v = top))
theorem mem_comC {n : Nat} {gb ga : List Nat} {top v : Nat} : v ∈ comC n gb ga top ↔ v < n ∧ nat_ gb v = v ∧ nat_ ga v = top := by simp [comC]
theorem comC_nodup (n : Nat) (gb ga : List Nat) (top : Nat) : (comC n gb ga top).Nodup := List.nodup_range.filter _
def zeroM (s : Nat) : List (List Nat) := List.replicate s (List.replicate s 0)
/-- One number added to. -/
def addP (p e : Nat) (M : List (List Nat)) (i j : Nat) : List (List Nat) := M.set i ((row_ M i).set j ((nat_ (row_ M i) j + e) % p))
/-- Whether a street counts in a component. -/
def spB (es : List Ed) (gb C : List Nat) (w k : Nat) : Bool :=
  decide (nat_ gb (ed_ es k).a ∈ C) && decide (ew es k = w) && decide (atC C (nat_ gb (ed_ es k).a) ≠ atC C (nat_ gb (ed_ es k).b))
def spA (p : Nat) (M : List (List Nat)) (i j : Nat) : List (List Nat) := addP p (p - 1) (addP p (p - 1) (addP p (p + 1) (addP p (p + 1) M i i) j j) i j) j i
def spK (p : Nat) (es : List Ed) (gb C : List Nat) (w : Nat) (M : List (List Nat)) (k : Nat) : List (List Nat) :=
  if spB es gb C w k then spA p M (atC C (nat_ gb (ed_ es k).a)) (atC C (nat_ gb (ed_ es k).b)) else M
def spF (p : Nat) (es : List Ed) (gb C : List Nat) (w q : Nat) : List (List Nat) := (List.range q).foldl (spK p es gb C w) (zeroM (C.length - 1))
def spM (p : Nat) (es : List Ed) (gb C : List Nat) (w : Nat) : List (List Nat) := spF p es gb C w es.length
def spS (p n : Nat) (es : List Ed) (gb ga : List Nat) (w out top : Nat) : Nat :=
  if (comC n gb ga top).length ≤ 1 then out else out * detP p (spM p es gb (comC n gb ga top) w) % p
/-- What 'spanning' reckons. -/
def spP (p n : Nat) (es : List Ed) (gb ga : List Nat) (w : Nat) : Nat := (List.range n).foldl (spS p n es gb ga w) 1
def smB (es : List Ed) (l : List Nat) (i : Nat) : Bool := decide (i + 1 < l.length) && decide (ew es (nat_ l (i + 1)) = ew es (nat_ l i))
def smS (p n : Nat) (es : List Ed) (l : List Nat) (st : Nat × List Nat) (i : Nat) : Nat × List Nat :=
  if smB es l i then st else (st.1 * spP p n es st.2 (kruG n es (l.take (i + 1))) (ew es (nat_ l i)) % p, kruG n es (l.take (i + 1)))
def smF (p n : Nat) (es : List Ed) (q : Nat) : Nat × List Nat := (List.range q).foldl (smS p n es (ordL es)) (1, List.range n)
/-- What 'smallest' reckons. -/
def smP (p n : Nat) (es : List Ed) : Nat := (smF p n es es.length).1
/-- The number with two remainders. -/
def crtN (p q a b : Nat) : Nat := a + p * ((b + q - a % q) % q * powP (p % q) (q - 2) q % q)
def cntP (n : Nat) (es : List Ed) : Nat := crtN 2147483647 2147483629 (smP 2147483647 n es) (smP 2147483629 n es)

/-- The reference's matrix, of whole numbers. -/
def rowI (M : List (List Int)) (i : Nat) : List Int := M.getD i []
def zeroI (s : Nat) : List (List Int) := List.replicate s (List.replicate s 0)
def addI (d : Int) (M : List (List Int)) (i j : Nat) : List (List Int) := M.set i ((rowI M i).set j (int_ (rowI M i) j + d))
def foA (M : List (List Int)) (a b : Nat) : List (List Int) := addI (-1) (addI 1 (addI (-1) (addI 1 M a a) a b) b b) b a
def foB (es : List Ed) (g : List Nat) (w k : Nat) : Bool := decide (ew es k ≠ w) || decide (nat_ g (ed_ es k).a = nat_ g (ed_ es k).b)
def foK (es : List Ed) (g : List Nat) (w : Nat) (st : List Nat × List (List Int)) (k : Nat) : List Nat × List (List Int) :=
  if foB es g w k then st else (joinL st.1 (nat_ g (ed_ es k).a) (nat_ g (ed_ es k).b), foA st.2 (nat_ g (ed_ es k).a) (nat_ g (ed_ es k).b))
def foF (n : Nat) (es : List Ed) (g : List Nat) (w q : Nat) : List Nat × List (List Int) := (List.range q).foldl (foK es g w) (g, zeroI n)
def foC (n : Nat) (g after : List Nat) (v : Nat) : List Nat := (List.range' (v + 1) (n - (v + 1))).filter (fun u => decide (nat_ g u = u) && decide (nat_ after u = v))
def foR (M : List (List Int)) (P : List Nat) : List (List Int) := P.map (fun i => P.map (fun k => int_ (rowI M i) k))
/-- Remainders. -/
def nrmR (p : Nat) (R : List Int) : List Nat := R.map (fun x => (x % (p : Int)).toNat)
def nrmM (p : Nat) (R : List (List Int)) : List (List Nat) := R.map (nrmR p)
def detI (p : Nat) (R : List (List Int)) : Nat := detP p (nrmM p R)
def foV (n : Nat) (g after : List Nat) (M : List (List Int)) (out v : Nat) : Nat :=
  if nat_ after v = v then out * crtN 1000000007 998244353 (detI 1000000007 (foR M (foC n g after v))) (detI 998244353 (foR M (foC n g after v))) else out
def foQ (n : Nat) (es : List Ed) (g : List Nat) (w q : Nat) : Nat := (List.range q).foldl (foV n g (foF n es g w es.length).1 (foF n es g w es.length).2) 1
/-- What 'Forests' reckons. -/
def foP (n : Nat) (es : List Ed) (g : List Nat) (w : Nat) : Nat := foQ n es g w n
def rcJ (es : List Ed) (w : Nat) (g : List Nat) (k : Nat) : List Nat := if ew es k = w then joinL g (ed_ es k).a (ed_ es k).b else g
def rcB (es : List Ed) (l : List Nat) (i : Nat) : Bool := decide (0 < i) && decide (ew es (nat_ l (i - 1)) = ew es (nat_ l i))
def rcS (n : Nat) (es : List Ed) (l : List Nat) (st : Nat × List Nat) (i : Nat) : Nat × List Nat :=
  if rcB es l i then st else (st.1 * foP n es st.2 (ew es (nat_ l i)), (List.range es.length).foldl (rcJ es (ew es (nat_ l i))) st.2)
def rcF (n : Nat) (es : List Ed) (q : Nat) : Nat × List Nat := (List.range q).foldl (rcS n es (ordL es)) (1, List.range n)
/-- What the reference's Count reckons of a connected net. -/
def rcP (n : Nat) (es : List Ed) : Nat := (rcF n es es.length).1

end Go.Proofs.Ytpfbichomgojoaa
