/- The map that the program makes: map[int]int, each number of a list with its place. -/
import Derived.Test.YtpfbichomgojoaaMb
import Derived.Test.YtpfbichomgojoaaQR
namespace Go.Proofs.Ytpfbichomgojoaa
open Go.RowKit Go.Maps

def miR : List Nat → DataW Unit
  | [] => mbD []
  | x :: R => (miR R).put (nk x) (.lit (.int .i64 (R.length : Int)))
def miD (T : List Nat) : DataW Unit := miR T.reverse
theorem miD_snoc (T : List Nat) (x : Nat) : miD (T ++ [x]) = (miD T).put (nk x) (.lit (.int .i64 (T.length : Int))) := by
  unfold miD; rw [List.reverse_append]; show (miR T.reverse).put _ (.lit (.int .i64 (T.reverse.length : Int))) = _; rw [List.length_reverse]
theorem snoc_ind' {α : Type} {p : List α → Prop} (h0 : p []) (h1 : ∀ l x, p l → p (l ++ [x])) (l : List α) : p l := by
  rw [← List.reverse_reverse l]
  induction l.reverse with
  | nil => exact h0
  | cons x l ih => rw [List.reverse_cons]; exact h1 _ _ ih
theorem miD_tidy (T : List Nat) : Tidy (miD T) := by
  induction T using snoc_ind' with
  | h0 => exact tidy_setOf _ _ (mb_lits [])
  | h1 T x ih => rw [miD_snoc]; exact ih.put (nk_lit x) _
theorem miD_at (T : List Nat) (hn : T.Nodup) (x : Nat) : (miD T).atKey (nk x) (.lit (.int .i64 0)) = .lit (.int .i64 ((atC T x : Nat) : Int)) ∧ has (miD T) (nk x) = decide (x ∈ T) := by
  induction T using snoc_ind' with
  | h0 => exact ⟨rfl, rfl⟩
  | h1 T y ih =>
    have hT : T.Nodup := by rw [List.nodup_append] at hn; exact hn.1
    obtain ⟨i1, i2⟩ := ih hT
    rw [miD_snoc, atC_snoc hn]
    by_cases e : x = y
    · subst e
      rw [atKey_put_same (miD_tidy T).isMap (nk_lit x), has_put_same (miD_tidy T).isMap (nk_lit x), if_pos rfl]
      exact ⟨rfl, by simp⟩
    · rw [atKey_put_other (fun h => e (nk_inj h)), has_put_other (fun h => e (nk_inj h)), if_neg e, i1, i2]
      exact ⟨rfl, by simp [e]⟩
theorem miD_size (T : List Nat) (hn : T.Nodup) : Maps.size (miD T) = T.length := by
  induction T using snoc_ind' with
  | h0 => rfl
  | h1 T y ih =>
    have hT : T.Nodup := by rw [List.nodup_append] at hn; exact hn.1
    have hy : y ∉ T := by rw [List.nodup_append] at hn; intro h; exact hn.2.2 y h y (by simp) rfl
    rw [miD_snoc, size_put (miD_tidy T), (miD_at T hT y).2, ih hT]
    simp [hy]

/-- Block b is the map of the numbers of T, each with its place. -/
def MapI (w : World) (b : Nat) (T : List Nat) : Prop := w.ownsMap Try.prog 3 (plainElem Try.prog 3) b T.length (miD T)
theorem MapI.made (w : World) : MapI (w.alloc (.map #[] 0)) w.heap.size [] := World.ownsMap_made _ _ _ _
theorem MapI.lt {w : World} {b : Nat} {T : List Nat} (h : MapI w b T) : b < w.heap.size := World.ownsMap.lt h
theorem MapI.below {w w' : World} {b B : Nat} {T : List Nat} (h : MapI w b T) (hb : Below B w w') (hB : b < B) : MapI w' b T := ownsMap_block h (hb.block b hB)
theorem MapI.kept {w w' : World} {b : Nat} {r : Option Nat} {T : List Nat} (h : MapI w b T) (hg : w.grownBy w' r) (hne : some b ≠ r) : MapI w' b T := World.ownsMap.kept h hg hne

theorem wpList_look_i {ops : Array Oper} {rest : List Oper} {o : Oper} {a : Act} {w : World} {Q : Exit → Act → World → Prop} {b : Nat} {T : List Nat} {x : Nat} (h : MapI w b T) (hn : T.Nodup)
    (hg : o.guard = none) (m k : Operand) (hop : o.op = Op.lookup 117 m k false) (hm : a.eval m = .map (some b)) (hk : a.eval k = .int .i64 (x : Int)) (hx : x ≤ 1000000)
    (hK : wpList Try.prog ops Q rest (a.put o.dst (.int .i64 ((atC T x : Nat) : Int))) w) : wpList Try.prog ops Q (o :: rest) a w := by
  refine wpList_lookup_own_int w hg m k 117 hop 3 3 .i64 law3 Try.underlying117 Try.underlying3 (zero3 w) b T.length (miD T) hm h _ (nk x) hk (nk_key hx) ?_
  intro c hat _
  rw [(miD_at T hn x).1] at hat
  injection hat with hat
  injection hat with _ hat
  rw [← hat]; exact hK
theorem wpList_look_iok {ops : Array Oper} {rest : List Oper} {o : Oper} {a : Act} {w : World} {Q : Exit → Act → World → Prop} {b : Nat} {T : List Nat} {x : Nat} (h : MapI w b T) (hn : T.Nodup)
    (hg : o.guard = none) (m k : Operand) (hop : o.op = Op.lookup 117 m k true) (hm : a.eval m = .map (some b)) (hk : a.eval k = .int .i64 (x : Int)) (hx : x ≤ 1000000)
    (hK : wpList Try.prog ops Q rest (a.put o.dst (.tuple #[.int .i64 ((atC T x : Nat) : Int), .bool (decide (x ∈ T))])) w) : wpList Try.prog ops Q (o :: rest) a w := by
  refine wpList_lookup_own_ok_int w hg m k 117 hop 3 3 .i64 law3 Try.underlying117 Try.underlying3 (zero3 w) b T.length (miD T) hm h _ (nk x) hk (nk_key hx) ?_
  intro c hat _
  rw [(miD_at T hn x).1] at hat
  injection hat with hat
  injection hat with _ hat
  rw [← hat, (miD_at T hn x).2]; exact hK
theorem wpList_upd_i {ops : Array Oper} {rest : List Oper} {o : Oper} {a : Act} {w : World} {Q : Exit → Act → World → Prop} {b : Nat} {T : List Nat} {x : Nat} (h : MapI w b T)
    (hg : o.guard = none) (m k v : Operand) (hop : o.op = Op.mapUpdate 117 m k v) (hm : a.eval m = .map (some b)) (hk : a.eval k = .int .i64 (x : Int)) (hv : a.eval v = .int .i64 ((T.length : Nat) : Int)) (hx : x ≤ 1000000) (hT : T.length ≤ 1000000)
    (hK : ∀ w', MapI w' b (T ++ [x]) → w.grownBy w' (some b) → wpList Try.prog ops Q rest (a.put o.dst undef) w') : wpList Try.prog ops Q (o :: rest) a w := by
  refine wpList_mapUpdate_own w hg m k v 117 hop 3 3 law3 Try.underlying117 _ b T.length (miD T) hm h (by unfold maxLen; omega) _ _ (nk x) hk hv (nk_key hx) (.lit (.int .i64 ((T.length : Nat) : Int))) [] (plainElem_int Try.underlying3 (wfN hT)) ?_
  intro w' h1 h2
  refine hK w' ?_ h2
  unfold MapI
  rw [miD_snoc, List.length_append]
  exact h1
theorem wpList_len_i {ops : Array Oper} {rest : List Oper} {o : Oper} {a : Act} {w : World} {Q : Exit → Act → World → Prop} {b : Nat} {T : List Nat} (h : MapI w b T) (hn : T.Nodup)
    (hg : o.guard = none) (m : Operand) (hop : o.op = Op.call { callee := Callee.builtin Builtin.len, args := #[m], argTypes := #[117] }) (hm : a.eval m = .map (some b))
    (hK : wpList Try.prog ops Q rest (a.put o.dst (.int .i64 ((T.length : Nat) : Int))) w) : wpList Try.prog ops Q (o :: rest) a w := by
  refine wpList_len_own w hg m 117 hop 3 3 Try.underlying117 _ b T.length (miD T) hm h ?_
  rw [miD_size T hn]; exact hK

end Go.Proofs.Ytpfbichomgojoaa
