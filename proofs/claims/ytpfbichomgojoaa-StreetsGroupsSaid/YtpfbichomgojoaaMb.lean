/- The sets of numbers that the program makes: map[int]bool. -/
import Derived.Test.YtpfbichomgojoaaK
import Derived.Maps.OwnSet
import Derived.Maps.OwnOps
namespace Go.Proofs.Ytpfbichomgojoaa
open Go.RowKit Go.Maps

/-- A word for a walk to stand at. -/
def Stopped (p : Prop) : Prop := p
theorem stopHere {p : Prop} (h : Stopped p) : p := h

theorem law3 : Keyed Try.prog 3 := int_keyed Try.underlying3
theorem zero4 (w : World) : (zeroValue 4).run Try.prog w = .ok (.bool false) w := by kernel_rfl
theorem zero3 (w : World) : (zeroValue 3).run Try.prog w = .ok (.int .i64 0) w := by kernel_rfl
theorem wfN {x : Nat} (h : x ≤ 1000000) : (Lit.int .i64 (x : Int)).wf = true := WalkArith.wf_i64 (by omega)
def nk (x : Nat) : Lit := .int .i64 (x : Int)
theorem nk_key {x : Nat} (h : x ≤ 1000000) : keyOf Try.prog 3 (.int .i64 (x : Int)) = some (nk x) := keyOf_int_mk Try.underlying3 (wfN h)
theorem nk_inj {x y : Nat} (h : nk x = nk y) : x = y := by unfold nk at h; injection h with _ h; omega
theorem nk_same (x y : Nat) : (nk x).sameKey (nk y) = decide (x = y) := by
  by_cases h : x = y
  · subst h; simp [nk, Lit.sameKey]
  · rw [sameKey_ne (fun e => h (nk_inj e))]; simp [h]

theorem nk_lit (x : Nat) : WideAt.IsKeyLit (nk x) := by unfold nk WideAt.IsKeyLit; trivial
theorem plainElem_bool_inv {P : Program} {e : TypeId} (he : P.underlying e = some .bool) {v : Value} {z : DataW Unit × List MemPlace} (h : plainElem P e v = some z) : ∃ x, v = .bool x ∧ z = (.lit (.bool x), []) := by
  unfold plainElem at h
  rw [he] at h
  cases v <;> simp at h
  subst h
  exact ⟨_, rfl, rfl⟩
theorem wpList_lookup_own_bool {P : Program} (w : World) {ops : Array Oper} {rest : List Oper} {o : Oper} {a : Act} {Q : Exit → Act → World → Prop}
    (hg : o.guard = none) (m x : Operand) (t : TypeId) (hop : o.op = Op.lookup t m x false)
    (k e : TypeId) (K : Keyed P k) (ht : P.underlying t = some (.map k e)) (he : P.underlying e = some .bool) (hz : (zeroValue e).run P w = .ok (.bool false) w) (b n : Nat) (D : DataW Unit)
    (hm : a.eval m = .map (some b)) (hown : w.ownsMap P k (plainElem P e) b n D) (key : Value) (kl : Lit) (hx : a.eval x = key) (hkey : keyOf P k key = some kl)
    (hK : ∀ c : Bool, D.atKey kl (.lit (.bool false)) = .lit (.bool c) → wpList P ops Q rest (a.put o.dst (.bool c)) w) :
    wpList P ops Q (o :: rest) a w := by
  refine wpList_plain hg fun K' hK' => ?_
  obtain ⟨v, ps, hrun, hv⟩ := World.ownsMap.lookup hown K ht hz (plainElem_bool he false) hkey
  obtain ⟨c, rfl, hc⟩ := plainElem_bool_inv he hv
  simp only [Prod.mk.injEq] at hc
  unfold Oper.wp
  simp [execOp, hop, hm, hx, hrun, Result.andThen]
  exact hK' _ _ (hK c hc.1)

/-- The set of the numbers of a list. -/
def mbD (T : List Nat) : DataW Unit := setOf (.lit (.bool true)) (T.map nk)
theorem mb_lits (T : List Nat) : ∀ x ∈ T.map nk, WideAt.IsKeyLit x := by
  intro x hx
  obtain ⟨y, _, rfl⟩ := List.mem_map.1 hx
  exact nk_lit y
theorem mbD_snoc (T : List Nat) (x : Nat) : mbD (T ++ [x]) = (mbD T).put (nk x) (.lit (.bool true)) := by unfold mbD; rw [List.map_append]; exact setOf_snoc _ _ _
theorem mbD_map (T : List Nat) : IsMap (mbD T) := (tidy_setOf _ _ (mb_lits T)).isMap
theorem mbD_at (T : List Nat) (x : Nat) : (mbD T).atKey (nk x) (.lit (.bool false)) = .lit (.bool (decide (x ∈ T))) := by
  have key : ∀ n (T : List Nat), T.length = n → (mbD T).atKey (nk x) (.lit (.bool false)) = .lit (.bool (decide (x ∈ T))) := by
    intro n
    induction n with
    | zero => intro T h; rw [List.eq_nil_of_length_eq_zero h]; rfl
    | succ n ih =>
      intro T h
      rcases List.eq_nil_or_concat T with rfl | ⟨T', y, rfl⟩
      · simp at h
      · rw [List.concat_eq_append, mbD_snoc]
        by_cases hxy : x = y
        · subst hxy
          rw [atKey_put_same (mbD_map T') (nk_lit x)]; simp
        · rw [atKey_put_other (fun e => hxy (nk_inj e)), ih T' (by simpa using h)]
          simp [hxy]
  exact key _ T rfl
theorem mbD_size (T : List Nat) (h : T.Nodup) : Maps.size (mbD T) = T.length := by
  have key : ∀ n (T : List Nat), T.length = n → T.Nodup → Maps.size (mbD T) = T.length := by
    intro n
    induction n with
    | zero => intro T h _; rw [List.eq_nil_of_length_eq_zero h]; rfl
    | succ n ih =>
      intro T h hn
      rcases List.eq_nil_or_concat T with rfl | ⟨T', y, rfl⟩
      · simp at h
      · rw [List.concat_eq_append] at hn h ⊢
        have hsz : Maps.size ((mbD T').put (nk y) (.lit (.bool true))) = if has (mbD T') (nk y) then Maps.size (mbD T') else Maps.size (mbD T') + 1 := size_put (tidy_setOf _ _ (mb_lits T')) _
        rw [mbD_snoc, hsz]
        rw [List.nodup_append] at hn
        have hno : has (mbD T') (nk y) = false := by
          unfold mbD
          rw [has_setOf _ _ _ (mb_lits T'), List.any_map, ← Bool.not_eq_true, List.any_eq_true]
          rintro ⟨z, hz, e⟩
          rw [Function.comp_apply, nk_same, decide_eq_true_iff] at e
          exact hn.2.2 z hz y (by simp) e
        have e := ih T' (by simpa using h) hn.1
        unfold mbD at e hno ⊢
        rw [hno, e]; simp
  exact key _ T rfl h

/-- Block b is the set of the numbers of T. -/
def MapB (w : World) (b : Nat) (T : List Nat) : Prop := w.ownsMap Try.prog 3 (plainElem Try.prog 4) b T.length (mbD T)
theorem MapB.made (w : World) : MapB (w.alloc (.map #[] 0)) w.heap.size [] := World.ownsMap_made _ _ _ _
theorem ownsMap_block {H : Type} {w w' : World} {P : Program} {k : TypeId} {R : Value → Option (DataW H × List MemPlace)} {b n : Nat} {D : DataW H} (h : w.ownsMap P k R b n D) (e : w'.heap[b]? = w.heap[b]?) : w'.ownsMap P k R b n D := by
  unfold World.ownsMap at *
  rw [e]; exact h
theorem MapB.lt {w : World} {b : Nat} {T : List Nat} (h : MapB w b T) : b < w.heap.size := World.ownsMap.lt h
theorem MapB.below {w w' : World} {b B : Nat} {T : List Nat} (h : MapB w b T) (hb : Below B w w') (hB : b < B) : MapB w' b T := ownsMap_block h (hb.block b hB)
theorem MapB.kept {w w' : World} {b : Nat} {r : Option Nat} {T : List Nat} (h : MapB w b T) (hg : w.grownBy w' r) (hne : some b ≠ r) : MapB w' b T := World.ownsMap.kept h hg hne

theorem wpList_look_b {ops : Array Oper} {rest : List Oper} {o : Oper} {a : Act} {w : World} {Q : Exit → Act → World → Prop} {b : Nat} {T : List Nat} {x : Nat} (h : MapB w b T)
    (hg : o.guard = none) (m k : Operand) (hop : o.op = Op.lookup 72 m k false) (hm : a.eval m = .map (some b)) (hk : a.eval k = .int .i64 (x : Int)) (hx : x ≤ 1000000)
    (hK : wpList Try.prog ops Q rest (a.put o.dst (.bool (decide (x ∈ T)))) w) : wpList Try.prog ops Q (o :: rest) a w := by
  refine wpList_lookup_own_bool w hg m k 72 hop 3 4 law3 Try.underlying72 Try.underlying4 (zero4 w) b T.length (mbD T) hm h _ (nk x) hk (nk_key hx) ?_
  intro c hat
  rw [mbD_at] at hat
  injection hat with hat
  injection hat with hat
  rw [← hat]; exact hK

theorem wpList_upd_b {ops : Array Oper} {rest : List Oper} {o : Oper} {a : Act} {w : World} {Q : Exit → Act → World → Prop} {b : Nat} {T : List Nat} {x : Nat} (h : MapB w b T)
    (hg : o.guard = none) (m k v : Operand) (hop : o.op = Op.mapUpdate 72 m k v) (hm : a.eval m = .map (some b)) (hk : a.eval k = .int .i64 (x : Int)) (hv : a.eval v = .bool true) (hx : x ≤ 1000000) (hT : T.length ≤ 1000000)
    (hK : ∀ w', MapB w' b (T ++ [x]) → w.grownBy w' (some b) → wpList Try.prog ops Q rest (a.put o.dst undef) w') : wpList Try.prog ops Q (o :: rest) a w := by
  refine wpList_mapUpdate_own w hg m k v 72 hop 3 4 law3 Try.underlying72 _ b T.length (mbD T) hm h (by unfold maxLen; omega) _ _ (nk x) hk hv (nk_key hx) (.lit (.bool true)) [] (plainElem_bool Try.underlying4 true) ?_
  intro w' h1 h2
  refine hK w' ?_ h2
  unfold MapB
  rw [mbD_snoc, List.length_append]
  exact h1

theorem MapB.len_run {w : World} {b : Nat} {T : List Nat} (h : MapB w b T) (hn : T.Nodup) (ty : TypeId) : (Builtin.len_ #[72] ty #[.map (some b)]).run Try.prog w = .ok (.int .i64 ((T.length : Nat) : Int)) w := by
  rw [World.ownsMap.len h Try.underlying72 ty, mbD_size T hn]
theorem wpList_len_b {ops : Array Oper} {rest : List Oper} {o : Oper} {a : Act} {w : World} {Q : Exit → Act → World → Prop} {b : Nat} {T : List Nat} (h : MapB w b T) (hn : T.Nodup)
    (hg : o.guard = none) (m : Operand) (hop : o.op = Op.call { callee := Callee.builtin Builtin.len, args := #[m], argTypes := #[72] }) (hm : a.eval m = .map (some b))
    (hK : wpList Try.prog ops Q rest (a.put o.dst (.int .i64 ((T.length : Nat) : Int))) w) : wpList Try.prog ops Q (o :: rest) a w := by
  refine wpList_len_own w hg m 72 hop 3 4 Try.underlying72 _ b T.length (mbD T) hm h ?_
  rw [mbD_size T hn]; exact hK

end Go.Proofs.Ytpfbichomgojoaa
