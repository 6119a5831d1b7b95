/- Words for memory used by all walks of this seat: lists of numbers that a slice reads as, rows of the call's own, and the append of one element. -/
import Derived.Test.YtpfbichomgojoaaProg
import Derived.Test.YtpfbichomgojoaaM
import Derived.WalkKit
import Derived.WalkLawsBesides
import Derived.Outline
import Derived.OwnWalk
import Derived.Lib.Hide
import Derived.BigQuiet
import Derived.Deep.QuietTactic
import Derived.Deep.Draws
import Derived.Deep.LoopGhost
import Derived.BigRegion
import Derived.Maps.AppendAt
import Derived.Deep.OwnRows
import Derived.Deep.RegionHeld3
namespace Go.Proofs.Ytpfbichomgojoaa
open Go.RowKit

def iv (xs : List Int) : List Value := xs.map (fun x => Value.int .i64 x)
def nv (xs : List Nat) : List Value := xs.map (fun x : Nat => Value.int .i64 (x : Int))
theorem nv_length (xs : List Nat) : (nv xs).length = xs.length := by simp [nv]
theorem iv_length (xs : List Int) : (iv xs).length = xs.length := by simp [iv]
theorem nv_get (xs : List Nat) (k : Nat) (h : k < xs.length) : (nv xs)[k]? = some (.int .i64 ((nat_ xs k : Nat) : Int)) := by
  simp [nv, nat_, List.getElem?_map, List.getElem?_eq_getElem h, List.getD_eq_getElem?_getD]
theorem iv_get (xs : List Int) (k : Nat) (h : k < xs.length) : (iv xs)[k]? = some (.int .i64 (int_ xs k)) := by
  simp [iv, int_, List.getElem?_map, List.getElem?_eq_getElem h, List.getD_eq_getElem?_getD]
theorem nv_append (xs ys : List Nat) : nv (xs ++ ys) = nv xs ++ nv ys := by simp [nv]
theorem iv_append (xs ys : List Int) : iv (xs ++ ys) = iv xs ++ iv ys := by simp [iv]
theorem nv_one (xs : List Nat) : ∀ u ∈ nv xs, u.oneCell' = true := by
  intro u hu; simp only [nv, List.mem_map] at hu; obtain ⟨x, _, rfl⟩ := hu; rfl
theorem iv_one (xs : List Int) : ∀ u ∈ iv xs, u.oneCell' = true := by
  intro u hu; simp only [iv, List.mem_map] at hu; obtain ⟨x, _, rfl⟩ := hu; rfl

/-- The cells from address A on read as vs. -/
def Cells (w : World) (A : Option Addr) (vs : List Value) : Prop :=
  ∀ j, j < vs.length → ∃ b o, A = some ⟨b, o, none⟩ ∧ w.cell? ⟨b, o + j, none⟩ = vs[j]?
theorem Cells.nil (w : World) (A : Option Addr) : Cells w A [] := fun _ h => absurd h (Nat.not_lt_zero _)
theorem Cells.keep {w w' : World} {A : Option Addr} {vs : List Value} (h : Cells w A vs) (hk : ∀ p v, w.cell? p = some v → w'.cell? p = some v) : Cells w' A vs := by
  intro j hj
  obtain ⟨b, o, hA, hc⟩ := h j hj
  rw [List.getElem?_eq_getElem hj] at hc ⊢
  exact ⟨b, o, hA, hk _ _ hc⟩
theorem Below.keeps {w w' : World} (hb : Below w.heap.size w w') (p : Addr) (v : Value) (h : w.cell? p = some v) : w'.cell? p = some v :=
  (hb.cell (World.block_lt_of_cell? _ _ h)).trans h
theorem Cells.below {w w' : World} {A : Option Addr} {vs : List Value} (h : Cells w A vs) (hb : Below w.heap.size w w') : Cells w' A vs := h.keep (Below.keeps hb)
theorem Cells.at_ {w : World} {A : Option Addr} {vs : List Value} (h : Cells w A vs) {k : Nat} {v : Value} (hk : vs[k]? = some v) :
    ∃ b o, A = some ⟨b, o, none⟩ ∧ b < w.heap.size ∧ w.cell? ⟨b, o + k, none⟩ = some v := by
  have hl : k < vs.length := by
    rcases Nat.lt_or_ge k vs.length with h | h
    · exact h
    · rw [List.getElem?_eq_none h] at hk; cases hk
  obtain ⟨b, o, hA, hc⟩ := h k hl
  rw [hk] at hc
  exact ⟨b, o, hA, World.block_lt_of_cell? _ _ hc, hc⟩

/-- The slice at address A of length n reads as the natural numbers xs. -/
def RdN (w : World) (A : Option Addr) (n : Nat) (xs : List Nat) : Prop := xs.length = n ∧ Cells w A (nv xs)
def RdI (w : World) (A : Option Addr) (n : Nat) (xs : List Int) : Prop := xs.length = n ∧ Cells w A (iv xs)
section
variable {w w' : World} {A : Option Addr} {n : Nat}
theorem RdN.at_ {xs : List Nat} (h : RdN w A n xs) {k : Nat} (hk : k < n) : ∃ b o, A = some ⟨b, o, none⟩ ∧ b < w.heap.size ∧ w.cell? ⟨b, o + k, none⟩ = some (.int .i64 ((nat_ xs k : Nat) : Int)) :=
  h.2.at_ (nv_get xs k (by rw [h.1]; exact hk))
theorem RdI.at_ {xs : List Int} (h : RdI w A n xs) {k : Nat} (hk : k < n) : ∃ b o, A = some ⟨b, o, none⟩ ∧ b < w.heap.size ∧ w.cell? ⟨b, o + k, none⟩ = some (.int .i64 (int_ xs k)) :=
  h.2.at_ (iv_get xs k (by rw [h.1]; exact hk))
theorem RdN.below {xs : List Nat} (h : RdN w A n xs) (hb : Below w.heap.size w w') : RdN w' A n xs := ⟨h.1, h.2.below hb⟩
theorem RdI.below {xs : List Int} (h : RdI w A n xs) (hb : Below w.heap.size w w') : RdI w' A n xs := ⟨h.1, h.2.below hb⟩
end

/-- A row of natural numbers that the call owns from block B on. -/
def OwnN (w : World) (B : Nat) (A : Option Addr) (n c : Nat) (xs : List Nat) : Prop := w.ownsRow B 3 1 (.slice A n c) n (nv xs)
def OwnI (w : World) (B : Nat) (A : Option Addr) (n c : Nat) (xs : List Int) : Prop := w.ownsRow B 3 1 (.slice A n c) n (iv xs)

theorem own_cells {w : World} {B : Nat} {e : TypeId} {A : Option Addr} {n c : Nat} {vs : List Value} (h : w.ownsRow B e 1 (.slice A n c) n vs) : Cells w A vs := by
  intro j hj
  rcases h.2 with ⟨hv, hn⟩ | ⟨g, cap, cur, hv, _, hg, _, _, _, _⟩
  · have := h.1; omega
  · injection hv with h1 h2 h3
    subst h1
    refine ⟨g, 0, rfl, ?_⟩
    have := h.cells (g := g) rfl j vs[j] (List.getElem?_eq_getElem hj)
    rw [List.getElem?_eq_getElem hj, ← this]
    simp [Addr.add_lit]
theorem OwnN.rd {w : World} {B : Nat} {A : Option Addr} {n c : Nat} {xs : List Nat} (h : OwnN w B A n c xs) : RdN w A n xs :=
  ⟨by have := h.1; rw [nv_length] at this; omega, own_cells h⟩
theorem OwnI.rd {w : World} {B : Nat} {A : Option Addr} {n c : Nat} {xs : List Int} (h : OwnI w B A n c xs) : RdI w A n xs :=
  ⟨by have := h.1; rw [iv_length] at this; omega, own_cells h⟩

/-- What the program's tables say of a slice type t with elements e. -/
structure SlT (P : Program) (t e : Nat) (z : Value) (size bytes : Nat) : Prop where
  und : P.underlying t = some (.slice e)
  inf : (P.info? e).map (fun i => (i.zero, i.size, i.bytes)) = some (some z, size, bytes)
  zs : z.cells.size = size
  pos : 0 < size
theorem sl24 : SlT Try.prog 24 3 (.int .i64 0) 1 8 := ⟨Try.underlying24, by kernel_rfl, rfl, by decide⟩
theorem sl22 : SlT Try.prog 22 42 (.agg #[.int .i64 0, .int .i64 0, .int .i64 0]) 3 24 := ⟨Try.underlying22, by kernel_rfl, rfl, by decide⟩
theorem sl57 : SlT Try.prog 57 24 (.slice none 0 0) 1 24 := ⟨Try.underlying57, by kernel_rfl, rfl, by decide⟩
theorem sl99 : SlT Try.prog 99 4 (.bool false) 1 1 := ⟨Try.underlying99, by kernel_rfl, rfl, by decide⟩

def blk (A : Option Addr) : Option Nat := A.map (·.block)
theorem ownBlock_slice (A : Option Addr) (n c : Nat) : (Value.slice A n c).ownBlock = blk A := by cases A <;> rfl

theorem run_app {P : Program} {t e : Nat} {z : Value} {size bytes : Nat} (T : SlT P t e z size bytes) (w : World) (ty : TypeId) {B n c : Nat} {A : Option Addr} {xs : List Value}
    (hown : w.ownsRow B e size (.slice A n c) n xs) {A2 : Option Addr} {m c2 : Nat} {news : List Value} (hl : news.length = m * size) (hc : Cells w A2 news)
    (h1 : ∀ u ∈ news, u.oneCell' = true) (hbytes : (n + m) * bytes ≤ 140737488355328) (hnm : n + m ≤ 140737488355328) (hB : B ≤ w.heap.size) :
    ∃ A' c' w', (Builtin.append_ #[t, t] ty #[.slice A n c, .slice A2 m c2]).run P w = .ok (.slice A' (n + m) c') w' ∧
      w'.ownsRow B e size (.slice A' (n + m) c') (n + m) (xs ++ news) ∧ w.grownBy w' (blk A) ∧ (blk A' = blk A ∨ blk A' = some w.heap.size) := by
  obtain ⟨i, hi, hz, hsz, hby⟩ := info_parts T.inf
  have form : ∀ (v' : Value) (w' : World), w'.ownsRow B e size v' (n + m) (xs ++ news) → ∃ A' c', v' = .slice A' (n + m) c' := by
    intro v' w' ho
    rcases ho.2 with ⟨hv, hn⟩ | ⟨g, cap, cur, hv, _⟩
    · exact ⟨none, 0, by rw [hv, hn]⟩
    · exact ⟨_, _, hv⟩
  rcases A2 with _ | ad
  · have hn : news = [] := by
      rcases news with _ | ⟨u, us⟩
      · rfl
      · obtain ⟨b, o, h, _⟩ := hc 0 (by simp); cases h
    subst hn
    have hm : m = 0 := by
      have hp := T.pos
      rcases Nat.eq_zero_or_pos m with h | h
      · exact h
      · have := Nat.mul_pos h hp; simp at hl; omega
    subst hm
    refine ⟨A, c, w, ?_, by simpa using hown, World.grownBy.refl w _, .inl rfl⟩
    rcases hown.2 with ⟨hv, hn⟩ | ⟨g, cap, cur, hv, _, _, hnc, _⟩
    · injection hv with h1 h2 h3; subst h1 h3
      simp [Builtin.append_, run_underlying T.und, sizeOf, typeInfo, hi, Builtin.lenOf, Builtin.firstCells, hn]
    · injection hv with h1 h2 h3; subst h1 h3
      simp [Builtin.append_, run_underlying T.und, sizeOf, typeInfo, hi, Builtin.lenOf, Builtin.firstCells, hnc, storeCells]
  · have hnews : ∀ j u, news[j]? = some u → w.cell? (ad.add j) = some u := by
      intro j u hu
      have hj : j < news.length := by
        rcases Nat.lt_or_ge j news.length with h | h
        · exact h
        · rw [List.getElem?_eq_none h] at hu; cases hu
      obtain ⟨b, o, hA, hcell⟩ := hc j hj
      injection hA with hA
      subst hA
      rw [Addr.add_lit, hcell, hu]
    obtain ⟨v', w', hrun, ho, hg, _, hb⟩ := run_append_own_at (P := P) w B t ty e i z size bytes T.und hi hz hsz hby T.zs T.pos _ n xs hown ad m c2 news hl hnews h1 (by simp only [maxLen]; omega) hbytes hB
    obtain ⟨A', c', rfl⟩ := form v' w' ho
    rw [ownBlock_slice] at hg
    rw [ownBlock_slice, ownBlock_slice] at hb
    exact ⟨A', c', w', hrun, ho, hg, hb⟩

/-- 's = append(s, x...)' onto a row of the call's own; what is appended reads as 'news'. -/
theorem wpList_app {P : Program} {t e : Nat} {z : Value} {size bytes : Nat} (T : SlT P t e z size bytes) {ops : Array Oper} {rest : List Oper} {o : Oper} {a : Act} {w : World} {Q : Exit → Act → World → Prop} (hgd : o.guard = none) (s x : Operand)
    (ho : o.op = .call { callee := .builtin .append, args := #[s, x], argTypes := #[t, t] }) {B n c : Nat} {A : Option Addr} {xs : List Value} (hs : a.eval s = .slice A n c)
    (hown : w.ownsRow B e size (.slice A n c) n xs) {A2 : Option Addr} {m c2 : Nat} {news : List Value} (hx : a.eval x = .slice A2 m c2) (hl : news.length = m * size) (hc : Cells w A2 news)
    (h1 : ∀ u ∈ news, u.oneCell' = true) (hbytes : (n + m) * bytes ≤ 140737488355328) (hnm : n + m ≤ 140737488355328) (hB : B ≤ w.heap.size)
    (h : ∀ A' c' w', w'.ownsRow B e size (.slice A' (n + m) c') (n + m) (xs ++ news) → w.grownBy w' (blk A) → (blk A' = blk A ∨ blk A' = some w.heap.size) →
      wpList P ops Q rest (a.put o.dst (.slice A' (n + m) c')) w') : wpList P ops Q (o :: rest) a w := by
  obtain ⟨A', c', w', hrun, h2, h3, h4⟩ := run_app T w o.type hown (c2 := c2) hl hc h1 hbytes hnm hB
  refine wpList_plain hgd fun K hK => ?_
  unfold Oper.wp execOp
  simp only [ho, resolve, invoke, builtin, Sem.run_bind, Sem.run_pure, Result.andThen_ok, List.map_toArray, List.map_cons, List.map_nil, hs, hx, hrun]
  exact hK _ _ (h A' c' w' h2 h3 h4)

/-- One new cell, read as a list of one. -/
theorem cells_new (w : World) (v : Value) (e : TypeId) : Cells (w.alloc (.cells #[v] e)) (some ⟨w.heap.size, 0, none⟩) [v] := by
  intro j hj
  have : j = 0 := by simp at hj; omega
  subst this
  exact ⟨_, _, rfl, by rw [World.cell?_alloc_at _ _ _ _ rfl]; rfl⟩

/-- What an append to the row at A leaves: only that row and new blocks have turned; the row lies where it lay, or in a new block. -/
structure Grew (w w' : World) (A A' : Option Addr) : Prop where
  by_ : w.grownBy w' (blk A)
  at_ : blk A' = blk A ∨ ∃ b, blk A' = some b ∧ w.heap.size ≤ b
theorem own_lt {w : World} {B : Nat} {e size : Nat} {A : Option Addr} {n c : Nat} {vs : List Value} (h : w.ownsRow B e size (.slice A n c) n vs) : ∀ k, blk A = some k → B ≤ k ∧ k < w.heap.size := by
  intro k hk; exact h.lt k (by rw [ownBlock_slice]; exact hk)
theorem Grew.below {w w' : World} {A A' : Option Addr} (h : Grew w w' A A') {B : Nat} (hB : B ≤ w.heap.size) (hA : ∀ k, blk A = some k → B ≤ k) : Below B w w' :=
  (Below.refl B w).grown h.by_ hB hA
theorem grownBy_of_alloc {w w' : World} {o : Obj} {r : Option Nat} (h : (w.alloc o).grownBy w' r) : w.grownBy w' r :=
  (World.grownBy_alloc w o r).trans h

theorem wpList_push_i {ops : Array Oper} {rest : List Oper} {o : Oper} {a : Act} {w : World} {Q : Exit → Act → World → Prop} {B n c : Nat} {A : Option Addr} {xs : List Int} {v : Int} (hown : OwnI w B A n c xs)
    (hgd : o.guard = none) (s x : Operand) (ho : o.op = .call { callee := .builtin .append, args := #[s, x], argTypes := #[24, 24] }) (hs : a.eval s = .slice A n c)
    (hx : a.eval x = .slice (some ⟨w.heap.size, 0, none⟩) 1 1) (hn : n ≤ 1000000) (hB : B ≤ w.heap.size)
    (h : ∀ A' c' w', OwnI w' B A' (n + 1) c' (xs ++ [v]) → Below B w w' → Grew w w' A A' → wpList Try.prog ops Q rest (a.put o.dst (.slice A' (n + 1) c')) w') :
    wpList Try.prog ops Q (o :: rest) a (w.alloc (.cells #[.int .i64 v] 3)) := by
  refine wpList_app sl24 hgd s x ho hs (World.ownsRow.alloc hown _) hx (news := [.int .i64 v]) rfl (cells_new _ _ _) (by intro u hu; simp at hu; subst hu; rfl) (by omega) (by omega) (by simp; omega) ?_
  intro A' c' w' h1 h2 h3
  have hg : Grew w w' A A' := ⟨grownBy_of_alloc h2, by
    rcases h3 with h3 | h3
    · exact .inl h3
    · exact .inr ⟨_, h3, by simp⟩⟩
  exact h A' c' w' (by unfold OwnI; rw [iv_append]; exact h1) (hg.below hB (fun k hk => (own_lt hown k hk).1)) hg
theorem nv_iv (xs : List Nat) : nv xs = iv (xs.map (fun x : Nat => (x : Int))) := by simp [nv, iv]
theorem wpList_push_n {ops : Array Oper} {rest : List Oper} {o : Oper} {a : Act} {w : World} {Q : Exit → Act → World → Prop} {B n c : Nat} {A : Option Addr} {xs : List Nat} {v : Nat} (hown : OwnN w B A n c xs)
    (hgd : o.guard = none) (s x : Operand) (ho : o.op = .call { callee := .builtin .append, args := #[s, x], argTypes := #[24, 24] }) (hs : a.eval s = .slice A n c)
    (hx : a.eval x = .slice (some ⟨w.heap.size, 0, none⟩) 1 1) (hn : n ≤ 1000000) (hB : B ≤ w.heap.size)
    (h : ∀ A' c' w', OwnN w' B A' (n + 1) c' (xs ++ [v]) → Below B w w' → Grew w w' A A' → wpList Try.prog ops Q rest (a.put o.dst (.slice A' (n + 1) c')) w') :
    wpList Try.prog ops Q (o :: rest) a (w.alloc (.cells #[.int .i64 (v : Int)] 3)) := by
  refine wpList_push_i (xs := xs.map (fun x : Nat => (x : Int))) (by unfold OwnI; rw [← nv_iv]; exact hown) hgd s x ho hs hx hn hB ?_
  intro A' c' w' h1 h2 h3
  exact h A' c' w' (by unfold OwnI at h1; unfold OwnN; rw [nv_iv]; simpa using h1) h2 h3

/-- The cells of a list of streets. -/
def sv : List St → List Value
  | [] => []
  | s :: ss => .int .i64 s.a :: .int .i64 s.b :: .int .i64 s.w :: sv ss
theorem sv_length (ss : List St) : (sv ss).length = 3 * ss.length := by
  induction ss with
  | nil => rfl
  | cons s ss ih => simp [sv, ih]; omega
theorem sv_append (ss ts : List St) : sv (ss ++ ts) = sv ss ++ sv ts := by
  induction ss with
  | nil => rfl
  | cons s ss ih => simp [sv, ih]
theorem sv_one (ss : List St) : ∀ u ∈ sv ss, u.oneCell' = true := by
  induction ss with
  | nil => intro u hu; cases hu
  | cons s ss ih =>
    intro u hu
    simp only [sv, List.mem_cons] at hu
    rcases hu with rfl | rfl | rfl | hu
    · rfl
    · rfl
    · rfl
    · exact ih u hu
theorem sv_get (ss : List St) (k : Nat) (h : k < ss.length) :
    (sv ss)[k * 3]? = some (.int .i64 (st_ ss k).a) ∧ (sv ss)[k * 3 + 1]? = some (.int .i64 (st_ ss k).b) ∧ (sv ss)[k * 3 + 2]? = some (.int .i64 (st_ ss k).w) := by
  induction ss generalizing k with
  | nil => simp at h
  | cons s ss ih =>
    cases k with
    | zero => exact ⟨rfl, rfl, rfl⟩
    | succ k =>
      obtain ⟨h1, h2, h3⟩ := ih k (by simp at h; omega)
      have e : (k + 1) * 3 = k * 3 + 3 := by omega
      rw [e]
      exact ⟨h1, h2, h3⟩
def RdS (w : World) (A : Option Addr) (n : Nat) (ss : List St) : Prop := ss.length = n ∧ Cells w A (sv ss)
/-- A slice of streets of a net. -/
def RdE (w : World) (A : Option Addr) (n : Nat) (es : List Ed) : Prop := RdS w A n (es.map Ed.st)
theorem RdS.at_ {w : World} {A : Option Addr} {n : Nat} {ss : List St} (h : RdS w A n ss) {k : Nat} (hk : k < n) :
    ∃ b o, A = some ⟨b, o, none⟩ ∧ b < w.heap.size ∧ w.cell? ⟨b, o + k * 3, none⟩ = some (.int .i64 (st_ ss k).a) ∧ w.cell? ⟨b, o + k * 3 + 1, none⟩ = some (.int .i64 (st_ ss k).b) ∧
      w.cell? ⟨b, o + k * 3 + 2, none⟩ = some (.int .i64 (st_ ss k).w) := by
  obtain ⟨h1, h2, h3⟩ := sv_get ss k (by rw [h.1]; exact hk)
  obtain ⟨b, o, rfl, hb, c1⟩ := h.2.at_ h1
  obtain ⟨_, _, e, _, c2⟩ := h.2.at_ h2
  injection e with e; injection e with e1 e2; subst e1 e2
  obtain ⟨_, _, e, _, c3⟩ := h.2.at_ h3
  injection e with e; injection e with e1 e2; subst e1 e2
  exact ⟨_, _, rfl, hb, c1, c2, c3⟩
theorem st_ed (es : List Ed) (k : Nat) : st_ (es.map Ed.st) k = (ed_ es k).st := by
  unfold st_ ed_
  rw [List.getD_eq_getElem?_getD, List.getD_eq_getElem?_getD, List.getElem?_map]
  cases es[k]? <;> rfl
theorem RdE.at_ {w : World} {A : Option Addr} {n : Nat} {es : List Ed} (h : RdE w A n es) {k : Nat} (hk : k < n) :
    ∃ b o, A = some ⟨b, o, none⟩ ∧ b < w.heap.size ∧ w.cell? ⟨b, o + k * 3, none⟩ = some (.int .i64 ((ed_ es k).a : Nat)) ∧ w.cell? ⟨b, o + k * 3 + 1, none⟩ = some (.int .i64 ((ed_ es k).b : Nat)) ∧
      w.cell? ⟨b, o + k * 3 + 2, none⟩ = some (.int .i64 (ew es k : Nat)) := by
  have := RdS.at_ h hk
  rw [st_ed] at this
  exact this
theorem RdS.below {w w' : World} {A : Option Addr} {n : Nat} {ss : List St} (h : RdS w A n ss) (hb : Below w.heap.size w w') : RdS w' A n ss := ⟨h.1, h.2.below hb⟩
theorem RdE.below {w w' : World} {A : Option Addr} {n : Nat} {ss : List Ed} (h : RdE w A n ss) (hb : Below w.heap.size w w') : RdE w' A n ss := RdS.below h hb
theorem RdE.len {w : World} {A : Option Addr} {n : Nat} {es : List Ed} (h : RdE w A n es) : es.length = n := by have := h.1; simpa using this

theorem own_below {w w' : World} {B : Nat} {e size : Nat} {A : Option Addr} {n c : Nat} {vs : List Value} (h : w.ownsRow B e size (.slice A n c) n vs) (hb : Below w.heap.size w w') : w'.ownsRow B e size (.slice A n c) n vs :=
  h.kept (w' := w') (row := none) ⟨hb.os, hb.tape, hb.output, hb.size, fun k hk _ => hb.block k hk⟩ (by cases h : (Value.slice A n c).ownBlock <;> simp)
theorem own_mono {w : World} {B B' : Nat} {e size : Nat} {A : Option Addr} {n c : Nat} {vs : List Value} (h : w.ownsRow B e size (.slice A n c) n vs) (hB : B' ≤ B) : w.ownsRow B' e size (.slice A n c) n vs :=
  ⟨h.1, by
    rcases h.2 with h | ⟨g, cap, cur, hv, hg, r⟩
    · exact .inl h
    · exact .inr ⟨g, cap, cur, hv, by omega, r⟩⟩
theorem own_grew {w w' : World} {B : Nat} {e size : Nat} {A : Option Addr} {n c : Nat} {vs : List Value} {A1 A2 : Option Addr} (h : w.ownsRow B e size (.slice A n c) n vs) (hg : Grew w w' A1 A2)
    (hne : ∀ k, blk A = some k → blk A1 ≠ some k) : w'.ownsRow B e size (.slice A n c) n vs :=
  h.kept hg.by_ (by
    rw [ownBlock_slice]
    cases hk : blk A with
    | none => exact .inl rfl
    | some k => exact .inr (fun e => hne k hk e.symm))
theorem own_cap {w : World} {B : Nat} {e size : Nat} {A : Option Addr} {n c : Nat} {vs : List Value} (h : w.ownsRow B e size (.slice A n c) n vs) : n ≤ c ∧ c ≤ 9223372036854775807 := by
  rcases h.2 with ⟨hv, hn⟩ | ⟨g, cap, cur, hv, _, _, h1, h2, _⟩
  · injection hv with _ h2 h3; subst h3; omega
  · injection hv with _ _ h3; subst h3; simp only [maxLen] at h2; omega
theorem drewN_below {B : Nat} {a w : World} (h : Below B a w) (n : Nat) : Below B a (w.drewN n) := below_drewN h n

theorem elem_of {P : Program} {t e : Nat} (ht : P.underlying t = some (.slice e)) : P.elem t = e := by simp [Program.elem, ht]
/-- 's[:h]' -/
theorem wpList_sliceH {P : Program} {t e : Nat} {z : Value} {size bytes : Nat} (T : SlT P t e z size bytes) {ops : Array Oper} {rest : List Oper} {o : Oper} {a : Act} {w : World} {Q : Exit → Act → World → Prop} (hgd : o.guard = none) (x hi : Operand)
    (ho : o.op = .slice t x none (some hi) none) {A : Option Addr} {n c j : Nat} (hx : a.eval x = .slice A n c) (hh : a.eval hi = .int .i64 (j : Int)) (hj : j ≤ c)
    (h : wpList P ops Q rest (a.put o.dst (.slice A j c)) w) : wpList P ops Q (o :: rest) a w := by
  refine wpList_plain hgd fun K hK => ?_
  obtain ⟨i, hi', _, h2, _⟩ := info_parts T.inf
  unfold Oper.wp execOp
  have e1 : (if c = 0 then A else A.map (·.add 0)) = A := by split <;> cases A <;> simp [Addr.add]
  have ht' : P.underlying t = some (.slice (P.elem t)) := by rw [elem_of T.und]; exact T.und
  have hr := run_slice_h w t A n c ht' .i64 (j : Int) (by omega) (by omega)
  rw [elem_of T.und] at hr
  have hr2 : (Instr.sliceAt t (.slice A n c) none (some (.int .i64 (j : Int))) none).run P w = .ok (.slice A j c) w := by
    rw [run_sliceAt_slice w t _ _ _ _ ht', hr]
    simp [sizeOf, typeInfo, hi', sliced, e1]
  simp [ho, hx, hh, hr2]
  exact hK _ _ h
/-- 's[l:]' -/
theorem wpList_sliceL {P : Program} {t e : Nat} {z : Value} {size bytes : Nat} (T : SlT P t e z size bytes) {ops : Array Oper} {rest : List Oper} {o : Oper} {a : Act} {w : World} {Q : Exit → Act → World → Prop} (hgd : o.guard = none) (x lo : Operand)
    (ho : o.op = .slice t x (some lo) none none) {A : Option Addr} {n c j : Nat} (hx : a.eval x = .slice A n c) (hh : a.eval lo = .int .i64 (j : Int)) (hj : j ≤ n)
    (h : ∀ A', (∀ (w : World) (vs : List Value), vs.length ≤ c * size → Cells w A vs → Cells w A' (vs.drop (j * size))) → wpList P ops Q rest (a.put o.dst (.slice A' (n - j) (c - j))) w) : wpList P ops Q (o :: rest) a w := by
  refine wpList_plain hgd fun K hK => ?_
  obtain ⟨i, hi', _, h2, _⟩ := info_parts T.inf
  unfold Oper.wp execOp
  have ht' : P.underlying t = some (.slice (P.elem t)) := by rw [elem_of T.und]; exact T.und
  have hr := run_slice_l w t A n c ht' .i64 (j : Int) (by omega) (by omega)
  rw [elem_of T.und] at hr
  have hr2 : (Instr.sliceAt t (.slice A n c) (some (.int .i64 (j : Int))) none none).run P w = .ok (.slice (if c = j then A else A.map (·.add (j * size))) (n - j) (c - j)) w := by
    rw [run_sliceAt_slice w t _ _ _ _ ht', hr]
    simp [sizeOf, typeInfo, hi', sliced, h2]
  simp only [ho, hx, hh, Option.map_some, Option.map_none, Sem.run_bind, hr2, Result.andThen_ok]
  refine hK _ _ (h _ ?_)
  intro w vs hl hc k hk
  rw [List.length_drop] at hk
  obtain ⟨b, o, rfl, hcell⟩ := hc (j * size + k) (by omega)
  have hne : c ≠ j := by rintro rfl; omega
  rw [if_neg hne]
  refine ⟨b, o + j * size, by simp [Addr.add_lit], ?_⟩
  rw [List.getElem?_drop, ← hcell, Nat.add_assoc]

theorem Cells.take {w : World} {A : Option Addr} {vs : List Value} (h : Cells w A vs) (j : Nat) : Cells w A (vs.take j) := by
  intro k hk
  rw [List.length_take] at hk
  obtain ⟨b, o, hA, hc⟩ := h k (by omega)
  exact ⟨b, o, hA, by rw [hc, List.getElem?_take, if_pos (by omega)]⟩
theorem RdN.take {w : World} {A : Option Addr} {n j : Nat} {xs : List Nat} (h : RdN w A n xs) (hj : j ≤ n) : RdN w A j (xs.take j) :=
  ⟨by rw [List.length_take, h.1]; omega, by unfold nv; rw [List.map_take]; exact h.2.take j⟩
theorem RdI.take {w : World} {A : Option Addr} {n j : Nat} {xs : List Int} (h : RdI w A n xs) (hj : j ≤ n) : RdI w A j (xs.take j) :=
  ⟨by rw [List.length_take, h.1]; omega, by unfold iv; rw [List.map_take]; exact h.2.take j⟩
theorem RdN.drop {w : World} {A A' : Option Addr} {n j c : Nat} {xs : List Nat} (h : RdN w A n xs)
    (hA : ∀ (w : World) (vs : List Value), vs.length ≤ c * 1 → Cells w A vs → Cells w A' (vs.drop (j * 1))) (hc : n ≤ c) : RdN w A' (n - j) (xs.drop j) :=
  ⟨by rw [List.length_drop, h.1], by
    have := hA w (nv xs) (by rw [nv_length, h.1]; omega) h.2
    unfold nv at this ⊢
    rw [Nat.mul_one] at this
    rw [List.map_drop]; exact this⟩
theorem RdS.drop {w : World} {A A' : Option Addr} {n j c : Nat} {xs : List St} (h : RdS w A n xs)
    (hA : ∀ (w : World) (vs : List Value), vs.length ≤ c * 3 → Cells w A vs → Cells w A' (vs.drop (j * 3))) (hc : n ≤ c) : RdS w A' (n - j) (xs.drop j) :=
  ⟨by rw [List.length_drop, h.1], by
    have h1 := hA w (sv xs) (by rw [sv_length, h.1]; omega) h.2
    have h2 : ∀ (xs : List St) (j : Nat), (sv xs).drop (j * 3) = sv (xs.drop j) := by
      intro xs
      induction xs with
      | nil => intro j; simp [sv]
      | cons s ss ih =>
        intro j
        cases j with
        | zero => simp
        | succ j =>
          have e : (j + 1) * 3 = j * 3 + 3 := by omega
          rw [e]
          exact ih j
    rw [h2] at h1
    exact h1⟩
theorem RdI.of_n {w : World} {A : Option Addr} {n : Nat} {xs : List Nat} (h : RdN w A n xs) : RdI w A n (xs.map (fun x : Nat => (x : Int))) :=
  ⟨by simpa using h.1, by rw [← nv_iv]; exact h.2⟩

/-- 's = append(s, x...)' of numbers. -/
theorem wpList_app_i {ops : Array Oper} {rest : List Oper} {o : Oper} {a : Act} {w : World} {Q : Exit → Act → World → Prop} {B n c : Nat} {A : Option Addr} {xs : List Int} (hown : OwnI w B A n c xs)
    {A2 : Option Addr} {m c2 : Nat} {ys : List Int} (hy : RdI w A2 m ys) (hgd : o.guard = none) (s x : Operand) (ho : o.op = .call { callee := .builtin .append, args := #[s, x], argTypes := #[24, 24] }) (hs : a.eval s = .slice A n c)
    (hx : a.eval x = .slice A2 m c2) (hn : n + m ≤ 1000000) (hB : B ≤ w.heap.size)
    (h : ∀ A' c' w', OwnI w' B A' (n + m) c' (xs ++ ys) → Below B w w' → Grew w w' A A' → wpList Try.prog ops Q rest (a.put o.dst (.slice A' (n + m) c')) w') :
    wpList Try.prog ops Q (o :: rest) a w := by
  refine wpList_app sl24 hgd s x ho hs hown hx (news := iv ys) (by rw [iv_length, hy.1]; omega) hy.2 (iv_one ys) (by omega) (by omega) hB ?_
  intro A' c' w' h1 h2 h3
  have hg : Grew w w' A A' := ⟨h2, by
    rcases h3 with h3 | h3
    · exact .inl h3
    · exact .inr ⟨_, h3, Nat.le_refl _⟩⟩
  exact h A' c' w' (by unfold OwnI; rw [iv_append]; exact h1) (hg.below hB (fun k hk => (own_lt hown k hk).1)) hg
theorem wpList_app_n {ops : Array Oper} {rest : List Oper} {o : Oper} {a : Act} {w : World} {Q : Exit → Act → World → Prop} {B n c : Nat} {A : Option Addr} {xs : List Nat} (hown : OwnN w B A n c xs)
    {A2 : Option Addr} {m c2 : Nat} {ys : List Nat} (hy : RdN w A2 m ys) (hgd : o.guard = none) (s x : Operand) (ho : o.op = .call { callee := .builtin .append, args := #[s, x], argTypes := #[24, 24] }) (hs : a.eval s = .slice A n c)
    (hx : a.eval x = .slice A2 m c2) (hn : n + m ≤ 1000000) (hB : B ≤ w.heap.size)
    (h : ∀ A' c' w', OwnN w' B A' (n + m) c' (xs ++ ys) → Below B w w' → Grew w w' A A' → wpList Try.prog ops Q rest (a.put o.dst (.slice A' (n + m) c')) w') :
    wpList Try.prog ops Q (o :: rest) a w := by
  refine wpList_app sl24 hgd s x ho hs hown hx (news := nv ys) (by rw [nv_length, hy.1]; omega) hy.2 (nv_one ys) (by omega) (by omega) hB ?_
  intro A' c' w' h1 h2 h3
  have hg : Grew w w' A A' := ⟨h2, by
    rcases h3 with h3 | h3
    · exact .inl h3
    · exact .inr ⟨_, h3, Nat.le_refl _⟩⟩
  exact h A' c' w' (by unfold OwnN; rw [nv_append]; exact h1) (hg.below hB (fun k hk => (own_lt hown k hk).1)) hg
theorem OwnN.none_ (w : World) (B : Nat) : OwnN w B none 0 0 [] := World.ownsRow_nil _ _ _ _
theorem OwnI.none_ (w : World) (B : Nat) : OwnI w B none 0 0 [] := World.ownsRow_nil _ _ _ _

def bv (bs : List Bool) : List Value := bs.map Value.bool
theorem bv_length (xs : List Bool) : (bv xs).length = xs.length := by simp [bv]
theorem bv_get (xs : List Bool) (k : Nat) (h : k < xs.length) : (bv xs)[k]? = some (.bool (bool_ xs k)) := by
  simp [bv, bool_, List.getElem?_map, List.getElem?_eq_getElem h, List.getD_eq_getElem?_getD]
def OwnB (w : World) (B : Nat) (A : Option Addr) (n c : Nat) (xs : List Bool) : Prop := w.ownsRow B 4 1 (.slice A n c) n (bv xs)
theorem OwnB.len {w : World} {B : Nat} {A : Option Addr} {n c : Nat} {xs : List Bool} (h : OwnB w B A n c xs) : xs.length = n := by have := h.1; rw [bv_length] at this; omega
theorem OwnN.len {w : World} {B : Nat} {A : Option Addr} {n c : Nat} {xs : List Nat} (h : OwnN w B A n c xs) : xs.length = n := h.rd.1
theorem OwnI.len {w : World} {B : Nat} {A : Option Addr} {n c : Nat} {xs : List Int} (h : OwnI w B A n c xs) : xs.length = n := h.rd.1

/-- A cell of an owned row: where it lies, what it holds, that it may be written; and what a store into it leaves. -/
theorem own_at {w : World} {B : Nat} {e : TypeId} {A : Option Addr} {n c : Nat} {vs : List Value} (h : w.ownsRow B e 1 (.slice A n c) n vs) {k : Nat} {v : Value} (hk : vs[k]? = some v) :
    ∃ g, A = some ⟨g, 0, none⟩ ∧ B ≤ g ∧ g < w.heap.size ∧ w.cell? ⟨g, k, none⟩ = some v ∧ w.frozen? ⟨g, k, none⟩ = false ∧
      ∀ u, (w.setCell ⟨g, k, none⟩ u).ownsRow B e 1 (.slice A n c) n (vs.set k u) ∧ w.grownBy (w.setCell ⟨g, k, none⟩ u) (some g) := by
  obtain ⟨b, o, rfl, hb, hc⟩ := (own_cells h).at_ hk
  rcases h.2 with ⟨hv, _⟩ | ⟨g, cap, cur, hv, hg, hh, _⟩
  · cases hv
  · injection hv with h1 h2 h3
    injection h1 with h1
    injection h1 with h1 h4
    subst h1 h4 h3
    rw [Nat.zero_add] at hc
    exact ⟨b, rfl, hg, hb, hc, h.frozenAt k, fun u => h.stored k u⟩
theorem bv_set (bs : List Bool) (k : Nat) (b : Bool) : (bv bs).set k (.bool b) = bv (bs.set k b) := by simp [bv, List.map_set]
theorem nv_set (bs : List Nat) (k : Nat) (b : Nat) : (nv bs).set k (.int .i64 (b : Int)) = nv (bs.set k b) := by simp [nv, List.map_set]
theorem iv_set (bs : List Int) (k : Nat) (b : Int) : (iv bs).set k (.int .i64 b) = iv (bs.set k b) := by simp [iv, List.map_set]
/-- What is owned elsewhere stays while a cell of block g is written. -/
theorem own_other {w w' : World} {B : Nat} {e size : Nat} {A : Option Addr} {n c g : Nat} {vs : List Value} (h : w.ownsRow B e size (.slice A n c) n vs) (hg : w.grownBy w' (some g)) (hne : blk A ≠ some g) : w'.ownsRow B e size (.slice A n c) n vs :=
  h.kept hg (by rw [ownBlock_slice]; exact .inr hne)
theorem Cells.other {w w' : World} {A : Option Addr} {g : Nat} {vs : List Value} (h : Cells w A vs) (hg : w.grownBy w' (some g)) (hne : blk A ≠ some g) : Cells w' A vs := by
  intro j hj
  obtain ⟨b, o, hA, hc⟩ := h j hj
  subst hA
  rw [List.getElem?_eq_getElem hj] at hc ⊢
  exact ⟨b, o, rfl, hg.cell hc (by simpa [blk] using hne)⟩
theorem below_of_grown {w w' : World} {g B : Nat} (hg : w.grownBy w' (some g)) (hB : B ≤ w.heap.size) (h : B ≤ g) : Below B w w' :=
  (Below.refl B w).grown hg hB (fun k hk => by injection hk with hk; omega)

/-- 'make([]T, n)' of elements of one cell. -/
theorem wpList_mk {P : Program} {t e : Nat} {z : Value} {bytes : Nat} (T : SlT P t e z 1 bytes) (hz : z.cells = #[z]) {ops : Array Oper} {rest : List Oper} {o : Oper} {a : Act} {w : World} {Q : Exit → Act → World → Prop} (hgd : o.guard = none) (x y : Operand)
    (ho : o.op = .makeSlice t x y) {n : Nat} (hx : a.eval x = .int .i64 (n : Int)) (hy : a.eval y = .int .i64 (n : Int)) (hn : n ≤ 1000000) (hb : bytes ≤ 24)
    (h : ∀ w', w'.ownsRow w.heap.size e 1 (.slice (some ⟨w.heap.size, 0, none⟩) n n) n (List.replicate n z) → Below w.heap.size w w' → wpList P ops Q rest (a.put o.dst (.slice (some ⟨w.heap.size, 0, none⟩) n n)) w') :
    wpList P ops Q (o :: rest) a w := by
  refine wpList_plain hgd fun K hK => ?_
  have hnb : bytes * n ≤ 24 * 1000000 := Nat.mul_le_mul hb hn
  have hr := run_make_row' (P := P) t e z bytes T.und T.inf hz .i64 .i64 n (by omega) (by omega) w
  unfold Oper.wp execOp
  simp only [ho, hx, hy, Sem.run_bind, hr, Result.andThen_ok]
  refine hK _ _ (h _ ?_ ((Below.refl _ _).alloc (Nat.le_refl _) _))
  have := World.ownsRow_lit (e := e) (base := w.heap.size) (size := 1) w (madeCells #[z] n) n (Nat.le_refl _) (by simp only [maxLen]; omega) (by simp [madeCells])
  rw [toList_madeCells_one] at this
  exact this

theorem below_one (w : World) (o : Obj) (n : Nat) : Below w.heap.size w ((w.alloc o).drewN n) := drewN_below ((Below.refl _ _).alloc (Nat.le_refl _) _) _
theorem below_one' (w : World) (o : Obj) : Below w.heap.size w (w.alloc o) := (Below.refl _ _).alloc (Nat.le_refl _) _
theorem below_q (w : World) (n : Nat) : Below w.heap.size w (w.drewN n) := drewN_below (Below.refl _ _) _

/-- Two rows lie in different blocks. -/
def Dj (A A2 : Option Addr) : Prop := ∀ k, blk A = some k → blk A2 ≠ some k
theorem Dj.none_ (A : Option Addr) : Dj A none := fun _ _ h => by cases h
theorem Dj.none_left (A : Option Addr) : Dj none A := fun _ h => by cases h
theorem Dj.symm {A A2 : Option Addr} (h : Dj A A2) : Dj A2 A := fun k h1 h2 => h k h2 h1
theorem Dj.push {w w' : World} {A A' A2 : Option Addr} (h : Dj A A2) (hg : Grew w w' A A') {B : Nat} {e size n c : Nat} {vs : List Value} (ho : w.ownsRow B e size (.slice A2 n c) n vs) : Dj A' A2 := by
  intro k hk hk2
  rcases hg.at_ with e | ⟨b, e, hb⟩
  · exact h k (e ▸ hk) hk2
  · rw [e] at hk; injection hk with hk
    have := (own_lt ho k hk2).2; omega

theorem info3 : (Try.prog.info? 3).map (fun i => (i.zero, i.size, i.bytes)) = some (some (.int .i64 0), 1, 8) := by kernel_rfl

theorem quietL {P : Program} {f : FuncId} {args : Array Value} {w : World} {n : Nat} {v : Value}
    (h : Calls P f args (w.drewN n) fun e w' => e = .returned v ∧ w.drewN n = w') : Calls P f args (w.drewN n) fun e w'' => e = .returned v ∧ ∃ m, w'' = w.drewN m :=
  h.mono fun _ _ ⟨he, hm⟩ => ⟨he, n, hm.symm⟩

/-- A region's rest that reads alone is walked in the order of the text. -/
theorem wpAnyH_of_quiet {P : Program} {ops : Array Oper} {md : Region.Mode} {C S : World → Prop} {Q : Act → Prop} {Q' : Exit → Act → World → Prop} (hCS : ∀ w, C w → S w) (hQ : ∀ a w, C w → Q a → Q' .normal a w) :
    ∀ (fuel : Nat) (listed : Array Bool) (a : Act) (w : World), C w → wpAnyQ P md ops C Q fuel listed a → wpAnyH P md ops Q' S fuel listed a w
  | 0, _, _, _, hw, h => ⟨h.1, hQ _ _ hw h.2⟩
  | fuel + 1, _, _, _, hw, h => ⟨fun h0 => hQ _ _ hw (h.1 h0), fun i hi => wpOp_of_qOp hw (fun a' w' hw' hk => ⟨hCS w' hw', wpAnyH_of_quiet hCS hQ fuel _ a' w' hw' hk⟩) (h.2 i hi)⟩
theorem wpAnyH_tail {P : Program} {ops : Array Oper} {S : World → Prop} {Q' : Exit → Act → World → Prop} {listed : Array Bool} {a : Act} {w : World} {fuel : Nat} (k : Nat) (hf : (ops.toList.drop k).length = fuel)
    (hs : Region.noSelect ops = true) (hx : Region.lexFrom .any ops (ops.toList.drop k).length k listed = true) (hCS : ∀ n, S (w.drewN n))
    (h : wpQuiet P ops (fun w' => ∃ n, w' = w.drewN n) (fun a' => ∀ w', (∃ n, w' = w.drewN n) → Q' .normal a' w') (ops.toList.drop k) a) : wpAnyH P .any ops Q' S fuel listed a w := by
  subst hf
  refine wpAnyH_of_quiet (C := fun w' => ∃ n, w' = w.drewN n) (fun w' ⟨n, e⟩ => by rw [e]; exact hCS n) (fun a' w' hw hq => hq w' hw) _ _ _ _ ⟨0, rfl⟩ (wpAnyQ_lex hs (ops.toList.drop k) k listed a (fun j => ?_) hx h)
  simp [List.getElem?_drop]


end Go.Proofs.Ytpfbichomgojoaa
