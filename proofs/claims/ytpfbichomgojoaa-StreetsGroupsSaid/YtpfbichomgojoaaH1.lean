/- Walks: the laws' small helpers. -/
import Derived.Test.YtpfbichomgojoaaP21
import Derived.Test.YtpfbichomgojoaaW10
namespace Go.Proofs.Ytpfbichomgojoaa
open Go.RowKit

/-- A row of streets of the call's own. -/
def OwnE (w : World) (B : Nat) (A : Option Addr) (n c : Nat) (ss : List St) : Prop := w.ownsRow B 42 3 (.slice A n c) n (sv ss)
theorem own_cells3 {w : World} {B : Nat} {e : TypeId} {A : Option Addr} {n c size : Nat} {vs : List Value} (_ : 0 < size) (h : w.ownsRow B e size (.slice A n c) n vs) : Cells w A vs := by
  intro j hj
  rcases h.2 with ⟨hv, hn⟩ | ⟨g, cap, cur, hv, _, hg, _, _, _, _⟩
  · have := h.1; subst hn; omega
  · injection hv with h1 h2 h3
    subst h1
    refine ⟨g, 0, rfl, ?_⟩
    have := h.cells (g := g) rfl j vs[j] (List.getElem?_eq_getElem hj)
    rw [List.getElem?_eq_getElem hj, ← this]
    simp [Addr.add_lit]
theorem OwnE.rd {w : World} {B : Nat} {A : Option Addr} {n c : Nat} {ss : List St} (h : OwnE w B A n c ss) : RdS w A n ss :=
  ⟨by have := h.1; rw [sv_length] at this; omega, own_cells3 (by omega) h⟩

theorem eq_of_int {xs ys : List Int} (hl : xs.length = ys.length) (h : ∀ j, j < xs.length → int_ xs j = int_ ys j) : xs = ys := by
  apply List.ext_getElem hl
  intro i h1 h2
  rw [← int_get h1, ← int_get h2]; exact h i h1
set_option maxHeartbeats 1000000 in
theorem ints_c (A : Option Addr) (n c : Nat) (xs : List Int) (A2 : Option Addr) (m c2 : Nat) (ys : List Int) (w : World) (hx : RdI w A n xs) (hy : RdI w A2 m ys) (hn : n ≤ 100000) (hm : m ≤ 100000) :
    Calls Try.prog 21 #[.slice A n c, .slice A2 m c2] w fun e w' => e = .returned (.bool (decide (xs = ys))) ∧ Below w.heap.size w w' := by
  have HX := Lib.hid hx.1
  have HY := Lib.hid hy.1
  by_cases hnm : n = m
  · have hd : (((n : Nat) : Int) != ((m : Nat) : Int)) = false := by simp [hnm]
    subst hnm
    go_enter Try.func21, Try.ntmps21
    go_wp2
    go_loopw [5] (fun i wr => ∃ k : Nat, k ≤ n ∧ i = .int .i64 ((k : Nat) : Int) ∧ (∀ j, j < k → int_ xs j = int_ ys j) ∧ Below w.heap.size w wr) (fun i _ => n - (intOf i).toNat)
    case atStart => exact ⟨0, Nat.zero_le _, rfl, fun j hj => by omega, Below.refl _ _⟩
    case round =>
      obtain ⟨k, hk, rfl, heq, hb⟩ := hrel
      have HE := Lib.hid heq
      clear heq
      by_cases hkn : k < n
      · obtain ⟨b1, o1, rfl, _, h1⟩ := (hx.below hb).at_ hkn
        obtain ⟨b2, o2, rfl, _, h2⟩ := (hy.below hb).at_ hkn
        by_cases he : int_ xs k = int_ ys k
        · have hd2 : (int_ xs k != int_ ys k) = false := by simp [he]
          have HK := Lib.hid he
          clear he
          generalize hX : int_ xs k = x at *
          generalize hY : int_ ys k = y at *
          have HX1 := Lib.hid hX
          have HY1 := Lib.hid hY
          clear hX hY
          go_wp2
          go_quiet (fail)
          go_wp2
          refine ⟨⟨k + 1, by omega, by go_num, fun j hj => ?_, drewN_below hb _⟩, by simp [intOf]; omega⟩
          by_cases e : j = k
          · subst e; rw [HX1.out, HY1.out]; exact HK.out
          · exact HE.out j (by omega)
        · have hd2 : (int_ xs k != int_ ys k) = true := by simp [he]
          have HN : Hid (decide (xs = ys) = false) := by
            have : xs ≠ ys := by rintro rfl; exact he rfl
            show decide (xs = ys) = false
            simpa using this
          clear he
          generalize int_ xs k = x at *
          generalize int_ ys k = y at *
          go_wp2
          go_quiet (fail)
          go_wp2
          go_ret
          rw [HN.out]
          exact ⟨rfl, drewN_below hb _⟩
      · have HN : Hid (decide (xs = ys) = true) := by
          have : xs = ys := eq_of_int (by rw [HX.out, HY.out]) fun j hj => HE.out j (by have := HX.out; omega)
          show decide (xs = ys) = true
          simpa using this
        go_wp2
        go_ret
        rw [HN.out]
        exact ⟨rfl, hb⟩
  · have hd : (((n : Nat) : Int) != ((m : Nat) : Int)) = true := by simp; omega
    have HN : Hid (decide (xs = ys) = false) := by
      have : xs ≠ ys := by rintro rfl; exact hnm (HX.out.symm.trans HY.out)
      show decide (xs = ys) = false
      simpa using this
    go_enter Try.func21, Try.ntmps21
    go_wp2
    go_ret
    rw [HN.out]
    exact ⟨rfl, Below.refl _ _⟩

theorem Cells.take_ {w : World} {A : Option Addr} {vs : List Value} (h : Cells w A vs) (j : Nat) : Cells w A (vs.take j) := h.take j
theorem sv_take (ss : List St) (j : Nat) : sv (ss.take j) = (sv ss).take (3 * j) := by
  induction ss generalizing j with
  | nil => simp [sv]
  | cons s ss ih =>
    cases j with
    | zero => simp [sv]
    | succ j => rw [List.take_succ_cons, sv, sv, ih, show 3 * (j + 1) = 3 * j + 1 + 1 + 1 by omega]; simp

set_option maxHeartbeats 1000000 in
theorem net_c (A : Option Addr) (m c : Nat) (ss : List St) (w : World) (hs : RdS w A m ss) (hmc : m ≤ c) (hm : m ≤ 9223372036854775807) :
    Calls Try.prog 13 #[.slice A m c] w fun e w' => ∃ A' c', e = .returned (.slice A' (min m 61) c') ∧ OwnE w' w.heap.size A' (min m 61) c' (ss.take 61) ∧ Below w.heap.size w w' := by
  have HM := Lib.hid hs.1
  have hc : Cells w A (sv (ss.take 61)) := by rw [sv_take]; exact hs.2.take _
  have hl : (sv (ss.take 61)).length = min m 61 * 3 := by rw [sv_length, List.length_take, HM.out]; omega
  rcases Nat.lt_or_ge 61 m with h61 | h61
  · have e : min m 61 = 61 := by omega
    have hmin : min (m : Int) 61 = 61 := by omega
    rw [e] at hl ⊢
    clear e
    go_enter Try.func13, Try.ntmps13
    go_wp2_with ((with_reducible show Go.wpList _ _ _ ({ dst := some 10, op := _, type := _, pos := _, after := _, guard := _ } :: _) _ _); refine wpList_app sl22 rfl _ _ rfl rfl (World.ownsRow_nil w w.heap.size 42 3) (m := 61) rfl hl hc (sv_one _) (by omega) (by omega) (Nat.le_refl _) ?_; intro A' c' w' h1 h2 h3)
    go_ret
    exact ⟨_, _, rfl, by rw [List.nil_append] at h1; exact h1, (Below.refl _ w).grown h2 (Nat.le_refl _) (fun k hk => by cases hk)⟩
  · have e : min m 61 = m := by omega
    have hmin : min (m : Int) 61 = (m : Int) := by omega
    rw [e] at hl ⊢
    clear e
    go_enter Try.func13, Try.ntmps13
    go_wp2_with ((with_reducible show Go.wpList _ _ _ ({ dst := some 10, op := _, type := _, pos := _, after := _, guard := _ } :: _) _ _); refine wpList_app sl22 rfl _ _ rfl rfl (World.ownsRow_nil w w.heap.size 42 3) (m := m) rfl hl hc (sv_one _) (by omega) (by omega) (Nat.le_refl _) ?_; intro A' c' w' h1 h2 h3)
    go_ret
    exact ⟨_, _, rfl, by rw [List.nil_append, Nat.zero_add] at h1; exact h1, (Below.refl _ w).grown h2 (Nat.le_refl _) (fun k hk => by cases hk)⟩

set_option maxHeartbeats 1000000 in
theorem list_c (A : Option Addr) (m c : Nat) (xs : List Int) (w : World) (hs : RdI w A m xs) (hmc : m ≤ c) (hm : m ≤ 9223372036854775807) :
    Calls Try.prog 34 #[.slice A m c] w fun e w' => ∃ A' c', e = .returned (.slice A' (min m 20) c') ∧ OwnI w' w.heap.size A' (min m 20) c' (xs.take 20) ∧ Below w.heap.size w w' := by
  have HM := Lib.hid hs.1
  have hc : Cells w A (iv (xs.take 20)) := by unfold iv; rw [List.map_take]; exact hs.2.take _
  have hl : (iv (xs.take 20)).length = min m 20 * 1 := by rw [iv_length, List.length_take, HM.out]; omega
  rcases Nat.lt_or_ge 20 m with h61 | h61
  · have e : min m 20 = 20 := by omega
    have hmin : min (m : Int) 20 = 20 := by omega
    rw [e] at hl ⊢
    clear e
    go_enter Try.func34, Try.ntmps34
    go_wp2_with ((with_reducible show Go.wpList _ _ _ ({ dst := some 10, op := _, type := _, pos := _, after := _, guard := _ } :: _) _ _); refine wpList_app sl24 rfl _ _ rfl rfl (World.ownsRow_nil w w.heap.size 3 1) (m := 20) rfl hl hc (iv_one _) (by omega) (by omega) (Nat.le_refl _) ?_; intro A' c' w' h1 h2 h3)
    go_ret
    exact ⟨_, _, rfl, by rw [List.nil_append] at h1; exact h1, (Below.refl _ w).grown h2 (Nat.le_refl _) (fun k hk => by cases hk)⟩
  · have e : min m 20 = m := by omega
    have hmin : min (m : Int) 20 = (m : Int) := by omega
    rw [e] at hl ⊢
    clear e
    go_enter Try.func34, Try.ntmps34
    go_wp2_with ((with_reducible show Go.wpList _ _ _ ({ dst := some 10, op := _, type := _, pos := _, after := _, guard := _ } :: _) _ _); refine wpList_app sl24 rfl _ _ rfl rfl (World.ownsRow_nil w w.heap.size 3 1) (m := m) rfl hl hc (iv_one _) (by omega) (by omega) (Nat.le_refl _) ?_; intro A' c' w' h1 h2 h3)
    go_ret
    exact ⟨_, _, rfl, by rw [List.nil_append, Nat.zero_add] at h1; exact h1, (Below.refl _ w).grown h2 (Nat.le_refl _) (fun k hk => by cases hk)⟩

/-- A number mapped to the range from 0 to n - 1. -/
def modN (x : Int) (n : Nat) : Nat := ((x % 18446744073709551616) % (n : Int)).toNat
theorem modN_lt {x : Int} {n : Nat} (h : 0 < n) : modN x n < n := by
  unfold modN
  have h1 := Int.emod_nonneg (x % 18446744073709551616) (show (n : Int) ≠ 0 by omega)
  have h2 := Int.emod_lt_of_pos (x % 18446744073709551616) (show (0 : Int) < n by omega)
  omega
theorem mod_int (x : Int) (n : Nat) (hn : 0 < n) (hn2 : n ≤ 1000000) : wrap64 ((IntKind.u64.wrap x).tmod (n : Int)) = ((modN x n : Nat) : Int) := by
  have e : IntKind.u64.wrap x = x % 18446744073709551616 := by simp [IntKind.wrap, IntKind.bits, IntKind.signed]
  have h0 := Int.emod_nonneg x (show (18446744073709551616 : Int) ≠ 0 by omega)
  have hlt := modN_lt (x := x) hn
  rw [e, Int.tmod_eq_emod_of_nonneg h0]
  have h1 := Int.emod_nonneg (x % 18446744073709551616) (show (n : Int) ≠ 0 by omega)
  have e2 : (x % 18446744073709551616) % (n : Int) = ((modN x n : Nat) : Int) := by unfold modN; rw [Int.toNat_of_nonneg h1]
  rw [e2]
  unfold wrap64; omega
set_option maxHeartbeats 1000000 in
set_option maxRecDepth 100000 in
theorem mod_c (x : Int) (n : Nat) (w : World) (hn : 0 < n) (hn2 : n ≤ 1000000) :
    Calls Try.prog 24 #[.int .i64 x, .int .i64 (n : Int)] w fun e w' => e = .returned (.int .i64 ((modN x n : Nat) : Int)) ∧ w = w' := by
  go_enter Try.func24, Try.ntmps24
  go_wp2
  go_ret
  exact ⟨rt_int (mod_int x n hn hn2), rfl⟩

end Go.Proofs.Ytpfbichomgojoaa
