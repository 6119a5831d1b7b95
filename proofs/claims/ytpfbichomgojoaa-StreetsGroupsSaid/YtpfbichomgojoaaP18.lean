/- Walk: spanning$1 (a number added to the matrix). -/
import Derived.Test.YtpfbichomgojoaaP17
import Derived.Test.YtpfbichomgojoaaMi
namespace Go.Proofs.Ytpfbichomgojoaa
open Go.RowKit

/-- Rows of a matrix alone have turned. -/
structure ButRows (ds : List (Option Addr × Nat)) (s : Nat) (w w' : World) : Prop where
  os : w'.os = w.os
  tape : w'.tape = w.tape
  output : w'.output = w.output
  size : w.heap.size ≤ w'.heap.size
  block : ∀ k, k < w.heap.size → (∀ i, i < s → blk (d_ ds i).1 ≠ some k) → w'.heap[k]? = w.heap[k]?
theorem ButRows.refl (ds : List (Option Addr × Nat)) (s : Nat) (w : World) : ButRows ds s w w := ⟨rfl, rfl, rfl, Nat.le_refl _, fun _ _ _ => rfl⟩
theorem ButRows.drewN (ds : List (Option Addr × Nat)) (s : Nat) (w : World) (n : Nat) : ButRows ds s w (w.drewN n) := ⟨rfl, rfl, rfl, Nat.le_refl _, fun _ _ _ => rfl⟩
theorem ButRows.trans {ds : List (Option Addr × Nat)} {s : Nat} {a b c : World} (h : ButRows ds s a b) (k : ButRows ds s b c) : ButRows ds s a c :=
  ⟨k.os.trans h.os, k.tape.trans h.tape, k.output.trans h.output, Nat.le_trans h.size k.size, fun i hi h1 => (k.block i (Nat.lt_of_lt_of_le hi h.size) h1).trans (h.block i hi h1)⟩
theorem ButRows.one {ds : List (Option Addr × Nat)} {s i g : Nat} {w w' : World} (hi : i < s) (hA : (d_ ds i).1 = some ⟨g, 0, none⟩) (h : w.grownBy w' (some g)) : ButRows ds s w w' :=
  ⟨h.os, h.tape, h.output, h.size, fun k hk h1 => h.block k hk (by intro e; injection e with e; subst e; exact h1 i hi (by rw [hA]; rfl))⟩
theorem ButRows.cell {ds : List (Option Addr × Nat)} {s : Nat} {w w' : World} {a : Addr} {v : Value} (h : ButRows ds s w w') (hc : w.cell? a = some v) (hne : ∀ i, i < s → blk (d_ ds i).1 ≠ some a.block) : w'.cell? a = some v := by
  have hb := World.block_lt_of_cell? _ _ hc
  rw [← hc]
  unfold World.cell?
  rw [h.block _ hb hne]
theorem ButRows.below {ds : List (Option Addr × Nat)} {s B : Nat} {w w' : World} (h : ButRows ds s w w') (hB : B ≤ w.heap.size) (hr : ∀ i, i < s → ∀ k, blk (d_ ds i).1 = some k → B ≤ k) : Below B w w' :=
  ⟨h.os, h.tape, h.output, h.size, fun k hk => h.block k (by omega) (fun i hi e => by have := hr i hi k e; omega)⟩
theorem ButRows.of_below {ds : List (Option Addr × Nat)} {s : Nat} {w w' : World} (h : Below w.heap.size w w') : ButRows ds s w w' := ⟨h.os, h.tape, h.output, h.size, fun k hk _ => h.block k hk⟩

theorem add_op (m p e : Nat) (d : Int) (hm : m < p) (hp : p ≤ 2147483647) (hd : (p : Int) + d = e) (hd1 : -1 ≤ d) (hd2 : d ≤ 1) :
    ∃ v1 v2 : Int, IntKind.i64.wrap ((m : Int) + d) = v1 ∧ IntKind.i64.wrap (v1 + (p : Int)) = v2 ∧ v2.tmod (p : Int) = (((m + e) % p : Nat) : Int) := by
  refine ⟨_, _, rfl, rfl, ?_⟩
  rw [IntKind.wrap_i64, IntKind.wrap_i64]
  have e1 : (((m : Int) + d + 9223372036854775808) % 18446744073709551616 - 9223372036854775808) = (m : Int) + d := by omega
  rw [e1]
  have e2 : (((m : Int) + d + (p : Int) + 9223372036854775808) % 18446744073709551616 - 9223372036854775808) = ((m + e : Nat) : Int) := by omega
  rw [e2]; rfl
theorem addP_out {p e s i j : Nat} {M : List (List Nat)} (hs : M.length = s) (hr : ∀ i, i < s → (row_ M i).length = s) (h : ¬ (i < s ∧ j < s)) : addP p e M i j = M := by
  unfold addP
  by_cases hi : i < s
  · have hj : s ≤ j := by omega
    have e0 : (row_ M i).set j ((nat_ (row_ M i) j + e) % p) = row_ M i := List.set_eq_of_length_le (by rw [hr i hi]; exact hj)
    rw [e0, row_get (by omega)]; exact List.set_getElem_self (by omega)
  · exact List.set_eq_of_length_le (by omega)
theorem addP_lt {p e i j : Nat} {M : List (List Nat)} (hp : 0 < p) (h : LtM p M) : LtM p (addP p e M i j) := h.set fun k => by
  rw [nat_set']
  split
  · exact Nat.mod_lt _ hp
  · exact h i k

set_option maxHeartbeats 1000000 in
set_option maxRecDepth 100000 in
theorem add_c (sb mb pb B : Nat) (O : Option Addr) (s cc : Nat) (ds : List (Option Addr × Nat)) (M : List (List Nat)) (p e i j : Nat) (d : Int) (w : World) (hM : Mat w B O s cc ds M) (hl : LtM p M) (hp0 : 0 < p) (hp : p ≤ 2147483647)
    (hsb : w.cell? ⟨sb, 0, none⟩ = some (.int .i64 (s : Int))) (hmb : w.cell? ⟨mb, 0, none⟩ = some (.slice O s cc)) (hpb : w.cell? ⟨pb, 0, none⟩ = some (.int .i64 (p : Int))) (hd : (p : Int) + d = e) (hd1 : -1 ≤ d) (hd2 : d ≤ 1) :
    Calls Try.prog 86 #[.int .i64 (i : Int), .int .i64 (j : Int), .int .i64 d, .pointer (some ⟨sb, 0, none⟩), .pointer (some ⟨mb, 0, none⟩), .pointer (some ⟨pb, 0, none⟩)] w
      fun e' w' => e' = .returned (.tuple #[]) ∧ Mat w' B O s cc ds (addP p e M i j) ∧ ButRows ds s w w' := by
  have HA := Lib.hid (fun h => addP_out (p := p) (e := e) (s := s) (i := i) (j := j) (M := M) hM.len (fun i hi => (hM.row i hi).len) h)
  by_cases hi : i < s
  · by_cases hj : j < s
    · obtain ⟨b, hO, _, _, h1⟩ := hM.at_ hi
      subst hO
      obtain ⟨g, hA, _, _, h2, h3, h4, h5⟩ := hM.put hi hj ((nat_ (row_ M i) j + e) % p)
      have HS := Lib.hid h4
      have HG := Lib.hid (ButRows.one hi hA h5)
      unfold rowV at h1
      rw [hA] at h1
      obtain ⟨v1, v2, e1, e2, e3⟩ := add_op (nat_ (row_ M i) j) p e d (hl i j) hp hd hd1 hd2
      have HE : Hid (addP p e M i j = M.set i ((row_ M i).set j ((nat_ (row_ M i) j + e) % p))) := rfl
      have hpz : ¬ p = 0 := by omega
      clear h4 h5 hA hd
      generalize (nat_ (row_ M i) j + e) % p = V at *
      generalize nat_ (row_ M i) j = x at *
      go_enter Try.func86, Try.ntmps86
      go_wp2
      go_still_tail 19, (by kernel_rfl)
      clear e1 e2 e3
      go_wp2
      refine bodyPost_end (results_none rfl _ _ _) rfl ?_
      exact ⟨rfl, by rw [HE.out]; exact HS.out.below (below_q _ 1), HG.out.trans (ButRows.drewN _ _ _ 1)⟩
    · go_enter Try.func86, Try.ntmps86
      go_wp2
      refine bodyPost_end (results_none rfl _ _ _) rfl ?_
      exact ⟨rfl, by rw [HA.out (fun h => hj h.2)]; exact hM, ButRows.refl _ _ _⟩
  · go_enter Try.func86, Try.ntmps86
    go_wp2
    refine bodyPost_end (results_none rfl _ _ _) rfl ?_
    exact ⟨rfl, by rw [HA.out (fun h => hi h.1)]; exact hM, ButRows.refl _ _ _⟩

end Go.Proofs.Ytpfbichomgojoaa
