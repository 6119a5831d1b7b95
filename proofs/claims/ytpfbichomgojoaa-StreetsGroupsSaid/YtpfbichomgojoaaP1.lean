/- Walks of the program: within, the parts (apart, of, join). -/
import Derived.Test.YtpfbichomgojoaaK
import Derived.Test.YtpfbichomgojoaaMP
namespace Go.Proofs.Ytpfbichomgojoaa
open Go.RowKit

theorem rt_bool {a b : Bool} (h : a = b) : Ending.returned (.bool a) = .returned (.bool b) := by rw [h]
theorem rt_int {a b : Int} (h : a = b) : Ending.returned (.int .i64 a) = .returned (.int .i64 b) := by rw [h]
theorem rt_two {v u v' u' : Value} (h1 : v = v') (h2 : u = u') : Ending.returned (.tuple #[v, u]) = .returned (.tuple #[v', u']) := by rw [h1, h2]
theorem rt_slice {A : Option Addr} {n m c : Nat} (h : n = m) : Ending.returned (.slice A n c) = .returned (.slice A m c) := by rw [h]

def inR (x lo hi : Int) : Bool := decide (lo ≤ x) && decide (x ≤ hi)
theorem within_c (x lo hi : Int) (w : World) : Calls Try.prog 52 #[.int .i64 x, .int .i64 lo, .int .i64 hi] w fun e w' => e = .returned (.bool (inR x lo hi)) ∧ w = w' := by
  by_cases h1 : lo ≤ x
  · have d1 : decide (lo ≤ x) = true := by simpa using h1
    by_cases h2 : x ≤ hi
    · have d2 : decide (x ≤ hi) = true := by simpa using h2
      have HR : Hid (inR x lo hi = true) := by unfold inR; rw [d1, d2]; exact rfl
      go_enter Try.func52, Try.ntmps52
      go_wp2
      go_ret
      exact ⟨rt_bool HR.out.symm, rfl⟩
    · have d2 : decide (x ≤ hi) = false := by simpa using h2
      have HR : Hid (inR x lo hi = false) := by unfold inR; rw [d1, d2]; exact rfl
      go_enter Try.func52, Try.ntmps52
      go_wp2
      go_ret
      exact ⟨rt_bool HR.out.symm, rfl⟩
  · have d1 : decide (lo ≤ x) = false := by simpa using h1
    have HR : Hid (inR x lo hi = false) := by unfold inR; rw [d1]; exact rfl
    go_enter Try.func52, Try.ntmps52
    go_wp2
    go_ret
    exact ⟨rt_bool HR.out.symm, rfl⟩

/-- The parts' array. -/
def Pt (w : World) (b : Nat) (ups : List Nat) : Prop := w.heap[b]? = some (.cells (nv ups).toArray 102 (0, 0)) ∧ ups.length = 16
theorem Pt.lt {w : World} {b : Nat} {ups : List Nat} (h : Pt w b ups) : b < w.heap.size := by
  rcases Nat.lt_or_ge b w.heap.size with hlt | hge
  · exact hlt
  · have := h.1; rw [Array.getElem?_eq_none hge] at this; cases this
theorem Pt.cell {w : World} {b : Nat} {ups : List Nat} (h : Pt w b ups) {i : Nat} (hi : i < 16) : w.cell? ⟨b, i, none⟩ = some (.int .i64 ((nat_ ups i : Nat) : Int)) := by
  rw [cell_of_row w b i _ 102 (0, 0) h.1, List.getElem?_toArray]
  exact nv_get ups i (by rw [h.2]; exact hi)
theorem Pt.frozen {w : World} {b : Nat} {ups : List Nat} (h : Pt w b ups) (i : Nat) : w.frozen? ⟨b, i, none⟩ = false := by simp [World.frozen?, h.1]
theorem Pt.below {w w' : World} {b : Nat} {ups : List Nat} (h : Pt w b ups) (hb : Below w.heap.size w w') : Pt w' b ups := ⟨(hb.block b h.lt).trans h.1, h.2⟩
theorem Pt.set_ {w : World} {b : Nat} {ups : List Nat} (h : Pt w b ups) (i x : Nat) : Pt (w.setCell ⟨b, i, none⟩ (.int .i64 (x : Int))) b (ups.set i x) := by
  refine ⟨?_, by rw [List.length_set]; exact h.2⟩
  have := heap_setCell_same w b i _ 102 (.int .i64 (x : Int)) h.1
  rw [this, ← nv_set]
  simp
theorem grown_set (w : World) (b i : Nat) (v : Value) : w.grownBy (w.setCell ⟨b, i, none⟩ v) (some b) :=
  ⟨rfl, rfl, rfl, by simp [World.setCell], fun k _ hk => heap_setCell_other w ⟨b, i, none⟩ k v (fun e => hk (by simp [e]))⟩

set_option maxHeartbeats 400000 in
theorem of_c (b : Nat) (ups : List Nat) (v : Nat) (w : World) (hp : Pt w b ups) (hw : WfU ups) (hv : v < 16) :
    Calls Try.prog 55 #[.pointer (some ⟨b, 0, none⟩), .int .i64 (v : Int)] w fun e w' => e = .returned (.int .i64 ((rootU ups v : Nat) : Int)) ∧ w = w' := by
  go_enter Try.func55, Try.ntmps55
  go_wp2
  go_loop [1] (fun s => ∃ x : Nat, x < 16 ∧ s = .int .i64 ((x : Nat) : Int) ∧ rootU ups x = rootU ups v) (fun s => (intOf s).toNat)
  case atStart => exact ⟨v, hv, rfl, rfl⟩
  case round =>
    obtain ⟨x, hx, rfl, hr⟩ := hrel
    have h1 := hp.cell hx
    have hle := hw.2 x hx
    by_cases hlt : nat_ ups x < x
    · have HR := Lib.hid (rootU_step hlt)
      have HQ := Lib.hid hr
      clear hr
      generalize nat_ ups x = y at *
      have hd : ((y : Int) != (x : Int)) = true := by simp; omega
      go_wp2
      exact ⟨⟨y, by omega, rfl, by rw [← HR.out, HQ.out]⟩, by simp [intOf]; omega⟩
    · have HR := Lib.hid (rootU_stop hlt)
      have HQ := Lib.hid hr
      clear hr
      have hd : (((nat_ ups x : Nat) : Int) != (x : Int)) = false := by simp; omega
      go_wp2
      go_ret
      exact ⟨rt_int (by rw [← HQ.out, HR.out]), rfl⟩

set_option maxHeartbeats 400000 in
theorem join_c (b : Nat) (ups : List Nat) (u v : Nat) (w : World) (hp : Pt w b ups) (hw : WfU ups) (hu : u < 16) (hv : v < 16) :
    Calls Try.prog 56 #[.pointer (some ⟨b, 0, none⟩), .int .i64 (u : Int), .int .i64 (v : Int)] w fun e w' => e = .returned (.bool (rootU ups u != rootU ups v)) ∧
      Pt w' b (ups.set (max (rootU ups u) (rootU ups v)) (min (rootU ups u) (rootU ups v))) ∧ w.grownBy w' (some b) ∧ w'.heap.size = w.heap.size := by
  have h1 := rootU_le ups u
  have h2 := rootU_le ups v
  go_enter Try.func56, Try.ntmps56
  go_wp2_with fail
  refine (of_c b ups u w hp hw hu).mono ?_
  rintro e w1 ⟨rfl, rfl⟩
  go_wp2_with fail
  refine (of_c b ups v w hp hw hv).mono ?_
  rintro e w1 ⟨rfl, rfl⟩
  generalize hx : rootU ups u = x at *
  generalize hy : rootU ups v = y at *
  have HX := Lib.hid hx
  have HY := Lib.hid hy
  clear hx hy
  rcases Nat.lt_trichotomy x y with hxy | hxy | hxy
  · have hM : max x y = y := by omega
    have hm : min x y = x := by omega
    have hcm := hp.cell (i := y) (by omega)
    have hf : w.frozen? ⟨b, y, none⟩ = false := hp.frozen _
    have HS := Lib.hid (hp.set_ y x)
    have HG := Lib.hid (grown_set w b y (.int .i64 ((x : Nat) : Int)))
    have hd : ((x : Int) != (y : Int)) = true := by simp; try omega
    have HD := Lib.hid (show (x != y) = true by simp; try omega)
    have HM := Lib.hid hM
    have Hm := Lib.hid hm
    clear hM hm
    go_wp2
    go_ret
    rw [HX.out, HY.out, HM.out, Hm.out, HD.out]
    exact ⟨rfl, HS.out, HG.out, by simp [World.setCell]⟩
  · subst hxy
    have hM : max x x = x := by omega
    have hm : min x x = x := by omega
    have hcm := hp.cell (i := x) (by omega)
    have hf : w.frozen? ⟨b, x, none⟩ = false := hp.frozen _
    have HS := Lib.hid (hp.set_ x x)
    have HG := Lib.hid (grown_set w b x (.int .i64 ((x : Nat) : Int)))
    have hd : ((x : Int) != (x : Int)) = false := by simp; try omega
    have HD := Lib.hid (show (x != x) = false by simp; try omega)
    have HM := Lib.hid hM
    have Hm := Lib.hid hm
    clear hM hm
    go_wp2
    go_ret
    rw [HX.out, HY.out, HM.out, Hm.out, HD.out]
    exact ⟨rfl, HS.out, HG.out, by simp [World.setCell]⟩
  · have hM : max x y = x := by omega
    have hm : min x y = y := by omega
    have hcm := hp.cell (i := x) (by omega)
    have hf : w.frozen? ⟨b, x, none⟩ = false := hp.frozen _
    have HS := Lib.hid (hp.set_ x y)
    have HG := Lib.hid (grown_set w b x (.int .i64 ((y : Nat) : Int)))
    have hd : ((x : Int) != (y : Int)) = true := by simp; try omega
    have HD := Lib.hid (show (x != y) = true by simp; try omega)
    have HM := Lib.hid hM
    have Hm := Lib.hid hm
    clear hM hm
    go_wp2
    go_ret
    rw [HX.out, HY.out, HM.out, Hm.out, HD.out]
    exact ⟨rfl, HS.out, HG.out, by simp [World.setCell]⟩

/-- A new array of parts: each vertex alone. -/
theorem apart_c (w : World) : Calls Try.prog 53 #[] w fun e w' => e = .returned (.pointer (some ⟨w.heap.size, 0, none⟩)) ∧ Pt w' w.heap.size (List.range 16) ∧ Below w.heap.size w w' := by
  go_enter Try.func53, Try.ntmps53
  go_wp2
  go_loopw [5] (fun i wr => ∃ k : Nat, k ≤ 16 ∧ i = .int .i64 ((k : Nat) : Int) ∧ Pt wr w.heap.size (List.range k ++ List.replicate (16 - k) 0) ∧ Below w.heap.size w wr) (fun i _ => 16 - (intOf i).toNat)
  case atStart => exact ⟨0, Nat.zero_le _, rfl, ⟨by rw [heap_alloc_new]; rfl, by simp⟩, (Below.refl _ _).alloc (Nat.le_refl _) _⟩
  case round =>
    obtain ⟨k, hk, rfl, hp, hb⟩ := hrel
    by_cases hlt : k < 16
    · have h1 := hp.cell hlt
      have h2 := hp.frozen k
      have HS := Lib.hid (hp.set_ k k)
      have HG := Lib.hid (grown_set wr w.heap.size k (.int .i64 (k : Int)))
      have hz := hb.size
      have hd : ((k : Int) < 16) := by omega
      go_wp2
      refine ⟨⟨k + 1, by omega, by go_num, ?_, hb.trans (below_of_grown HG.out hz (Nat.le_refl _))⟩, by simp [intOf]; omega⟩
      have e : (List.range k ++ List.replicate (16 - k) 0).set k k = List.range (k + 1) ++ List.replicate (16 - (k + 1)) 0 := by
        rw [show 16 - k = (16 - (k + 1)) + 1 by omega, List.replicate_succ, List.set_append_right _ _ (by simp), List.length_range, Nat.sub_self, List.set_cons_zero, List.range_succ]
        simp
      rw [← e]; exact HS.out
    · obtain rfl : k = 16 := by omega
      go_wp2
      go_ret
      exact ⟨rfl, by simpa using hp, hb⟩

end Go.Proofs.Ytpfbichomgojoaa
