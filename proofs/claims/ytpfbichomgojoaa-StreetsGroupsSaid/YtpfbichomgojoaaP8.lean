/- Walks: newNet, Tree. -/
import Derived.Test.YtpfbichomgojoaaP7
import Derived.Laws.Rows
namespace Go.Proofs.Ytpfbichomgojoaa
open Go.RowKit

/-- The program's test of a net. -/
def netB (n : Int) (ss : List St) : Bool := (inR n 1 16 && decide ((ss.length : Int) ≤ 60)) && !ss.any (badS n)

theorem one_cell (w : World) (x : Value) (ty : TypeId) : (w.alloc (.cells #[x] ty)).cell? ⟨w.heap.size, 0, none⟩ = some x := by rw [World.cell?_alloc_at _ _ _ _ rfl]; rfl

theorem results_cell_tmp {P : Program} {fn : Func} {p t : Tmp} {ty : TypeId} (h : fn.results = #[.cell p ty, .tmp t]) (tmps : Array Value) (w : World) (g : Nat) (ty' : TypeId) (cs : Array Value) (fr : Nat × Nat) (d : TypeDesc)
    (hp : tmps.getD p undef = .pointer (some ⟨g, 0, none⟩)) (hg : w.heap[g]? = some (.cells cs ty' fr))
    (hu : P.underlying ty = some d) (hd : (match d with | .struct _ | .array _ _ => true | _ => false) = true) (hi : (P.info? ty).map (·.size) = some cs.size) :
    (results fn tmps).run P w = .ok (.tuple #[.agg cs, tmps.getD t undef]) w := by
  have hp' : tmps[p]?.getD undef = .pointer (some ⟨g, 0, none⟩) := by simpa using hp
  simp [results, h, hp', asAddr, run_loadVar_row w g ty' ty cs fr d hg hu hd hi]

theorem box_set (W : World) (g : Nat) (x y u v : Value) (hg : W.heap[g]? = some (.cells #[x, y] 66 (0, 0))) : ((W.setCell ⟨g, 0, none⟩ u).setCell ⟨g, 1, none⟩ v).heap[g]? = some (.cells #[u, v] 66 (0, 0)) := by
  have h1 := heap_setCell_same W g 0 _ 66 u hg
  have h2 := heap_setCell_same _ g 1 _ 66 v h1
  exact h2

set_option maxHeartbeats 1000000 in
theorem newNet_c (n : Int) (A : Option Addr) (m c : Nat) (ss : List St) (w : World) (hs : RdS w A m ss) :
    Calls Try.prog 39 #[.int .i64 n, .slice A m c] w fun e w' => e = .returned (.tuple #[.agg #[.int .i64 n, .slice A m c], .bool (netB n ss)]) ∧ Below w.heap.size w w' := by
  have hmf : ∀ (fn : Fn) (first cap : Array Value) (w : World), (Instr.makeFunc fn first cap).run Try.prog w = .ok (.func fn first cap) w := fun _ _ _ _ => rfl
  have hb0 := below_one' w (.cells #[.int .i64 n] 3)
  have hc0 := one_cell w (.int .i64 n) 3
  have hz0 : (w.alloc (.cells #[.int .i64 n] 3)).heap.size = w.heap.size + 1 := by simp
  have hsl := hs.1
  go_enter Try.func39, Try.ntmps39
  have hb1 := below_one' (w.alloc (.cells #[.int .i64 n] 3)) (.cells #[.int .i64 0, .slice none 0 0] 66)
  have hg1 := heap_alloc_new (w.alloc (.cells #[.int .i64 n] 3)) (.cells #[.int .i64 0, .slice none 0 0] 66)
  rw [hz0] at hg1
  have hs1 := (hs.below hb0).below hb1
  have hc1 := Below.keeps hb1 _ _ hc0
  have hb01 := hb0.trans (hb1.mono hb0.size)
  have hw01 : w.heap.size + 1 < ((w.alloc (.cells #[.int .i64 n] 3)).alloc (.cells #[.int .i64 0, .slice none 0 0] 66)).heap.size := by simp
  go_wp2_with fail
  refine (within_c _ _ _ _).mono ?_
  rintro e w1 ⟨rfl, rfl⟩
  generalize (w.alloc (.cells #[.int .i64 n] 3)).alloc (.cells #[.int .i64 0, .slice none 0 0] 66) = w1 at *
  clear hb1
  obtain ⟨hr1, hr2, hr3⟩ : w1.cell? ⟨w.heap.size + 1, 0, none⟩ = some (.int .i64 0) ∧ w1.cell? ⟨w.heap.size + 1, 1, none⟩ = some (.slice none 0 0) ∧ ∀ i, w1.frozen? ⟨w.heap.size + 1, i, none⟩ = false :=
    ⟨by simp [World.cell?, hg1], by simp [World.cell?, hg1], fun i => by simp [World.frozen?, hg1]⟩
  have hr3a := hr3 0
  have hr3b := hr3 1
  clear hr3
  by_cases hin : inR n 1 16 = true
  · have hin' := hin
    unfold inR at hin'
    rw [Bool.and_eq_true, decide_eq_true_iff, decide_eq_true_iff] at hin'
    by_cases hml : (m : Int) ≤ 60
    · have hd : decide ((m : Int) ≤ 60) = true := by simpa using hml
      have HB := Lib.hid (show netB n ss = !ss.any (badS n) by unfold netB; rw [hin, hsl, hd]; rfl)
      rw [hin]
      clear hin
      go_wp2_with fail
      refine (ContainsFuncS_c w.heap.size n A m c ss w1 hs1 hc1 (by omega) (by omega) (by omega)).mono ?_
      rintro e w2 ⟨rfl, hb2⟩
      have hg2 := (hb2.block _ hw01).trans hg1
      have hb02 := hb01.trans (hb2.mono hb01.size)
      obtain ⟨hr1, hr2, hr3⟩ : w2.cell? ⟨w.heap.size + 1, 0, none⟩ = some (.int .i64 0) ∧ w2.cell? ⟨w.heap.size + 1, 1, none⟩ = some (.slice none 0 0) ∧ ∀ i, w2.frozen? ⟨w.heap.size + 1, i, none⟩ = false :=
        ⟨by simp [World.cell?, hg2], by simp [World.cell?, hg2], fun i => by simp [World.frozen?, hg2]⟩
      have hr3a := hr3 0
      have hr3b := hr3 1
      have hc2 := Below.keeps hb2 _ _ hc1
      clear hr3
      generalize ss.any (badS n) = bb at *
      go_wp2
      refine bodyPost_ret (results_cell_tmp rfl _ _ (w.heap.size + 1) 66 #[.int .i64 n, .slice A m c] (0, 0) _ rfl (box_set w2 _ _ _ _ _ hg2) Try.underlying66 rfl (by kernel_rfl)) rfl ⟨?_, ?_⟩
      · exact rt_two rfl (congrArg Value.bool (show (!bb) = netB n ss by exact HB.out.symm))
      · have hbW : Below w.heap.size w w2 := by first | exact hb01 | exact hb02
        exact (hbW.trans (below_of_grown (grown_set _ _ _ _) hbW.size (Nat.le_succ _))).trans (below_of_grown (grown_set _ _ _ _) (by simp only [World.setCell, Array.size_modify]; exact hbW.size) (Nat.le_succ _))
    · have hd : decide ((m : Int) ≤ 60) = false := by simpa using hml
      have HB := Lib.hid (show netB n ss = false by unfold netB; rw [hin, hsl, hd]; rfl)
      rw [hin]
      go_wp2
      refine bodyPost_ret (results_cell_tmp rfl _ _ (w.heap.size + 1) 66 #[.int .i64 n, .slice A m c] (0, 0) _ rfl (box_set w1 _ _ _ _ _ hg1) Try.underlying66 rfl (by kernel_rfl)) rfl ⟨?_, ?_⟩
      · exact rt_two rfl (congrArg Value.bool (show false = netB n ss by exact HB.out.symm))
      · have hbW : Below w.heap.size w w1 := by first | exact hb01 | exact hb02
        exact (hbW.trans (below_of_grown (grown_set _ _ _ _) hbW.size (Nat.le_succ _))).trans (below_of_grown (grown_set _ _ _ _) (by simp only [World.setCell, Array.size_modify]; exact hbW.size) (Nat.le_succ _))
  · rw [Bool.not_eq_true] at hin
    have HB := Lib.hid (show netB n ss = false by unfold netB; rw [hin]; rfl)
    rw [hin]
    clear hin
    go_wp2
    refine bodyPost_ret (results_cell_tmp rfl _ _ (w.heap.size + 1) 66 #[.int .i64 n, .slice A m c] (0, 0) _ rfl (box_set w1 _ _ _ _ _ hg1) Try.underlying66 rfl (by kernel_rfl)) rfl ⟨?_, ?_⟩
    · exact rt_two rfl (congrArg Value.bool (show false = netB n ss by exact HB.out.symm))
    · have hbW : Below w.heap.size w w1 := by first | exact hb01 | exact hb02
      exact (hbW.trans (below_of_grown (grown_set _ _ _ _) hbW.size (Nat.le_succ _))).trans (below_of_grown (grown_set _ _ _ _) (by simp only [World.setCell, Array.size_modify]; exact hbW.size) (Nat.le_succ _))


/-- A net out of what the program takes for one. -/
def edOf (s : St) : Ed := ⟨s.a.toNat, s.b.toNat, s.w.toNat⟩
theorem inR_iff (x lo hi : Int) : inR x lo hi = true ↔ lo ≤ x ∧ x ≤ hi := by unfold inR; simp
theorem badS_no {n : Int} {s : St} (h : badS n s = false) : 0 ≤ s.a ∧ s.a < n ∧ 0 ≤ s.b ∧ s.b < n ∧ s.a ≠ s.b ∧ 0 ≤ s.w ∧ s.w ≤ 1000 := by
  unfold badS at h
  simp only [Bool.or_eq_false_iff, Bool.not_eq_false', inR_iff, beq_eq_false_iff_ne] at h
  obtain ⟨⟨⟨h1, h2⟩, h3⟩, h4⟩ := h
  exact ⟨h1.1, by omega, h2.1, by omega, h3, h4.1, h4.2⟩
theorem net_of {n : Int} {ss : List St} (h : netB n ss = true) : ∃ (n' : Nat) (es : List Ed), n = (n' : Int) ∧ ss = es.map Ed.st ∧ Net n' es := by
  unfold netB at h
  simp only [Bool.and_eq_true, inR_iff, decide_eq_true_iff, Bool.not_eq_true'] at h
  obtain ⟨⟨⟨h1, h2⟩, h3⟩, h4⟩ := h
  have hall : ∀ s ∈ ss, badS n s = false := fun s hs => by
    rw [← Bool.not_eq_true]; intro hb
    have : ss.any (badS n) = true := List.any_eq_true.2 ⟨s, hs, hb⟩
    rw [h4] at this; cases this
  have hst : ∀ s ∈ ss, (edOf s).st = s := fun s hs => by
    obtain ⟨a1, a2, a3, a4, a5, a6, a7⟩ := badS_no (hall s hs)
    unfold edOf Ed.st
    obtain ⟨a, b, w⟩ := s
    simp only [St.mk.injEq] at *
    omega
  refine ⟨n.toNat, ss.map edOf, by omega, ?_, ⟨by omega, by omega, by rw [List.length_map]; omega, ?_⟩⟩
  · rw [List.map_map]
    conv => lhs; rw [← List.map_id ss]
    exact List.map_congr_left (fun s hs => (hst s hs).symm)
  · intro e he
    obtain ⟨s, hs, rfl⟩ := List.mem_map.1 he
    obtain ⟨a1, a2, a3, a4, a5, a6, a7⟩ := badS_no (hall s hs)
    unfold edOf
    simp only
    omega
theorem net_yes {n : Nat} {es : List Ed} (h : Net n es) : netB (n : Int) (es.map Ed.st) = true := by
  unfold netB
  have h1 := h.n1; have h2 := h.n16; have h3 := h.len
  simp only [Bool.and_eq_true, inR_iff, decide_eq_true_iff, Bool.not_eq_true', List.length_map]
  refine ⟨⟨⟨by omega, by omega⟩, by omega⟩, ?_⟩
  rw [← Bool.not_eq_true, List.any_eq_true]
  rintro ⟨s, hs, hb⟩
  obtain ⟨e, he, rfl⟩ := List.mem_map.1 hs
  obtain ⟨a1, a2, a3, a4⟩ := h.ends e he
  have : badS (n : Int) e.st = false := by
    unfold badS Ed.st
    simp only [Bool.or_eq_false_iff, Bool.not_eq_false', inR_iff, beq_eq_false_iff_ne]
    refine ⟨⟨⟨⟨by omega, by omega⟩, by omega, by omega⟩, by omega⟩, by omega, by omega⟩
  rw [this] at hb; cases hb

/-- A row of numbers, sorted. -/
def srtN (xs : List Nat) : List Nat := xs.mergeSort (fun x y => decide (x ≤ y))
theorem srtN_length (xs : List Nat) : (srtN xs).length = xs.length := List.length_mergeSort _
theorem srtN_perm (xs : List Nat) : (srtN xs).Perm xs := List.mergeSort_perm _ _

end Go.Proofs.Ytpfbichomgojoaa
