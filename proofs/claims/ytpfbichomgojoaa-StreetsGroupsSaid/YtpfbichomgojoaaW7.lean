/- Walk: the reference's Net. -/
import Derived.Test.YtpfbichomgojoaaW6
import Derived.Test.YtpfbichomgojoaaP8
namespace Go.Proofs.Ytpfbichomgojoaa
open Go.RowKit

/-- The reference's test of a street. -/
def badR (n : Int) (s : St) : Bool := decide (s.a < 0) || decide (n ≤ s.a) || decide (s.b < 0) || decide (n ≤ s.b) || decide (s.a = s.b) || decide (s.w < 0) || decide (1000 < s.w)
def netR (n : Int) (ss : List St) : Bool := !ss.any (badR n) && decide (1 ≤ n) && decide (n ≤ 16) && decide ((ss.length : Int) ≤ 60)
theorem badR_eq (n : Int) (s : St) : badR n s = badS n s := by
  rw [Bool.eq_iff_iff]
  unfold badR badS inR
  simp only [Bool.or_eq_true, decide_eq_true_eq, Bool.not_eq_true', Bool.and_eq_false_iff, decide_eq_false_iff_not, beq_iff_eq]
  omega
theorem netR_eq (n : Int) (ss : List St) : netR n ss = netB n ss := by
  have : badR n = badS n := by funext s; exact badR_eq n s
  unfold netR netB inR
  rw [this]
  cases ss.any (badS n) <;> simp [Bool.and_comm, Bool.and_assoc, Bool.and_left_comm]
theorem any_of_st {n : Int} {ss : List St} {k : Nat} (hk : k < ss.length) (h : badR n (st_ ss k) = true) : ss.any (badR n) = true := by
  rw [List.any_eq_true]
  rw [st_get hk] at h
  exact ⟨_, List.getElem_mem hk, h⟩
theorem any_no_st {n : Int} {ss : List St} (h : ∀ j, j < ss.length → badR n (st_ ss j) = false) : ss.any (badR n) = false := by
  rw [List.any_eq_false]
  intro s hs
  obtain ⟨i, hi, rfl⟩ := List.mem_iff_getElem.1 hs
  have := h i hi
  rw [st_get hi] at this
  rw [this]; simp

set_option maxHeartbeats 2000000 in
set_option maxRecDepth 100000 in
theorem RNet_c (n : Int) (A : Option Addr) (m c : Nat) (ss : List St) (w : World) (hs : RdS w A m ss) (hm : m ≤ 1000) :
    Calls Try.prog 17 #[.int .i64 n, .slice A m c] w fun e w' => e = .returned (.bool (netR n ss)) ∧ Below w.heap.size w w' := by
  have hml := Lib.hid hs.1
  go_enter Try.func17, Try.ntmps17
  go_wp2
  go_loopw [5] (fun i wr => ∃ k : Nat, k ≤ m ∧ i = .int .i64 ((k : Nat) : Int) ∧ (∀ j, j < k → badR n (st_ ss j) = false) ∧ Below w.heap.size w wr) (fun i _ => m - (intOf i).toNat)
  case atStart => exact ⟨0, Nat.zero_le _, rfl, fun j hj => by omega, Below.refl _ _⟩
  case round =>
    obtain ⟨k, hk, rfl, hno, hb⟩ := hrel
    have HNO := Lib.hid hno
    clear hno
    by_cases hkm : k < m
    · obtain ⟨b1, o1, rfl, _, h1, h2, h3⟩ := (hs.below hb).at_ hkm
      have hbA := below_one' wr (.cells #[.int .i64 (st_ ss k).a, .int .i64 (st_ ss k).b, .int .i64 (st_ ss k).w] 42)
      obtain ⟨g1, g2, g3⟩ := three_cells wr (.int .i64 (st_ ss k).a) (.int .i64 (st_ ss k).b) (.int .i64 (st_ ss k).w) 42
      have HST := Lib.hid (show badR n (st_ ss k) = (decide ((st_ ss k).a < 0) || decide (n ≤ (st_ ss k).a) || decide ((st_ ss k).b < 0) || decide (n ≤ (st_ ss k).b) || decide ((st_ ss k).a = (st_ ss k).b) || decide ((st_ ss k).w < 0) || decide (1000 < (st_ ss k).w)) from rfl)
      have HAny := Lib.hid (fun h => any_of_st (n := n) (ss := ss) (k := k) (by have := hml.out; omega) h)
      generalize (st_ ss k).a = a at *
      generalize (st_ ss k).b = b at *
      generalize (st_ ss k).w = x at *
      have hbe : ∀ o, Below w.heap.size w (wr.alloc o) := fun o => hb.trans ((below_one' wr o).mono hb.size)
      go_wp2
      all_goals first
        | (have hbd : badR n (st_ ss k) = true := by
             rw [HST.out]; simp only [Bool.or_eq_true, decide_eq_true_eq]; first | done | omega | (rename_i hh; rcases hh with (((((hh | hh) | hh) | hh) | hh) | hh) | hh <;> (try rw [beq_iff_eq] at hh) <;> omega)
           have HNo : Hid (netR n ss = false) := by
             unfold netR
             rw [HAny.out hbd]
             exact rfl
           go_ret
           rw [HNo.out]
           exact ⟨rfl, hbe _⟩)
        | (have hbd : badR n (st_ ss k) = false := by
             rw [HST.out]; simp only [Bool.or_eq_false_iff, decide_eq_false_iff_not]; omega
           refine ⟨⟨k + 1, by omega, by go_num, fun j hj => ?_, hbe _⟩, by simp [intOf]; omega⟩
           by_cases e : j = k
           · subst e; exact hbd
           · exact HNO.out j (by omega))
    · have HN : Hid (netR n ss = (decide (1 ≤ n) && decide (n ≤ 16) && decide ((m : Int) ≤ 60))) := by
        have hml := hml.out
        unfold netR
        rw [any_no_st (fun j hj => HNO.out j (by omega)), hml]; simp; exact trivial
      have hmn : ∀ b : Bool, b = (decide (1 ≤ n) && decide (n ≤ 16) && decide ((m : Int) ≤ 60)) → b = netR n ss := fun b h => by rw [HN.out]; exact h
      have HB := Lib.hid hmn
      clear hmn
      go_wp2
      all_goals
        go_ret
        refine ⟨?_, hb⟩
        refine congrArg (fun b => Ending.returned (Value.bool b)) (HB.out _ ?_)
        rw [Bool.eq_iff_iff]
        simp only [Bool.and_eq_true, decide_eq_true_eq, Bool.false_eq_true, false_iff]
        omega

end Go.Proofs.Ytpfbichomgojoaa
