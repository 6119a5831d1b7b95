/- Walk: power. -/
import Derived.Test.YtpfbichomgojoaaP15
import Derived.Test.YtpfbichomgojoaaQM
namespace Go.Proofs.Ytpfbichomgojoaa
open Go.RowKit

theorem mulmod (x y p : Nat) (hx : x ≤ 2147483647) (hy : y ≤ 2147483647) : (wrap64 ((x : Int) * (y : Int))).tmod (p : Int) = ((x * y % p : Nat) : Int) := by
  have h : x * y ≤ 2147483647 * 2147483647 := Nat.mul_le_mul hx hy
  have e : ((x : Int) * (y : Int)) = ((x * y : Nat) : Int) := by simp
  have h2 : wrap64 ((x : Int) * (y : Int)) = ((x * y : Nat) : Int) := by rw [e]; unfold wrap64; omega
  rw [h2]; rfl

set_option maxHeartbeats 1000000 in
theorem power_c (a k p : Nat) (w : World) (ha : a ≤ 2147483647) (hk : k ≤ 2147483647) (hp1 : 1 < p) (hp : p ≤ 2147483647) :
    Calls Try.prog 45 #[.int .i64 (a : Int), .int .i64 (k : Int), .int .i64 (p : Int)] w fun e w' => e = .returned (.int .i64 ((powP a k p : Nat) : Int)) ∧ w = w' := by
  have HP := Lib.hid (show powP a k p = powM p k a 1 from rfl)
  go_enter Try.func45, Try.ntmps45
  go_wp2
  go_loop [0, 1, 7] (fun x y o => ∃ a' k' o' : Nat, x = .int .i64 (a' : Int) ∧ y = .int .i64 (k' : Int) ∧ o = .int .i64 (o' : Int) ∧ a' ≤ 2147483647 ∧ k' ≤ 2147483647 ∧ o' < p ∧ powM p k' a' o' = powP a k p) (fun _ y _ => (intOf y).toNat)
  case atStart => exact ⟨a, k, 1, rfl, rfl, rfl, ha, hk, hp1, rfl⟩
  case round =>
    obtain ⟨a', k', o', rfl, rfl, rfl, ha', hk', ho', hpw⟩ := hrel
    have HW := Lib.hid hpw
    clear hpw
    by_cases h0 : k' = 0
    · subst h0
      have HW2 : Hid (o' = powP a k p) := by rw [← HW.out, powM_zero]; exact rfl
      go_wp2
      go_ret
      exact ⟨rt_int (by rw [HW2.out]), rfl⟩
    · have hd0 : ((0 : Int) < (k' : Int)) := by omega
      have HS := Lib.hid (powM_pos h0 p a' o')
      have hpz : (p : Int) ≠ 0 := by omega
      have hm1 := mulmod o' a' p (by omega) ha'
      have hm2 := mulmod a' a' p ha' ha'
      have hl1 : a' * a' % p < p := Nat.mod_lt _ (by omega)
      have hl2 : o' * a' % p < p := Nat.mod_lt _ (by omega)
      by_cases h1 : k' % 2 = 1
      · have hd1 : (((k' % 2 : Nat) : Int) == 1) = true := by simp; omega
        rw [if_pos h1] at HS
        clear h1
        go_wp2
        exact ⟨⟨a' * a' % p, k' / 2, o' * a' % p, by simp, by go_num, by simp, by omega, by omega, hl2, by rw [← HS.out]; exact HW.out⟩, by simp [intOf]; omega⟩
      · have hd1 : (((k' % 2 : Nat) : Int) == 1) = false := by simp; omega
        rw [if_neg h1] at HS
        clear h1
        go_wp2
        exact ⟨⟨a' * a' % p, k' / 2, o', by simp, by go_num, rfl, by omega, by omega, ho', by rw [← HS.out]; exact HW.out⟩, by simp [intOf]; omega⟩
set_option maxHeartbeats 1000000 in
theorem Rpower_c (a k p : Nat) (w : World) (ha : a ≤ 2147483647) (hk : k ≤ 2147483647) (hp1 : 1 < p) (hp : p ≤ 2147483647) :
    Calls Try.prog 67 #[.int .i64 (a : Int), .int .i64 (k : Int), .int .i64 (p : Int)] w fun e w' => e = .returned (.int .i64 ((powP a k p : Nat) : Int)) ∧ w = w' := by
  have HP := Lib.hid (show powP a k p = powM p k a 1 from rfl)
  go_enter Try.func67, Try.ntmps67
  go_wp2
  go_loop [0, 1, 7] (fun x y o => ∃ a' k' o' : Nat, x = .int .i64 (a' : Int) ∧ y = .int .i64 (k' : Int) ∧ o = .int .i64 (o' : Int) ∧ a' ≤ 2147483647 ∧ k' ≤ 2147483647 ∧ o' < p ∧ powM p k' a' o' = powP a k p) (fun _ y _ => (intOf y).toNat)
  case atStart => exact ⟨a, k, 1, rfl, rfl, rfl, ha, hk, hp1, rfl⟩
  case round =>
    obtain ⟨a', k', o', rfl, rfl, rfl, ha', hk', ho', hpw⟩ := hrel
    have HW := Lib.hid hpw
    clear hpw
    by_cases h0 : k' = 0
    · subst h0
      have HW2 : Hid (o' = powP a k p) := by rw [← HW.out, powM_zero]; exact rfl
      go_wp2
      go_ret
      exact ⟨rt_int (by rw [HW2.out]), rfl⟩
    · have hd0 : ((0 : Int) < (k' : Int)) := by omega
      have HS := Lib.hid (powM_pos h0 p a' o')
      have hpz : (p : Int) ≠ 0 := by omega
      have hm1 := mulmod o' a' p (by omega) ha'
      have hm2 := mulmod a' a' p ha' ha'
      have hl1 : a' * a' % p < p := Nat.mod_lt _ (by omega)
      have hl2 : o' * a' % p < p := Nat.mod_lt _ (by omega)
      by_cases h1 : k' % 2 = 1
      · have hd1 : (((k' % 2 : Nat) : Int) == 1) = true := by simp; omega
        rw [if_pos h1] at HS
        clear h1
        go_wp2
        exact ⟨⟨a' * a' % p, k' / 2, o' * a' % p, by simp, by go_num, by simp, by omega, by omega, hl2, by rw [← HS.out]; exact HW.out⟩, by simp [intOf]; omega⟩
      · have hd1 : (((k' % 2 : Nat) : Int) == 1) = false := by simp; omega
        rw [if_neg h1] at HS
        clear h1
        go_wp2
        exact ⟨⟨a' * a' % p, k' / 2, o', by simp, by go_num, rfl, by omega, by omega, ho', by rw [← HS.out]; exact HW.out⟩, by simp [intOf]; omega⟩

end Go.Proofs.Ytpfbichomgojoaa
