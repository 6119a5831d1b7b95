/- Walk: Count. -/
import Derived.Test.YtpfbichomgojoaaP20
namespace Go.Proofs.Ytpfbichomgojoaa
open Go.RowKit

set_option maxHeartbeats 1000000 in
theorem Count_bad (n : Int) (A : Option Addr) (m c : Nat) (ss : List St) (w : World) (hs : RdS w A m ss) (hb : netB n ss = false) :
    Calls Try.prog 16 #[.int .i64 n, .slice A m c] w fun e w' => e = .returned (.tuple #[.int .i64 0, .int .i64 2]) ∧ Below w.heap.size w w' := by
  have HN := Lib.hid (newNet_c n A m c ss w hs)
  rw [hb] at HN
  go_enter Try.func16, Try.ntmps16
  go_wp2_with fail
  refine HN.out.mono ?_
  rintro e w1 ⟨rfl, hb1⟩
  go_wp2
  go_ret2
  exact ⟨rfl, hb1.trans ((below_one' w1 _).mono hb1.size)⟩

set_option maxHeartbeats 1000000 in
theorem Count_none (n : Nat) (A : Option Addr) (m c : Nat) (es : List Ed) (w : World) (he : RdE w A m es) (hnet : Net n es) (hb : okP n es = false) :
    Calls Try.prog 16 #[.int .i64 (n : Int), .slice A m c] w fun e w' => e = .returned (.tuple #[.int .i64 0, .int .i64 0]) ∧ Below w.heap.size w w' := by
  have HT0 : ∀ W, RdE W A m es → Calls Try.prog 40 #[netV n A m c] W fun e w' => ∃ A' c', e = .returned (.tuple #[.slice A' (treeP n es).length c', .bool (okP n es)]) ∧ OwnN w' W.heap.size A' (treeP n es).length c' (treeP n es) ∧ Below W.heap.size W w' := fun W h => tree_c n A m c es W h hnet.inN
  rw [hb] at HT0
  have HT := Lib.hid HT0
  clear HT0
  have HN := Lib.hid (newNet_c n A m c _ w he)
  rw [net_yes hnet] at HN
  unfold netV at HT
  go_enter Try.func16, Try.ntmps16
  go_wp2_with fail
  refine HN.out.mono ?_
  rintro e w1 ⟨rfl, hb1⟩
  have hbA := below_one' w1 (.cells #[.int .i64 (n : Int), .slice A m c] 66)
  obtain ⟨hc0, hc1⟩ := two_cells w1 (.int .i64 (n : Int)) (.slice A m c) 66
  have hb2 := hb1.trans (hbA.mono hb1.size)
  have hz1 : (w1.alloc (.cells #[.int .i64 (n : Int), .slice A m c] 66)).heap.size = w1.heap.size + 1 := by simp
  go_wp2_with fail
  refine (HT.out _ (he.below hb2)).mono ?_
  rintro e w3 ⟨A3, c3, rfl, ho3, hb3⟩
  have hbb := hb2.trans (hb3.mono hb2.size)
  go_wp2
  go_ret2
  exact ⟨rfl, hbb⟩

theorem crt_int1 (a b pw : Nat) (ha : a < 2147483647) (hb : b < 2147483629) (hp : pw < 2147483629) :
    wrap64 ((a : Int) + wrap64 (2147483647 * (wrap64 (((b : Int) - (a : Int)) % 2147483629 * (pw : Int))).tmod 2147483629)) = ((a + 2147483647 * ((b + 2147483629 - a % 2147483629) % 2147483629 * pw % 2147483629) : Nat) : Int) := by
  have e1 : ((b : Int) - (a : Int)) % 2147483629 = (((b + 2147483629 - a % 2147483629) % 2147483629 : Nat) : Int) := by omega
  rw [e1]
  have hx : (b + 2147483629 - a % 2147483629) % 2147483629 < 2147483629 := Nat.mod_lt _ (by omega)
  generalize (b + 2147483629 - a % 2147483629) % 2147483629 = x at *
  have h2 : x * pw ≤ 2147483629 * 2147483629 := Nat.mul_le_mul (by omega) (by omega)
  have e2 : wrap64 ((x : Int) * (pw : Int)) = ((x * pw : Nat) : Int) := by rw [← Int.natCast_mul]; unfold wrap64; omega
  rw [e2]
  have e3 : (((x * pw : Nat) : Int)).tmod 2147483629 = ((x * pw % 2147483629 : Nat) : Int) := rfl
  rw [e3]
  have hk : x * pw % 2147483629 < 2147483629 := Nat.mod_lt _ (by omega)
  generalize x * pw % 2147483629 = k at *
  have e4 : wrap64 (2147483647 * (k : Int)) = ((2147483647 * k : Nat) : Int) := by unfold wrap64; omega
  rw [e4]
  unfold wrap64; omega
set_option maxHeartbeats 4000000 in
set_option maxRecDepth 100000 in
theorem Count_c (n : Nat) (A : Option Addr) (m c : Nat) (es : List Ed) (w : World) (he : RdE w A m es) (hnet : Net n es) (hb : okP n es = true) :
    Calls Try.prog 16 #[.int .i64 (n : Int), .slice A m c] w fun e w' => e = .returned (.tuple #[.int .i64 ((cntP n es : Nat) : Int), .int .i64 0]) ∧ Below w.heap.size w w' := by
  have HT0 : ∀ W, RdE W A m es → Calls Try.prog 40 #[netV n A m c] W fun e w' => ∃ A' c', e = .returned (.tuple #[.slice A' (treeP n es).length c', .bool (okP n es)]) ∧ OwnN w' W.heap.size A' (treeP n es).length c' (treeP n es) ∧ Below W.heap.size W w' := fun W h => tree_c n A m c es W h hnet.inN
  rw [hb] at HT0
  have HT := Lib.hid HT0
  clear HT0
  have HS1 := Lib.hid (fun W h => smallest_c 2147483647 n A m c es W h hnet.inN hnet.n1 (by omega) (by omega))
  have HS2 := Lib.hid (fun W h => smallest_c 2147483629 n A m c es W h hnet.inN hnet.n1 (by omega) (by omega))
  have hl1 := (smF_inv 2147483647 n es hnet.n1 (by omega) es.length).1
  have hl2 := (smF_inv 2147483629 n es hnet.n1 (by omega) es.length).1
  have hl1 : smP 2147483647 n es < 2147483647 := hl1
  have hl2 : smP 2147483629 n es < 2147483629 := hl2
  have HC := Lib.hid (show cntP n es = smP 2147483647 n es + 2147483647 * ((smP 2147483629 n es + 2147483629 - smP 2147483647 n es % 2147483629) % 2147483629 * powP 18 2147483627 2147483629 % 2147483629) from rfl)
  have hpl : powP 18 2147483627 2147483629 < 2147483629 := powP_lt (by omega)
  have HPW := Lib.hid (fun W => power_c 18 2147483627 2147483629 W (by omega) (by omega) (by omega) (by omega))
  generalize powP 18 2147483627 2147483629 = pw at *
  generalize smP 2147483647 n es = a at *
  generalize smP 2147483629 n es = b at *
  unfold netV at HS1 HS2
  have HN := Lib.hid (newNet_c n A m c _ w he)
  rw [net_yes hnet] at HN
  unfold netV at HT
  go_enter Try.func16, Try.ntmps16
  go_wp2_with fail
  refine HN.out.mono ?_
  rintro e w1 ⟨rfl, hb1⟩
  have hbA := below_one' w1 (.cells #[.int .i64 (n : Int), .slice A m c] 66)
  obtain ⟨hc0, hc1⟩ := two_cells w1 (.int .i64 (n : Int)) (.slice A m c) 66
  have hb2 := hb1.trans (hbA.mono hb1.size)
  have hz1 : (w1.alloc (.cells #[.int .i64 (n : Int), .slice A m c] 66)).heap.size = w1.heap.size + 1 := by simp
  go_wp2_with fail
  refine (HT.out _ (he.below hb2)).mono ?_
  rintro e w3 ⟨A3, c3, rfl, ho3, hb3⟩
  have hbb := hb2.trans (hb3.mono hb2.size)
  have hc03 := (hb3.cell (show w1.heap.size < _ by omega)).trans hc0
  have hc13 := (hb3.cell (show w1.heap.size < _ by omega)).trans hc1
  have he3 := he.below hbb
  clear hc0 hc1 hb3 ho3
  go_wp2
  refine wp_region_held_drew (S := fun w' => w'.cell? ⟨w1.heap.size, 0, none⟩ = some (.int .i64 (n : Int)) ∧ w'.cell? ⟨w1.heap.size, 1, none⟩ = some (.slice A m c)) (by kernel_rfl) ⟨hc03, hc13⟩ (fun hHeld => ?_)
  refine wpAnyH_take (i := 0) (oi := ⟨some 28, _, _, _, _, _⟩) (v := ?_) rfl (by kernel_rfl) (by kernel_rfl) (by kernel_rfl) (fun _ _ _ h => h) (Or.inl ⟨by rfl, fun w hSw => ?_⟩) (by assumption) ?_
  rotate_left
  · obtain ⟨hSa, hSb⟩ := hSw
    go_simp
    try with_reducible rfl
  try simp only [Act.put, List.setIfInBounds_toArray, List.set_cons_zero, List.set_cons_succ]
  refine wpAnyH_take (i := 2) (oi := ⟨some 30, _, _, _, _, _⟩) (v := ?_) rfl (by kernel_rfl) (by kernel_rfl) (by kernel_rfl) (fun _ _ _ h => h) (Or.inl ⟨by rfl, fun w hSw => ?_⟩) (by assumption) ?_
  rotate_left
  · obtain ⟨hSa, hSb⟩ := hSw
    go_simp
    try with_reducible rfl
  try simp only [Act.put, List.setIfInBounds_toArray, List.set_cons_zero, List.set_cons_succ]
  refine wpAnyH_ready (rs := [1]) (by kernel_rfl) (by simp) (AllReadyH.cons (o := ⟨some 29, _, _, _, _, _⟩) rfl (fun K hK => ?_) AllReadyH.nil)
  go_simp
  refine (HS1.out _ (he3.below (below_q w3 1))).mono ?_
  rintro e w4 ⟨rfl, hb4⟩
  have hb34 := (below_q w3 1).trans hb4
  have hc04 := Below.keeps hb34 _ _ hc03
  have hc14 := Below.keeps hb34 _ _ hc13
  refine hK.out _ _ ⟨hc04, hc14⟩ (fun hHeld => ?_)
  clear hK K
  try simp only [Act.put, List.setIfInBounds_toArray, List.set_cons_zero, List.set_cons_succ]
  refine wpAnyH_ready (rs := [3]) (by kernel_rfl) (by simp) (AllReadyH.cons (o := ⟨some 31, _, _, _, _, _⟩) rfl (fun K hK => ?_) AllReadyH.nil)
  go_simp
  refine (HS2.out _ (he3.below hb34)).mono ?_
  rintro e w5 ⟨rfl, hb5⟩
  have hb35 := hb34.trans (hb5.mono hb34.size)
  have hc05 := Below.keeps hb35 _ _ hc03
  have hc15 := Below.keeps hb35 _ _ hc13
  refine hK.out _ _ ⟨hc05, hc15⟩ (fun hHeld => ?_)
  clear hK K
  try simp only [Act.put, List.setIfInBounds_toArray, List.set_cons_zero, List.set_cons_succ]
  refine wpAnyH_take (i := 4) (oi := ⟨some 10, _, _, _, _, _⟩) (v := ?_) rfl (by kernel_rfl) (by kernel_rfl) (by kernel_rfl) (fun _ _ _ h => h) (Or.inl ⟨by rfl, fun w hSw => ?_⟩) (by assumption) ?_
  rotate_left
  · obtain ⟨hSa, hSb⟩ := hSw
    go_simp
    try with_reducible rfl
  try simp only [Act.put, List.setIfInBounds_toArray, List.set_cons_zero, List.set_cons_succ]
  refine wpAnyH_take (i := 5) (oi := ⟨some 11, _, _, _, _, _⟩) (v := ?_) rfl (by kernel_rfl) (by kernel_rfl) (by kernel_rfl) (fun _ _ _ h => h) (Or.inl ⟨by rfl, fun w hSw => ?_⟩) (by assumption) ?_
  rotate_left
  · obtain ⟨hSa, hSb⟩ := hSw
    go_simp
    try with_reducible rfl
  try simp only [Act.put, List.setIfInBounds_toArray, List.set_cons_zero, List.set_cons_succ]
  refine wpAnyH_done (by kernel_rfl) ?_ _
  have hbe := hbb.trans (hb35.mono hbb.size)
  go_wp2_with fail
  refine (HPW.out _).mono ?_
  rintro e w6 ⟨rfl, rfl⟩
  clear HS1 HS2 HPW
  go_wp2
  go_ret2
  rw [HC.out, crt_int1 a b pw hl1 hl2 hpl]
  exact ⟨rfl, hbe⟩

end Go.Proofs.Ytpfbichomgojoaa
