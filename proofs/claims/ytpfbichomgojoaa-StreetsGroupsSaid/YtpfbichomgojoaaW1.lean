/- Walks of the reference's small functions: start, join, has, Order. -/
import Derived.Test.YtpfbichomgojoaaK
namespace Go.Proofs.Ytpfbichomgojoaa
open Go.RowKit

theorem ret_bool {a b : Bool} (h : a = b) : Ending.returned (.bool a) = .returned (.bool b) := by rw [h]
theorem ret_int {a b : Int} (h : a = b) : Ending.returned (.int .i64 a) = .returned (.int .i64 b) := by rw [h]
theorem ret_slice {A : Option Addr} {n m c : Nat} (h : n = m) : Ending.returned (.slice A n c) = .returned (.slice A m c) := by rw [h]

set_option maxHeartbeats 400000 in
theorem start_c (n : Nat) (w : World) (hn : n ≤ 1000) :
    Calls Try.prog 46 #[.int .i64 (n : Int)] w fun e w' => ∃ A c, e = .returned (.slice A n c) ∧ OwnN w' w.heap.size A n c (List.range n) ∧ Below w.heap.size w w' := by
  go_enter Try.func46, Try.ntmps46
  go_wp2
  go_loopw [3, 4] (fun s i wr => ∃ k A c, k ≤ n ∧ i = .int .i64 ((k : Nat) : Int) ∧ s = .slice A k c ∧ OwnN wr w.heap.size A k c (List.range k) ∧ Below w.heap.size w wr) (fun _ i _ => n - (intOf i).toNat)
  case atStart => exact ⟨0, none, 0, Nat.zero_le _, rfl, rfl, World.ownsRow_nil _ _ _ _, Below.refl _ _⟩
  case round =>
    obtain ⟨k, A, c, hk, rfl, rfl, ho, hb⟩ := hrel
    by_cases hlt : k < n
    · have hB := hb.size
      go_wp2_with (at_builtin; refine wpList_push_n ho rfl _ _ rfl rfl rfl ?_ hB ?_; (any_goals omega); intro A' c' w' ho' hb' hg')
      exact ⟨⟨k + 1, A', c', by omega, by go_num, rfl, by rw [List.range_succ]; exact ho', hb.trans hb'⟩, by simp [intOf]; omega⟩
    · go_wp2
      go_ret
      obtain rfl : k = n := by omega
      exact ⟨A, c, rfl, ho, hb⟩

theorem ite_min (a b : Nat) : (if b < a then ((b : Nat) : Int) else (a : Int)) = ((min a b : Nat) : Int) := by
  split <;> (congr 1; omega)
theorem ite_max (a b : Nat) : (if a < b then ((b : Nat) : Int) else (a : Int)) = ((max a b : Nat) : Int) := by
  split <;> (congr 1; omega)
set_option maxHeartbeats 400000 in
theorem rjoin_c (A : Option Addr) (n c : Nat) (g : List Nat) (a b : Nat) (w : World) (hg : RdN w A n g) (hn : n ≤ 1000) (ha : a < n) (hb : b < n) (hlt : ∀ i, nat_ g i ≤ 1000) :
    Calls Try.prog 49 #[.slice A n c, .int .i64 (a : Int), .int .i64 (b : Int)] w fun e w' => ∃ A' c', e = .returned (.slice A' n c') ∧ OwnN w' w.heap.size A' n c' (joinL g a b) ∧ Below w.heap.size w w' := by
  obtain ⟨b0, o0, rfl, hb0, h1⟩ := hg.at_ ha
  obtain ⟨_, _, he, _, h2⟩ := hg.at_ hb
  injection he with he; injection he with e1 e2; subst e1 e2
  go_enter Try.func49, Try.ntmps49
  go_wp2
  go_wp2
  go_quiet (fail)
  rw [ite_min, ite_max]
  have hx : min (nat_ g a) (nat_ g b) ≤ 1000 := by have := hlt a; omega
  have hy : max (nat_ g a) (nat_ g b) ≤ 1000 := by have := hlt a; have := hlt b; omega
  generalize ex : min (nat_ g a) (nat_ g b) = x at hx ⊢
  generalize ey : max (nat_ g a) (nat_ g b) = y at hy ⊢
  have HE : Hid (joinL g a b = g.map fun z => if z = y then x else z) := by unfold joinL; rw [ex, ey]; exact rfl
  clear ex ey h1 h2
  go_wp2
  go_loopw [9, 10] (fun s i wr => ∃ k A' c', k ≤ n ∧ i = .int .i64 ((k : Nat) : Int) ∧ s = .slice A' k c' ∧ OwnN wr w.heap.size A' k c' ((g.take k).map fun z => if z = y then x else z) ∧ Below w.heap.size w wr) (fun _ i _ => n - (intOf i).toNat)
  case atStart => exact ⟨0, none, 0, Nat.zero_le _, rfl, rfl, World.ownsRow_nil _ _ _ _, below_drewN (Below.refl _ _) _⟩
  case round =>
    obtain ⟨k, A', c', hk, rfl, rfl, ho, hbe⟩ := hrel
    by_cases hkn : k < n
    · have hB := hbe.size
      obtain ⟨_, _, he, _, h1⟩ := (hg.below hbe).at_ hkn
      injection he with he; injection he with e1 e2; subst e1 e2
      have hz := hlt k
      have htk := take_nat (xs := g) (k := k) (by rw [hg.1]; exact hkn)
      by_cases hxy : nat_ g k = y
      · have hc : ((nat_ g k : Int) == (y : Int)) = true := by simp; omega
        have HT := Lib.hid htk
        have HX := Lib.hid hxy
        clear htk hxy
        go_wp2_with (at_builtin; refine wpList_push_n ho rfl _ _ rfl rfl rfl ?_ hB ?_; (any_goals omega); intro A'' c'' w' ho' hb' hg')
        exact ⟨⟨k + 1, A'', c'', by omega, by go_num, rfl, by rw [HT.out]; simpa [HX.out] using ho', hbe.trans hb'⟩, by simp [intOf]; omega⟩
      · have hc : ((nat_ g k : Int) == (y : Int)) = false := by simp; omega
        have HT := Lib.hid htk
        have HX := Lib.hid hxy
        clear htk hxy
        go_wp2_with (at_builtin; refine wpList_push_n ho rfl _ _ rfl rfl rfl ?_ hB ?_; (any_goals omega); intro A'' c'' w' ho' hb' hg')
        exact ⟨⟨k + 1, A'', c'', by omega, by go_num, rfl, by rw [HT.out]; simpa [HX.out] using ho', hbe.trans hb'⟩, by simp [intOf]; omega⟩
    · go_wp2
      go_ret
      obtain rfl : k = n := by omega
      exact ⟨A', c', rfl, by rw [HE.out]; rw [List.take_of_length_le (by rw [hg.1]; exact Nat.le_refl _)] at ho; exact ho, hbe⟩

set_option maxHeartbeats 400000 in
theorem has_c (A : Option Addr) (n c : Nat) (xs : List Int) (x : Int) (w : World) (hx : RdI w A n xs) (hn : n ≤ 100000) :
    Calls Try.prog 51 #[.slice A n c, .int .i64 x] w fun e w' => e = .returned (.bool (hasI xs x)) ∧ w = w' := by
  go_enter Try.func51, Try.ntmps51
  go_wp2
  go_loop [5] (fun i => ∃ k : Nat, k ≤ n ∧ i = .int .i64 k ∧ hasI (xs.take k) x = false) (fun i => n - (intOf i).toNat)
  case atStart => exact ⟨0, Nat.zero_le _, rfl, rfl⟩
  case round =>
    obtain ⟨k, hk, rfl, hne⟩ := hrel
    have H := Lib.hid hne
    clear hne
    by_cases hlt : k < n
    · obtain ⟨b, o, rfl, _, h1⟩ := hx.at_ hlt
      have hkl : k < xs.length := by rw [hx.1]; exact hlt
      by_cases he : int_ xs k = x
      · have hd : (int_ xs k == x) = true := by simp [he]
        have HE := Lib.hid he
        clear he
        go_wp2
        go_ret
        exact ⟨ret_bool (hasI_yes hkl HE.out).symm, rfl⟩
      · have hd : (int_ xs k == x) = false := by simp [he]
        have HE := Lib.hid he
        clear he
        go_wp2
        exact ⟨⟨k + 1, by omega, by go_num, hasI_no hkl H.out HE.out⟩, by simp [intOf]; omega⟩
    · go_wp2
      go_ret
      obtain rfl : k = n := by omega
      have h := H.out
      rw [List.take_of_length_le (by rw [hx.1]; exact Nat.le_refl _)] at h
      exact ⟨ret_bool h.symm, rfl⟩

set_option maxHeartbeats 400000 in
theorem Order_c (A : Option Addr) (n c : Nat) (es : List Ed) (w : World) (he : RdE w A n es) (hn : n ≤ 1000) :
    Calls Try.prog 47 #[.slice A n c] w fun e w' => ∃ A' c', e = .returned (.slice A' n c') ∧ OwnN w' w.heap.size A' n c' (ordL es) ∧ Below w.heap.size w w' := by
  go_enter Try.func47, Try.ntmps47
  go_wp2
  go_loopw [3, 4] (fun s i wr => ∃ k A' c', k ≤ n ∧ i = .int .i64 ((k : Nat) : Int) ∧ s = .slice A' k c' ∧ OwnN wr w.heap.size A' k c' (ordK es k) ∧ Below w.heap.size w wr) (fun _ i _ => n - (intOf i).toNat)
  case atStart => exact ⟨0, none, 0, Nat.zero_le _, rfl, rfl, World.ownsRow_nil _ _ _ _, Below.refl _ _⟩
  case round =>
    obtain ⟨k, A', c', hk, rfl, rfl, ho, hbe⟩ := hrel
    by_cases hkn : k < n
    · go_wp2
      obtain ⟨wo, rfl⟩ : ∃ wo : World, wo = wr := ⟨_, rfl⟩
      go_loopw [5] (fun i wr => ∃ j : Nat, j ≤ k ∧ i = .int .i64 ((j : Nat) : Int) ∧ (∀ q, q < j → ew es (nat_ (ordK es k) q) ≤ ew es k) ∧ ∃ q, wr = wo.drewN q) (fun i _ => k - (intOf i).toNat)
      case atStart => exact ⟨0, Nat.zero_le _, rfl, fun q h => absurd h (Nat.not_lt_zero _), 0, rfl⟩
      case round =>
        obtain ⟨j, hj, rfl, hall, q, rfl⟩ := hrel
        have HA := Lib.hid hall
        clear hall
        by_cases hjk : j < k
        · obtain ⟨b1, o1, rfl, _, h1⟩ := ho.rd.at_ hjk
          have hm : nat_ (ordK es k) j < k := (ordK_mem es k _).1 (nat_mem (by rw [ordK_length]; exact hjk))
          obtain ⟨b2, o2, rfl, _, _, _, h2⟩ := (he.below hbe).at_ (show nat_ (ordK es k) j < n by omega)
          obtain ⟨_, _, e, _, _, _, h3⟩ := (he.below hbe).at_ hkn
          injection e with e; injection e with e1 e2; subst e1 e2
          generalize eq : nat_ (ordK es k) j = p at h1 h2 hm
          have HP := Lib.hid eq
          clear eq
          by_cases hle : ew es p ≤ ew es k
          · have hd : decide (((ew es p : Nat) : Int) ≤ ((ew es k : Nat) : Int)) = true := by simp; omega
            go_wp2
            go_quiet (fail)
            go_wp2
            exact ⟨⟨j + 1, by omega, by go_num, fun q' hq' => by
              rcases Nat.lt_or_ge q' j with h | h
              · exact HA.out q' h
              · obtain rfl : q' = j := by omega
                rw [HP.out]; exact hle, _, rfl⟩, by simp [intOf]; omega⟩
          · have hd : decide (((ew es p : Nat) : Int) ≤ ((ew es k : Nat) : Int)) = false := by simp; omega
            have HI := Lib.hid (insL_at es (ordK es k) k j (by rw [ordK_length]; exact hj) HA.out (.inr (by rw [HP.out]; exact hle)))
            go_wp2
            go_quiet (fail)
            clear h1 h2 h3 hd hle hm
            generalize hwq : World.drewN _ nq = wq
            have hbq : Below wo.heap.size wo wq := by rw [← hwq]; exact drewN_below (drewN_below (Below.refl _ _) _) _
            clear hwq
            have hoq : OwnN wq w.heap.size _ k c' (ordK es k) := own_below ho hbq
            have hbeq := hbe.trans (hbq.mono hbe.size)
            have hq := hbeq.size
            clear hbq ho hbe
            have hcp := own_cap hoq
            have hnone : OwnN wq wq.heap.size none 0 0 [] := OwnN.none_ _ _
            have hrt := hoq.rd.take hj
            go_wp2_with (first | ((with_reducible show Go.wpList _ _ _ ({ dst := some 38, op := _, type := _, pos := _, after := _, guard := _ } :: _) _ _); refine wpList_sliceH sl24 rfl _ _ rfl rfl rfl (by omega) ?_) | ((with_reducible show Go.wpList _ _ _ ({ dst := some 47, op := _, type := _, pos := _, after := _, guard := _ } :: _) _ _); refine wpList_sliceL sl24 rfl _ _ rfl rfl rfl (by omega) ?_; intro A9 hA9; have hrd := ((hoq.rd.drop hA9 hcp.1).below (hb1.trans hb2))) | ((with_reducible show Go.wpList _ _ _ ({ dst := some 39, op := _, type := _, pos := _, after := _, guard := _ } :: _) _ _); refine wpList_app_n hnone hrt rfl _ _ rfl rfl rfl (by omega) (Nat.le_refl _) ?_; intro A1 c1 w1 ho1 hb1 hg1; simp only [Nat.zero_add, List.nil_append] at ho1; have hz1 := hb1.size) | ((with_reducible show Go.wpList _ _ _ ({ dst := some 43, op := _, type := _, pos := _, after := _, guard := _ } :: _) _ _); refine wpList_push_n (v := k) ho1 rfl _ _ rfl rfl rfl (by omega) hz1 ?_; intro A2 c2 w2 ho2 hb2 hg2; have hz2 := hb2.size) | ((with_reducible show Go.wpList _ _ _ ({ dst := some 48, op := _, type := _, pos := _, after := _, guard := _ } :: _) _ _); refine wpList_app_n ho2 hrd rfl _ _ rfl rfl rfl (by omega) (by omega) ?_; intro A3 c3 w3 ho3 hb3 hg3))
            have h3 : j + 1 + (k - j) = k + 1 := by omega
            rw [h3] at ho3
            have hb13 : Below wq.heap.size wq w3 := (hb1.trans hb2).trans hb3
            have hfin : OwnN w3 w.heap.size A3 (k + 1) c3 (ordK es (k + 1)) := own_mono (by rw [ordK_succ, HI.out]; exact ho3) hq
            exact ⟨⟨k + 1, A3, c3, by omega, by go_num, by rw [h3], hfin, hbeq.trans (hb13.mono hq)⟩, by simp [intOf]; omega⟩
        · have HI := Lib.hid (insL_at es (ordK es k) k j (by rw [ordK_length]; exact hj) HA.out (.inl (by rw [ordK_length]; omega)))
          go_wp2
          go_quiet (fail)
          generalize hwq : World.drewN _ nq = wq
          have hbq : Below wo.heap.size wo wq := by rw [← hwq]; exact drewN_below (drewN_below (Below.refl _ _) _) _
          clear hwq
          have hoq : OwnN wq w.heap.size _ k c' (ordK es k) := own_below ho hbq
          have hbeq := hbe.trans (hbq.mono hbe.size)
          have hq := hbeq.size
          clear hbq ho hbe
          have hcp := own_cap hoq
          have hnone : OwnN wq wq.heap.size none 0 0 [] := OwnN.none_ _ _
          have hrt := hoq.rd.take hj
          go_wp2_with (first | ((with_reducible show Go.wpList _ _ _ ({ dst := some 38, op := _, type := _, pos := _, after := _, guard := _ } :: _) _ _); refine wpList_sliceH sl24 rfl _ _ rfl rfl rfl (by omega) ?_) | ((with_reducible show Go.wpList _ _ _ ({ dst := some 47, op := _, type := _, pos := _, after := _, guard := _ } :: _) _ _); refine wpList_sliceL sl24 rfl _ _ rfl rfl rfl (by omega) ?_; intro A9 hA9; have hrd := ((hoq.rd.drop hA9 hcp.1).below (hb1.trans hb2))) | ((with_reducible show Go.wpList _ _ _ ({ dst := some 39, op := _, type := _, pos := _, after := _, guard := _ } :: _) _ _); refine wpList_app_n hnone hrt rfl _ _ rfl rfl rfl (by omega) (Nat.le_refl _) ?_; intro A1 c1 w1 ho1 hb1 hg1; simp only [Nat.zero_add, List.nil_append] at ho1; have hz1 := hb1.size) | ((with_reducible show Go.wpList _ _ _ ({ dst := some 43, op := _, type := _, pos := _, after := _, guard := _ } :: _) _ _); refine wpList_push_n (v := k) ho1 rfl _ _ rfl rfl rfl (by omega) hz1 ?_; intro A2 c2 w2 ho2 hb2 hg2; have hz2 := hb2.size) | ((with_reducible show Go.wpList _ _ _ ({ dst := some 48, op := _, type := _, pos := _, after := _, guard := _ } :: _) _ _); refine wpList_app_n ho2 hrd rfl _ _ rfl rfl rfl (by omega) (by omega) ?_; intro A3 c3 w3 ho3 hb3 hg3))
          have h3 : j + 1 + (k - j) = k + 1 := by omega
          rw [h3] at ho3
          have hb13 : Below wq.heap.size wq w3 := (hb1.trans hb2).trans hb3
          have hfin : OwnN w3 w.heap.size A3 (k + 1) c3 (ordK es (k + 1)) := own_mono (by rw [ordK_succ, HI.out]; exact ho3) hq
          exact ⟨⟨k + 1, A3, c3, by omega, by go_num, by rw [h3], hfin, hbeq.trans (hb13.mono hq)⟩, by simp [intOf]; omega⟩
    · go_wp2
      go_ret
      obtain rfl : k = n := by omega
      exact ⟨A', c', rfl, by unfold ordL; rw [he.len]; exact ho, hbe⟩
end Go.Proofs.Ytpfbichomgojoaa
