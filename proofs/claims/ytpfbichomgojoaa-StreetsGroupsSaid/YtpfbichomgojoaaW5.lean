/- Walks of the reference: Slack, Critical. -/
import Derived.Test.YtpfbichomgojoaaW4
import Derived.Deep.RegionHeld3
namespace Go.Proofs.Ytpfbichomgojoaa
open Go.RowKit

set_option maxHeartbeats 1500000 in
set_option maxRecDepth 100000 in
theorem RSlack_c (n : Nat) (A : Option Addr) (m c : Nat) (es : List Ed) (w : World) (he : RdE w A m es) (hnet : Net n es) :
    Calls Try.prog 32 #[.int .i64 (n : Int), .slice A m c] w fun e w' => ∃ A1 c1, e = .returned (.slice A1 m c1) ∧ OwnI w' w.heap.size A1 m c1 (slkR n es) ∧ Below w.heap.size w w' := by
  have hm : m ≤ 60 := by have := hnet.len; rw [he.len] at this; exact this
  have hn16 := hnet.n16
  have hle : (firstL n es).length ≤ m := by rw [← he.len]; exact takL_length_le n es _
  have hlt : ∀ x ∈ firstL n es, x < m := by intro x hx; rw [← he.len]; exact takL_lt x hx
  have HS := Lib.hid (show slkR n es = (List.range m).map (slkAt n es (firstL n es)) by unfold slkR; rw [he.len])
  go_enter Try.func32, Try.ntmps32
  go_wp2_with fail
  refine (First_c n A m c es w he hnet).mono ?_
  rintro e w1 ⟨A1, c1, rfl, ho1, hb1⟩
  have hT := ho1.rd
  have he1 := he.below hb1
  clear ho1 he
  generalize firstL n es = T at *
  go_wp2
  go_loopw [7, 8] (fun s i wr => ∃ k AX cX, k ≤ m ∧ i = .int .i64 ((k : Nat) : Int) ∧ s = .slice AX k cX ∧ OwnI wr w1.heap.size AX k cX ((List.range k).map (slkAt n es T)) ∧ Below w1.heap.size w1 wr) (fun _ i _ => m - (intOf i).toNat)
  case atStart => exact ⟨0, none, 0, Nat.zero_le _, rfl, rfl, OwnI.none_ _ _, Below.refl _ _⟩
  case round =>
    obtain ⟨k, AX, cX, hk, rfl, rfl, hoX, hbe⟩ := hrel
    by_cases hkm : k < m
    · go_wp2_with fail
      refine (has_n A1 T.length c1 T k wr (hT.below hbe) (by omega)).mono ?_
      rintro e w3 ⟨rfl, rfl⟩
      cases hh : hasN T k
      · have HH := Lib.hid hh
        clear hh
        go_wp2
        obtain ⟨wo, rfl⟩ : ∃ wo : World, wo = wr := ⟨_, rfl⟩
        go_loopw [9, 11] (fun b i wr => ∃ (j : Nat) (B : Int), j ≤ T.length ∧ i = .int .i64 ((j : Nat) : Int) ∧ b = .int .i64 B ∧ B = (T.take j).foldl (slkB n es T k) (-1) ∧ Below wo.heap.size wo wr) (fun _ i _ => T.length - (intOf i).toNat)
        case atStart => exact ⟨0, -1, Nat.zero_le _, rfl, rfl, rfl, Below.refl _ _⟩
        case round =>
          obtain ⟨j, B, hj, rfl, rfl, hB, hbq⟩ := hrel
          have hbw : Below w1.heap.size w1 wr := hbe.trans (hbq.mono hbe.size)
          have hBd := slkB_bd hnet T k (T.take j) (-1) (by omega)
          rw [← hB] at hBd
          by_cases hjT : j < T.length
          · have HF := Lib.hid (foldl_take_nat (f := slkB n es T k) (a := -1) hjT)
            rw [← hB] at HF
            clear hB
            have hx := hlt _ (nat_mem hjT)
            obtain ⟨b1, o1, rfl, _, h1⟩ := (hT.below hbw).at_ hjT
            generalize nat_ T j = x at *
            obtain ⟨b2, o2, rfl, hb2, _, _, h2⟩ := (he1.below hbw).at_ hx
            obtain ⟨_, _, e, _, _, _, h3⟩ := (he1.below hbw).at_ hkm
            injection e with e; injection e with e1 e2; subst e1 e2
            have hwx := ew_le hnet x
            have hwk := ew_le hnet k
            have hsl := swL_length T x k
            have HK := Lib.hid (show slkB n es T k B x = if isTreeN n es (swL T x k) then minB B ((ew es k : Int) - (ew es x : Int)) else B from rfl)
            go_wp2
            go_quiet (fail)
            go_wp2_with fail
            refine (Swapped_c _ T.length c1 T x k (wr.drewN nq) ((hT.below hbw).below (below_q wr nq)) (by omega)).mono ?_
            rintro e w4 ⟨A4, c4, rfl, ho4, hb4⟩
            have hbw4 : Below w1.heap.size w1 w4 := (drewN_below hbw nq).trans (hb4.mono hbw.size)
            have hbq4 : Below wo.heap.size wo w4 := (drewN_below hbq nq).trans (hb4.mono hbq.size)
            go_wp2_with fail
            refine (RTree_n n _ m c es A4 _ c4 (swL T x k) w4 (he1.below hbw4) ho4.rd hnet (by omega)).mono ?_
            rintro e w5 ⟨rfl, hb5⟩
            have hbq5 : Below wo.heap.size wo w5 := hbq4.trans (hb5.mono hbq4.size)
            clear h1 h2 h3 hbw hbq hb4 hb5 hbw4 ho4 hsl hbq4
            cases ht : isTreeN n es (swL T x k)
            · have HT := Lib.hid ht
              clear ht
              go_wp2
              exact ⟨⟨j + 1, B, by omega, by go_num, rfl, by rw [HF.out, HK.out, HT.out]; rfl, hbq5⟩, by simp [intOf]; omega⟩
            · have HT := Lib.hid ht
              clear ht
              by_cases hB0 : B < 0
              · have hd2 : decide (B < 0) = true := by simpa using hB0
                have HM := Lib.hid (show minB B ((ew es k : Int) - (ew es x : Int)) = (ew es k : Int) - (ew es x : Int) by unfold minB; rw [if_pos (.inl hB0)])
                go_wp2
                exact ⟨⟨j + 1, _, by omega, by go_num, rfl, by rw [HF.out, HK.out, HT.out]; exact HM.out.symm, hbq5⟩, by simp [intOf]; omega⟩
              · have hd2 : decide (B < 0) = false := by simpa using hB0
                by_cases hdB : (ew es k : Int) - (ew es x : Int) < B
                · have hd3 : decide ((ew es k : Int) - (ew es x : Int) < B) = true := by simpa using hdB
                  have HM := Lib.hid (show minB B ((ew es k : Int) - (ew es x : Int)) = (ew es k : Int) - (ew es x : Int) by unfold minB; rw [if_pos (.inr hdB)])
                  go_wp2
                  exact ⟨⟨j + 1, _, by omega, by go_num, rfl, by rw [HF.out, HK.out, HT.out]; exact HM.out.symm, hbq5⟩, by simp [intOf]; omega⟩
                · have hd3 : decide ((ew es k : Int) - (ew es x : Int) < B) = false := by simpa using hdB
                  have HM := Lib.hid (show minB B ((ew es k : Int) - (ew es x : Int)) = B by unfold minB; rw [if_neg (by omega)])
                  go_wp2
                  exact ⟨⟨j + 1, B, by omega, by go_num, rfl, by rw [HF.out, HK.out, HT.out]; exact HM.out.symm, hbq5⟩, by simp [intOf]; omega⟩
          · obtain rfl : j = T.length := by omega
            rw [List.take_length] at hB
            have HAt := Lib.hid (show slkAt n es T k = B by unfold slkAt; rw [HH.out]; exact hB.symm)
            have hoX' := own_below hoX hbq
            have hz := hbw.size
            clear hB hbq hoX
            go_wp2_with ((with_reducible show Go.wpList _ _ _ ({ dst := some 119, op := _, type := _, pos := _, after := _, guard := _ } :: _) _ _); refine wpList_push_i (v := B) hoX' rfl _ _ rfl rfl rfl (by omega) hz ?_; intro A5 c5 w5 ho5 hb5 hg5)
            exact ⟨⟨k + 1, A5, c5, by omega, by go_num, rfl, by rw [List.range_succ, List.map_append, List.map_singleton, HAt.out]; exact ho5, hbw.trans hb5⟩, by simp [intOf]; omega⟩
      · have HH := Lib.hid hh
        clear hh
        go_wp2
        obtain ⟨wo, rfl⟩ : ∃ wo : World, wo = wr := ⟨_, rfl⟩
        go_loopw [9, 10] (fun b i wr => ∃ (j : Nat) (B : Int), j ≤ m ∧ i = .int .i64 ((j : Nat) : Int) ∧ b = .int .i64 B ∧ B = (List.range j).foldl (slkA n es T k) (-1) ∧ Below wo.heap.size wo wr) (fun _ i _ => m - (intOf i).toNat)
        case atStart => exact ⟨0, -1, Nat.zero_le _, rfl, rfl, rfl, Below.refl _ _⟩
        case round =>
          obtain ⟨j, B, hj, rfl, rfl, hB, hbq⟩ := hrel
          have hBd := slkA_bd hnet T k (List.range j) (-1) (by omega)
          rw [← hB] at hBd
          by_cases hjm : j < m
          · have HF := Lib.hid (foldl_range (f := slkA n es T k) (a := -1) (k := j))
            rw [← hB] at HF
            clear hB
            have hbw : Below w1.heap.size w1 wr := hbe.trans (hbq.mono hbe.size)
            obtain ⟨b2, o2, rfl, hb2, _, _, h2⟩ := (he1.below hbw).at_ hjm
            obtain ⟨_, _, e, _, _, _, h3⟩ := (he1.below hbw).at_ hkm
            injection e with e; injection e with e1 e2; subst e1 e2
            cases hh2 : hasN T j
            · have HH2 := Lib.hid hh2
              clear hh2
              go_wp2
              refine wp_region_held_drew (S := fun w' => Below w1.heap.size w1 w') (by kernel_rfl) (drewN_below hbw 1) (fun hHeld => ?_)
              refine wpAnyH_take (i := 0) (oi := ⟨some 35, _, _, _, _, _⟩) (v := ?_) rfl (by kernel_rfl) (by kernel_rfl) (by kernel_rfl) (fun _ _ _ h => h) (Or.inl ⟨by rfl, fun w hSw => ?_⟩) (by assumption) ?_
              rotate_left
              · go_simp
                try with_reducible rfl
              try simp only [Act.put, List.setIfInBounds_toArray, List.set_cons_zero, List.set_cons_succ]
              refine wpAnyH_take (i := 1) (oi := ⟨some 36, _, _, _, _, _⟩) (v := ?_) rfl (by kernel_rfl) (by kernel_rfl) (by kernel_rfl) (fun _ _ _ h => h) (Or.inl ⟨by rfl, fun w hSw => ?_⟩) (by assumption) ?_
              rotate_left
              · go_simp
                try with_reducible rfl
              try simp only [Act.put, List.setIfInBounds_toArray, List.set_cons_zero, List.set_cons_succ]
              refine wpAnyH_ready (rs := [2]) (by kernel_rfl) (by simp) (AllReadyH.cons (o := ⟨some 37, _, _, _, _, _⟩) rfl (fun K hK => ?_) AllReadyH.nil)
              go_simp
              refine (has_n A1 T.length c1 T j wr.drew ((hT.below hbw).below (below_q wr 1)) (by omega)).mono ?_
              rintro e w3 ⟨rfl, rfl⟩
              rw [HH2.out]
              refine hK.out _ _ hHeld (fun hHeld => ?_)
              clear hK K
              try simp only [Act.put, List.setIfInBounds_toArray, List.set_cons_zero, List.set_cons_succ]
              refine wpAnyH_take (i := 3) (oi := ⟨some 38, _, _, _, _, _⟩) (v := ?_) rfl (by kernel_rfl) (by kernel_rfl) (by kernel_rfl) (fun _ _ _ h => h) (Or.inl ⟨by rfl, fun w hSw => ?_⟩) (by assumption) ?_
              rotate_left
              · go_simp
                try with_reducible rfl
              try simp only [Act.put, List.setIfInBounds_toArray, List.set_cons_zero, List.set_cons_succ]
              refine wpAnyH_take (i := 4) (oi := ⟨some 39, _, _, _, _, _⟩) (v := ?_) rfl (by kernel_rfl) (by kernel_rfl) (by kernel_rfl) (fun _ _ _ h => h) (Or.inl ⟨by rfl, fun w hSw => ?_⟩) (by assumption) ?_
              rotate_left
              · go_simp
                try with_reducible rfl
              try simp only [Act.put, List.setIfInBounds_toArray, List.set_cons_zero, List.set_cons_succ]
              refine wpAnyH_take (i := 5) (oi := ⟨some 40, _, _, _, _, _⟩) (v := ?_) rfl (by kernel_rfl) (by kernel_rfl) (by kernel_rfl) (fun _ _ _ h => h) (Or.inl ⟨by rfl, fun w hSw => ?_⟩) (by assumption) ?_
              rotate_left
              · go_simp
                try with_reducible rfl
              try simp only [Act.put, List.setIfInBounds_toArray, List.set_cons_zero, List.set_cons_succ]
              refine wpAnyH_take (i := 6) (oi := ⟨some 41, _, _, _, _, _⟩) (v := ?_) rfl (by kernel_rfl) (by kernel_rfl) (by kernel_rfl) (fun _ _ _ h => h) (Or.inl ⟨by rfl, fun w hSw => ?_⟩) (by assumption) ?_
              rotate_left
              · go_simp
                try with_reducible rfl
              try simp only [Act.put, List.setIfInBounds_toArray, List.set_cons_zero, List.set_cons_succ]
              refine wpAnyH_take (i := 7) (oi := ⟨some 42, _, _, _, _, _⟩) (v := ?_) rfl (by kernel_rfl) (by kernel_rfl) (by kernel_rfl) (fun _ _ _ h => h) (Or.inl ⟨by rfl, fun w hSw => ?_⟩) (by assumption) ?_
              rotate_left
              · go_simp
                try with_reducible rfl
              try simp only [Act.put, List.setIfInBounds_toArray, List.set_cons_zero, List.set_cons_succ]
              refine wpAnyH_take (i := 8) (oi := ⟨some 43, _, _, _, _, _⟩) (v := ?_) rfl (by kernel_rfl) (by kernel_rfl) (by kernel_rfl) (fun _ _ _ h => h) (Or.inl ⟨by rfl, fun w hSw => ?_⟩) (by assumption) ?_
              rotate_left
              · go_simp
                try with_reducible rfl
              try simp only [Act.put, List.setIfInBounds_toArray, List.set_cons_zero, List.set_cons_succ]
              refine wpAnyH_take (i := 9) (oi := ⟨some 44, _, _, _, _, _⟩) (v := ?_) rfl (by kernel_rfl) (by kernel_rfl) (by kernel_rfl) (fun _ _ _ h => h) (Or.inl ⟨by rfl, fun w hSw => ?_⟩) (by assumption) ?_
              rotate_left
              · go_simp
                try with_reducible rfl
              try simp only [Act.put, List.setIfInBounds_toArray, List.set_cons_zero, List.set_cons_succ]
              refine wpAnyH_ready (rs := [10]) (by kernel_rfl) (by simp) (AllReadyH.cons (o := ⟨some 45, _, _, _, _, _⟩) rfl (fun K hK => ?_) AllReadyH.nil)
              go_simp
              refine (Swapped_c A1 T.length c1 T k j wr.drew ((hT.below hbw).below (below_q wr 1)) (by omega)).mono ?_
              rintro e w4 ⟨A4, c4, rfl, ho4, hb4⟩
              have hbw4 : Below w1.heap.size w1 w4 := Below.trans hHeld (hb4.mono (Below.size hHeld))
              refine hK.out _ _ hbw4 (fun hHeld => ?_)
              clear hK K
              try simp only [Act.put, List.setIfInBounds_toArray, List.set_cons_zero, List.set_cons_succ]
              refine wpAnyH_ready (rs := [11]) (by kernel_rfl) (by simp) (AllReadyH.cons (o := ⟨some 46, _, _, _, _, _⟩) rfl (fun K hK => ?_) AllReadyH.nil)
              go_simp
              have hsl := swL_length T k j
              refine (RTree_n n _ m c es A4 _ c4 (swL T k j) w4 (he1.below hbw4) ho4.rd hnet (by omega)).mono ?_
              rintro e w5 ⟨rfl, hb5⟩
              have hbw5 : Below w1.heap.size w1 w5 := hbw4.trans (hb5.mono hbw4.size)
              refine hK.out _ _ hbw5 (fun hHeld => ?_)
              clear hK K
              try simp only [Act.put, List.setIfInBounds_toArray, List.set_cons_zero, List.set_cons_succ]
              obtain ⟨_, _, e, _, _, _, hw2⟩ := (he1.below hbw5).at_ hjm
              injection e with e; injection e with e1 e2; subst e1 e2
              obtain ⟨_, _, e, _, _, _, hw3⟩ := (he1.below hbw5).at_ hkm
              injection e with e; injection e with e1 e2; subst e1 e2
              have hbq5 : Below wo.heap.size wo w5 := hbq.trans (((below_q wr 1).trans (hb4.mono (by simp))).trans (hb5.mono (Nat.le_trans (by simp) hb4.size))|>.mono hbq.size)
              clear h2 h3 hbw hbq hb4 hb5 hbw4 ho4 hsl
              have HK := Lib.hid (show slkA n es T k B j = if !hasN T j && isTreeN n es (swL T k j) then minB B ((ew es j : Int) - (ew es k : Int)) else B from rfl)
              rcases Bool.eq_false_or_eq_true (isTreeN n es (swL T k j)) with ht | ht
              · rw [ht]
                have HT := Lib.hid ht
                clear ht
                have hwj := ew_le hnet j
                have hwk := ew_le hnet k
                by_cases hB0 : B < 0
                · have hd2 : decide (B < 0) = true := by simpa using hB0
                  have HM := Lib.hid (show minB B ((ew es j : Int) - (ew es k : Int)) = (ew es j : Int) - (ew es k : Int) by unfold minB; rw [if_pos (.inl hB0)])
                  refine wpAnyH_take (i := 12) (oi := ⟨some 47, _, _, _, _, _⟩) (v := ?_) rfl (by kernel_rfl) (by kernel_rfl) (by kernel_rfl) (fun _ _ _ h => h) (Or.inl ⟨by rfl, fun w hSw => ?_⟩) (by assumption) ?_
                  rotate_left
                  · go_simp
                    try with_reducible rfl
                  try simp only [Act.put, List.setIfInBounds_toArray, List.set_cons_zero, List.set_cons_succ]
                  refine wpAnyH_take (i := 13) (oi := ⟨some 48, _, _, _, _, _⟩) (v := ?_) rfl (by kernel_rfl) (by kernel_rfl) (by kernel_rfl) (fun _ _ _ h => h) (Or.inl ⟨by rfl, fun w hSw => ?_⟩) (by assumption) ?_
                  rotate_left
                  · go_simp
                    try with_reducible rfl
                  try simp only [Act.put, List.setIfInBounds_toArray, List.set_cons_zero, List.set_cons_succ]
                  refine wpAnyH_tail 14 (by kernel_rfl) (by kernel_rfl) (by kernel_rfl) (fun n => drewN_below hbw5 n) ?_
                  simp only [List.drop_succ_cons, List.drop_zero]
                  repeat (go_big_quiet_step (fail))
                  refine wpQuiet_nil ?_
                  rintro w6 ⟨nq, rfl⟩
                  go_wp2
                  go_quiet (fail)
                  go_wp2
                  exact ⟨⟨j + 1, _, by omega, by go_num, rfl, by rw [HF.out, HK.out, HT.out, HH2.out]; exact HM.out.symm, drewN_below hbq5 _⟩, by simp [intOf]; omega⟩
                · have hd2 : decide (B < 0) = false := by simpa using hB0
                  by_cases hdB : (ew es j : Int) - (ew es k : Int) < B
                  · have hd3 : decide ((ew es j : Int) - (ew es k : Int) < B) = true := by simpa using hdB
                    have HM := Lib.hid (show minB B ((ew es j : Int) - (ew es k : Int)) = (ew es j : Int) - (ew es k : Int) by unfold minB; rw [if_pos (.inr hdB)])
                    refine wpAnyH_take (i := 12) (oi := ⟨some 47, _, _, _, _, _⟩) (v := ?_) rfl (by kernel_rfl) (by kernel_rfl) (by kernel_rfl) (fun _ _ _ h => h) (Or.inl ⟨by rfl, fun w hSw => ?_⟩) (by assumption) ?_
                    rotate_left
                    · go_simp
                      try with_reducible rfl
                    try simp only [Act.put, List.setIfInBounds_toArray, List.set_cons_zero, List.set_cons_succ]
                    refine wpAnyH_take (i := 13) (oi := ⟨some 48, _, _, _, _, _⟩) (v := ?_) rfl (by kernel_rfl) (by kernel_rfl) (by kernel_rfl) (fun _ _ _ h => h) (Or.inl ⟨by rfl, fun w hSw => ?_⟩) (by assumption) ?_
                    rotate_left
                    · go_simp
                      try with_reducible rfl
                    try simp only [Act.put, List.setIfInBounds_toArray, List.set_cons_zero, List.set_cons_succ]
                    refine wpAnyH_tail 14 (by kernel_rfl) (by kernel_rfl) (by kernel_rfl) (fun n => drewN_below hbw5 n) ?_
                    simp only [List.drop_succ_cons, List.drop_zero]
                    repeat (go_big_quiet_step (fail))
                    refine wpQuiet_nil ?_
                    rintro w6 ⟨nq, rfl⟩
                    go_wp2
                    go_quiet (fail)
                    go_wp2
                    exact ⟨⟨j + 1, _, by omega, by go_num, rfl, by rw [HF.out, HK.out, HT.out, HH2.out]; exact HM.out.symm, drewN_below hbq5 _⟩, by simp [intOf]; omega⟩
                  · have hd3 : decide ((ew es j : Int) - (ew es k : Int) < B) = false := by simpa using hdB
                    have HM := Lib.hid (show minB B ((ew es j : Int) - (ew es k : Int)) = B by unfold minB; rw [if_neg (by omega)])
                    refine wpAnyH_take (i := 12) (oi := ⟨some 47, _, _, _, _, _⟩) (v := ?_) rfl (by kernel_rfl) (by kernel_rfl) (by kernel_rfl) (fun _ _ _ h => h) (Or.inl ⟨by rfl, fun w hSw => ?_⟩) (by assumption) ?_
                    rotate_left
                    · go_simp
                      try with_reducible rfl
                    try simp only [Act.put, List.setIfInBounds_toArray, List.set_cons_zero, List.set_cons_succ]
                    refine wpAnyH_take (i := 13) (oi := ⟨some 48, _, _, _, _, _⟩) (v := ?_) rfl (by kernel_rfl) (by kernel_rfl) (by kernel_rfl) (fun _ _ _ h => h) (Or.inl ⟨by rfl, fun w hSw => ?_⟩) (by assumption) ?_
                    rotate_left
                    · go_simp
                      try with_reducible rfl
                    try simp only [Act.put, List.setIfInBounds_toArray, List.set_cons_zero, List.set_cons_succ]
                    refine wpAnyH_tail 14 (by kernel_rfl) (by kernel_rfl) (by kernel_rfl) (fun n => drewN_below hbw5 n) ?_
                    simp only [List.drop_succ_cons, List.drop_zero]
                    repeat (go_big_quiet_step (fail))
                    refine wpQuiet_nil ?_
                    rintro w6 ⟨nq, rfl⟩
                    go_wp2
                    exact ⟨⟨j + 1, B, by omega, by go_num, rfl, by rw [HF.out, HK.out, HT.out, HH2.out]; exact HM.out.symm, drewN_below hbq5 _⟩, by simp [intOf]; omega⟩
              · rw [ht]
                have HT := Lib.hid ht
                clear ht
                refine wpAnyH_take (i := 12) (oi := ⟨some 47, _, _, _, _, _⟩) (v := ?_) rfl (by kernel_rfl) (by kernel_rfl) (by kernel_rfl) (fun _ _ _ h => h) (Or.inl ⟨by rfl, fun w hSw => ?_⟩) (by assumption) ?_
                rotate_left
                · go_simp
                  try with_reducible rfl
                try simp only [Act.put, List.setIfInBounds_toArray, List.set_cons_zero, List.set_cons_succ]
                refine wpAnyH_take (i := 13) (oi := ⟨some 48, _, _, _, _, _⟩) (v := ?_) rfl (by kernel_rfl) (by kernel_rfl) (by kernel_rfl) (fun _ _ _ h => h) (Or.inl ⟨by rfl, fun w hSw => ?_⟩) (by assumption) ?_
                rotate_left
                · go_simp
                  try with_reducible rfl
                try simp only [Act.put, List.setIfInBounds_toArray, List.set_cons_zero, List.set_cons_succ]
                refine wpAnyH_tail 14 (by kernel_rfl) (by kernel_rfl) (by kernel_rfl) (fun n => drewN_below hbw5 n) ?_
                simp only [List.drop_succ_cons, List.drop_zero]
                repeat (go_big_quiet_step (fail))
                refine wpQuiet_nil ?_
                rintro w6 ⟨nq, rfl⟩
                go_wp2
                exact ⟨⟨j + 1, B, by omega, by go_num, rfl, by rw [HF.out, HK.out, HT.out, HH2.out]; rfl, drewN_below hbq5 _⟩, by simp [intOf]; omega⟩
            · have HQ := Lib.hid (fun q => hh2 ▸ has_n A1 T.length c1 T j (wr.drewN q) ((hT.below hbw).below (below_q _ _)) (by omega))
              have HH2 := Lib.hid hh2
              clear hh2
              go_wp2
              go_quiet ((go_at_call 51; exact quietL (HQ.out _)))
              go_wp2
              exact ⟨⟨j + 1, B, by omega, by go_num, rfl, by rw [HF.out]; unfold slkA; rw [HH2.out]; rfl, drewN_below hbq _⟩, by simp [intOf]; omega⟩
          · obtain rfl : j = m := by omega
            have hbw : Below w1.heap.size w1 wr := hbe.trans (hbq.mono hbe.size)
            have HAt := Lib.hid (show slkAt n es T k = B by unfold slkAt; rw [HH.out, he1.len]; exact hB.symm)
            have hoX' := own_below hoX hbq
            have hz := hbw.size
            clear hB hbq hoX
            go_wp2_with ((with_reducible show Go.wpList _ _ _ ({ dst := some 119, op := _, type := _, pos := _, after := _, guard := _ } :: _) _ _); refine wpList_push_i (v := B) hoX' rfl _ _ rfl rfl rfl (by omega) hz ?_; intro A5 c5 w5 ho5 hb5 hg5)
            exact ⟨⟨k + 1, A5, c5, by omega, by go_num, rfl, by rw [List.range_succ, List.map_append, List.map_singleton, HAt.out]; exact ho5, hbw.trans hb5⟩, by simp [intOf]; omega⟩
    · obtain rfl : k = m := by omega
      go_wp2
      go_ret
      exact ⟨AX, cX, rfl, by rw [HS.out]; exact own_mono hoX hb1.size, hb1.trans (hbe.mono hb1.size)⟩

end Go.Proofs.Ytpfbichomgojoaa
